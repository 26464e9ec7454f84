/- Each operation of the evaluator is carried out by the machine in the same way: memory, structs, slices. -/
import Derived.Test.YtkjkcoemloakhaaGreatVae3
set_option linter.unusedVariables false
set_option linter.unusedSimpArgs false
namespace Go.Vae
open Go Go.RowKit

variable {P : Program} {T : Tabs} {x : Cx} {j : Inj} {B : Nat → Option AO} {w : World}

def nv (s : Sem Value) : Sem Next := do pure (.value (← s))
def nu (s : Sem Unit) : Sem Next := do s; pure .skip

theorem nv_run {s : Sem Value} {v : Value} {w' : World} (h : s.run P w = .ok v w') : (nv s).run P w = .ok (.value v) w' := by
  unfold nv; rw [Sem.run_bind, h]; rfl

theorem nu_run {s : Sem Unit} {w' : World} (h : s.run P w = .ok () w') : (nu s).run P w = .ok .skip w' := by
  unfold nu; rw [Sem.run_bind, h]; rfl

theorem VR.ptr {a : Addr} {v' : Value} (h : VR j (.pointer (some a)) v') : ∃ a', v' = .pointer (some a') ∧ AddrR j a a' := by
  have := h.sr (by simp) (by simp)
  cases this with
  | ptr h' => exact ⟨_, rfl, h'⟩

theorem VR.int {k : IntKind} {n : Int} {v' : Value} (h : VR j (.int k n) v') : v' = .int k n := by
  have := h.sr (by simp) (by simp)
  cases this
  rfl

theorem VR.bool {b : Bool} {v' : Value} (h : VR j (.bool b) v') : v' = .bool b := by
  have := h.sr (by simp) (by simp)
  cases this
  rfl

theorem VR.str {s : ByteArray} {v' : Value} (h : VR j (.string s) v') : v' = .string s := by
  have := h.sr (by simp) (by simp)
  cases this
  rfl

theorem VR.agg {cs : Array Value} {v' : Value} (h : VR j (.agg cs) v') : ∃ cs', v' = .agg ⟨cs'⟩ ∧ All2 (SR j) cs.toList cs' := by
  have := h.agr (by simp)
  cases this with
  | one h' => cases h'
  | agg h' => exact ⟨_, rfl, h'⟩

theorem rd_hB {hp : AH} (hx : hp.of x) {b : Nat} {rd : List Nat} (hrd : rd = rdOf hp b) (hB : ∀ k, k ∈ rd → B k = hp.blk k) : x.n ≤ b → B (b - x.n) = hp.blk (b - x.n) := by
  intro hle
  have h1 : Nat.blt b hp.n = false := by
    cases hq : Nat.blt b hp.n
    · rfl
    · have : b < hp.n := by simpa [Nat.blt_eq] using hq
      rw [hx.2.1] at this
      omega
  refine hB _ ?_
  rw [hrd]
  unfold rdOf
  rw [h1, hx.2.1]
  simp

theorem load_ok {hp : AH} (ht : TabsOK P T) (hx : hp.of x) (r : Rel x j B w) {t : TypeId} {a a' v : Value} {e : Eff} {rd : List Nat} (h : aload T hp t a = some (.val v e rd)) (ha : VR j a a')
    (hB : ∀ k, k ∈ rd → B k = hp.blk k) : Out P x j B hp.sz w (nv (Instr.loadAt t a')) v e := by
  unfold aload at h
  split at h
  · rename_i b off
    obtain ⟨ad, rfl, had⟩ := ha.ptr
    split at h
    · rename_i v0 hv
      injection h with h
      injection h with h1 h2 h3
      subst h1 h2
      obtain ⟨v', h4, h5⟩ := loadT_rel ht hx r (rd_hB hx h3.symm hB) hv had
      exact Out.pure r (nv_run (by simpa [Instr.loadAt, Instr.sureAddr] using h4)) h5
    · cases h
  · cases h

theorem blt_false {a b : Nat} (h : Nat.blt a b = false) : b ≤ a := by
  rcases Nat.lt_or_ge a b with h1 | h1
  · have : Nat.blt a b = true := by simpa [Nat.blt_eq] using h1
    rw [this] at h; cases h
  · exact h1

theorem blt_true {a b : Nat} (h : Nat.blt a b = true) : a < b := by simpa [Nat.blt_eq] using h

def AH.wf (h : AH) : Prop := ∀ k, h.sz ≤ k → h.blk k = none

theorem AH.wf_lt {h : AH} (hw : h.wf) {k : Nat} {o : AO} (hk : h.blk k = some o) : k < h.sz := by
  rcases Nat.lt_or_ge k h.sz with h1 | h1
  · exact h1
  · rw [hw k h1] at hk; cases hk

/-- A store of cells into a block: what the machine does, and how it stands behind it. -/
theorem puts_ok {hp : AH} (hx : hp.of x) (hwf : hp.wf) (r : Rel x j B w) {b off : Nat} (hb : x.n ≤ b) {cs0 cs1 vs vs' : List Value} (hblk : hp.blk (b - x.n) = some (.cells cs0)) (hB : B (b - x.n) = hp.blk (b - x.n))
    (hput : lput cs0 off vs = some cs1) (hvs : All2 (SR j) vs vs') {a' : Addr} (ha : AddrR j ⟨b, off, none⟩ a') :
    ∃ w', (storeCells a' vs').run P w = .ok () w' ∧ Same w w' ∧ Rel x j (Bput B (b - x.n) (.cells cs1)) w' ∧ Ext x j hp.sz (b - x.n) w j hp.sz w' := by
  obtain ⟨_, h2, c, s, h3, h4, h5⟩ := ha
  obtain ⟨c', o', sp⟩ := a'
  have h2 : sp = none := h2
  have h4 : c' = c := h4
  have h5 : o' = off + s := h5
  subst h2 h4 h5
  have hj : j (x.n + (b - x.n)) = some (c', s) := by rw [show x.n + (b - x.n) = b by omega]; exact h3
  have hBc : B (b - x.n) = some (.cells cs0) := by rw [hB, hblk]
  have hlt := AH.wf_lt hwf hblk
  obtain ⟨cur, t, h6, h7⟩ := r.cells _ _ _ cs0 hj hBc
  obtain ⟨l1, l2, l3, l4⟩ := lput_spec _ _ _ _ hput
  have hcl : ∀ i, i < cs0.length → i + s < cur.size := fun i hi => by
    obtain ⟨v', h8, _⟩ := h7 i cs0[i] (by simp [hi])
    exact (Array.getElem?_eq_some_iff.1 h8).1
  have hlen := hvs.length
  rcases Nat.eq_zero_or_pos vs.length with h0 | h0
  · obtain rfl : vs = [] := List.eq_nil_of_length_eq_zero h0
    obtain rfl : vs' = [] := List.eq_nil_of_length_eq_zero (by simpa using hlen)
    refine ⟨w, rfl, Same.refl w, r.write hj hBc h6 (fun _ _ _ h => by rw [h6] at h; injection h with h; injection h with h1; rw [h1]) (fun _ _ => rfl) rfl fun i v hv => ?_, Ext.refl _ _ _ _ _⟩
    exact h7 i v (by rw [← l4 i (by simp; omega)]; exact hv)
  · have hfit : off + s + vs'.length ≤ cur.size := by
      have := hcl (off + vs.length - 1) (by omega)
      omega
    have hrun := run_storeCells_at P c' (off + s) t vs' 0 cur w h6 (by simpa using hfit) (SR.oneCells hvs)
    refine ⟨_, hrun, ⟨rfl, rfl, rfl, by simp⟩, r.write hj hBc (setRow_heap w c' cur _ t _ h6) (fun cur0 _ _ h => by rw [h6] at h; injection h with h; injection h with h1; rw [← h1]; simp; omega) (fun i hi => setRow_other w c' i _ hi) (by simp) fun i v hv => ?_, Ext.write hj (Nat.le_refl _) hlt ⟨rfl, rfl, rfl, by simp⟩ fun i hi => setRow_other w c' i _ hi⟩
    simp only [Nat.add_zero, List.getElem?_toArray, List.append_assoc, List.getElem?_append, List.length_take, Array.length_toList, List.getElem?_take, List.getElem?_drop]
    by_cases h8 : i < off
    · have h9 : cs0[i]? = some v := by rw [← l4 i (.inl h8)]; exact hv
      obtain ⟨v', h10, h11⟩ := h7 i v h9
      refine ⟨v', ?_, h11⟩
      rw [if_pos (by omega), if_pos (by omega)]
      simpa using h10
    · by_cases h9 : i < off + vs.length
      · have h10 : vs[i - off]? = some v := by rw [← l3 (i - off) (by omega), show off + (i - off) = i by omega]; exact hv
        obtain ⟨v', h11, h12⟩ := hvs.at_ _ _ h10
        refine ⟨v', ?_, h12⟩
        rw [if_neg (by omega), if_pos (by omega), show i + s - min (off + s) cur.size = i - off by omega]
        exact h11
      · have h10 : cs0[i]? = some v := by rw [← l4 i (.inr (by omega))]; exact hv
        obtain ⟨v', h11, h12⟩ := h7 i v h10
        refine ⟨v', ?_, h12⟩
        rw [if_neg (by omega), if_neg (by omega), show off + s + vs'.length + (i + s - min (off + s) cur.size - vs'.length) = i + s by omega]
        simpa using h11

theorem undef_cells {v v' : Value} : VR j Go.undef v := VR.undef v

theorem store_ok {hp : AH} (ht : TabsOK P T) (hx : hp.of x) (hwf : hp.wf) (r : Rel x j B w) {t : TypeId} {a a' y y' v : Value} {e : Eff} {rd : List Nat} (h : astore T hp t a y = some (.val v e rd)) (ha : VR j a a') (hy : VR j y y')
    (hB : ∀ k, k ∈ e.wr → B k = hp.blk k) : Out P x j B hp.sz w (nu (Instr.storeAt t a' y')) v e := by
  unfold astore at h
  split at h
  · rename_i b off vs ti hvs hti
    obtain ⟨ad, rfl, had⟩ := ha.ptr
    cases hq : Nat.blt b hp.n with
    | true => rw [hq] at h; cases h
    | false =>
      rw [hq] at h
      simp only [cond] at h
      have hble := blt_false hq
      split at h
      · rename_i cs hcs
        cases hl : Nat.beq vs.length ti.size with
        | false => rw [hl] at h; cases h
        | true =>
          rw [hl] at h
          simp only [cond] at h
          split at h
          · rename_i cs1 hput
            injection h with h
            injection h with h1 h2 h3
            subst h1 h2
            rw [hx.2.1] at hcs hble hB ⊢
            obtain ⟨vs', h4, h5⟩ := hy.vcells hvs
            obtain ⟨w', h6, h7, h8, h9⟩ := puts_ok (P := P) hx hwf r hble hcs (hB _ (by simp [Eff.wr])) hput h5 had
            have hsize := (ht.ty t ti hti).sizeOf w
            have hl' : vs.length = ti.size := by simpa [Nat.beq_eq] using hl
            refine ⟨.skip, Go.undef, w', j, nu_run ?_, .inr ⟨rfl, rfl⟩, VR.undef _, h8, h9⟩
            simp [Instr.storeAt, Instr.sureAddr, storeVar, hsize, h4, h5.length, hl', h6]
          · cases h
      · cases h
  · cases h

theorem alloc_ok {hp : AH} (ht : TabsOK P T) (hx : hp.of x) (hng : x.ng ≤ x.n) (r : Rel x j B w) (hn : j (x.n + hp.sz) = none) {t : TypeId} {ti : TI} (hti : T.ty t = some ti) :
    Out P x j B hp.sz w (nv (Instr.alloc t true (.tuple #[]))) hp.fresh (.new ti.zero) := by
  obtain ⟨z, hz, hc⟩ := (ht.ty t ti hti).zeroValue w
  refine Out.new (cur := ⟨ti.zero⟩) (t := t) (w' := { w with heap := w.heap.push (.cells ⟨ti.zero⟩ t) }) (v' := .pointer (some ⟨w.heap.size, 0, none⟩)) r hng hn (nv_run ?_) same_push rfl (fun i u hu => ⟨u, by simpa using hu, (ht.ty t ti hti).zsr j u (List.mem_of_getElem? hu)⟩) ?_
  · simp [Instr.alloc, hz, newVar, newRow, hc]
  · unfold AH.fresh
    rw [hx.2.1]
    exact .of (.ptr (addr_new _ _ _))

theorem box_ok {hp : AH} (hx : hp.of x) (hng : x.ng ≤ x.n) (r : Rel x j B w) (hn : j (x.n + hp.sz) = none) (t : TypeId) {y y' : Value} (hy : VR j y y') {cs : List Value} (hc : vcells y = some cs) :
    Out P x j B hp.sz w (nv (Instr.box t y')) hp.fresh (.new cs) := by
  obtain ⟨cs', h1, h2⟩ := hy.vcells hc
  refine Out.new (cur := ⟨cs'⟩) (t := t) (w' := { w with heap := w.heap.push (.cells ⟨cs'⟩ t) }) (v' := .pointer (some ⟨w.heap.size, 0, none⟩)) r hng hn (nv_run ?_) same_push rfl (fun i u hu => ?_) ?_
  · simp [Instr.box, newVar, newRow, h1]
  · obtain ⟨u', h3, h4⟩ := h2.at_ i u hu
    exact ⟨u', by simpa using h3, h4⟩
  · unfold AH.fresh
    rw [hx.2.1]
    exact .of (.ptr (addr_new _ _ _))

end Go.Vae

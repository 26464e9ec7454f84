/- A part of the evaluator, of its proof or of the walks (laid together by a program of my own); conditions: none. -/
import Derived.Deep.Slices
import Derived.SizedLaws
import Derived.Test.YtkjkcoemloakhaaGreatP1
import Derived.Test.YtkjkcoemloakhaaGreatP2
section
set_option linter.unusedVariables false
namespace Go.Proofs.YtkjkcoemloakhaaGreat
open Go Go.Vae
set_option maxRecDepth 1000000

theorem Tryz.T0OK : TabsOK Tryz.prog (Tryz.T fun _ => none) :=
  ⟨fun t ti h => Tryz.tyAll.get t ti h, fun f fi h => Tryz.fnAll.get f fi h, Tryz.mixed, fun f v h => by cases h⟩

theorem Tryz.awakeRun : true = runK (Tryz.T fun _ => none) 2000 10 [] AH.empty (fun v _ _ => isTrue v) := by kernel_rfl

theorem Tryz.awakeCalls : ∀ W, Calls Tryz.prog 10 ⟨[]⟩ W fun e w' => e = .returned (.bool true) ∧ Go.RowKit.Below W.heap.size W w' := run_closed Tryz.T0OK Tryz.awakeRun

def Tryz.known (f : Nat) : Option Value := bif Nat.beq f 10 then some (.bool true) else none

theorem Tryz.T1OK : TabsOK Tryz.prog (Tryz.T Tryz.known) := by
  refine ⟨fun t ti h => Tryz.tyAll.get t ti h, fun f fi h => Tryz.fnAll.get f fi h, Tryz.mixed, fun f v h => ?_⟩
  have h : Tryz.known f = some v := h
  unfold Tryz.known at h
  cases hb : Nat.beq f 10 with
  | false => rw [hb] at h; cases h
  | true =>
    rw [hb] at h
    have hf : f = 10 := by simpa [Nat.beq_eq] using hb
    subst hf
    injection h with h
    subst h
    exact ⟨fun j => .of (.bool true), (Tryz.fnOK10).enters, Tryz.awakeCalls⟩

end Go.Proofs.YtkjkcoemloakhaaGreat
end

section
set_option linter.unusedVariables false
set_option linter.unusedSimpArgs false
namespace Go.Vae
open Go Go.RowKit

variable {P : Program} {T : Tabs}

/-! ### the caller's memory -/
abbrev RO := Nat → Nat → Nat → Option (List Value)

def roRd (n : Nat) (ro : Nat → Nat → Option Value) : RO := fun b off m => bif Nat.blt b n then roCells (ro b) off m else none

def AH.rd (h : AH) : RO := roRd h.n h.ro

theorem AH.rd_cut {h : AH} {b off m : Nat} {cs : List Value} (hr : h.rd b off m = some cs) : h.cut b off m = some cs := by
  unfold AH.rd roRd at hr
  unfold AH.cut
  cases hb : Nat.blt b h.n <;> rw [hb] at hr
  · cases hr
  · exact hr

theorem AH.rd_cell {h : AH} {b off : Nat} {v : Value} (hr : h.rd b off 1 = some [v]) : h.cell b off = some v := by
  unfold AH.rd roRd at hr
  unfold AH.cell
  cases hb : Nat.blt b h.n <;> rw [hb] at hr
  · cases hr
  · simp only [cond, roCells] at hr ⊢
    split at hr
    · rename_i u hu
      simp at hr
      rw [hu, hr]
    · cases hr

theorem AH.rd_blt {h : AH} {b off m : Nat} {cs : List Value} (hr : h.rd b off m = some cs) : Nat.blt b h.n = true := by
  unfold AH.rd roRd at hr
  cases hb : Nat.blt b h.n <;> rw [hb] at hr
  · cases hr

theorem Grow.rd {h h' : AH} {l : Nat} (g : Grow h l h') : h'.rd = h.rd := by unfold AH.rd; rw [g.n, g.ro]

/-! ### what a call leaves, for nothing -/
theorem Fp.grow (ht : TabsOK P T) {f : FuncId} {args : List Value} {h : AH} (hwf : h.wf) {Q : Value → AH → Nat → Prop} (hf : Fp T f args h Q) : Fp T f args h fun v h' low => Q v h' low ∧ Grow h low h' := by
  obtain ⟨v, h', low, ⟨k, hk⟩, hq⟩ := hf
  exact ⟨v, h', low, ⟨k, hk⟩, hq, (runF_ok ht k f args h v h' low hk hwf).1⟩

/-- A call that looks and answers. -/
def Rp (T : Tabs) (f : FuncId) (args : List Value) (h : AH) (v : Value) : Prop := Fp T f args h fun v' h' low => v' = v ∧ h' = h ∧ low = h.sz

theorem Rp.of {f : FuncId} {args : List Value} {h : AH} {v : Value} {fi : FI} (hkn : T.known f = none) (hf : T.fn f = some fi) (hl : Nat.ble args.length fi.nt = true)
    (hw : WpB T fi.nt fi.code (bsOf 0 args []) h h.sz (endB T fi fun v' h' low => v' = v ∧ h' = h ∧ low = h.sz)) : Rp T f args h v := FpB.of hkn hf hl hw

section
variable {nt : Nat} {ops l : List Oper} {o : Oper} {bs : Bs} {h : AH} {low : Nat} {Q : Bs → AH → Nat → List Acc → Prop}

/-- A truth value: both ways. -/
theorem SpB.bool {b : Bool} {rd : List Nat} {d : Nat} (hw : wantedB ops bs o = some true) (hall : allB bs h o.op.operands.toList = true) (ha : aop T h (rho bs h) o = some (.val (.bool b) .nil rd)) (hd : o.dst = some d) (hlt : Nat.blt d nt = true)
    (h2 : b = true → SpB T nt ops l ((d, .bool true) :: bs) h low fun b h' l' acs => Q b h' l' (⟨rd, [], h.sz, h.sz, none⟩ :: acs))
    (h3 : b = false → SpB T nt ops l ((d, .bool false) :: bs) h low fun b h' l' acs => Q b h' l' (⟨rd, [], h.sz, h.sz, none⟩ :: acs)) : SpB T nt ops (o :: l) bs h low Q :=
  SpB.pure hw hall ha hd hlt (by cases b with | true => exact h2 rfl | false => exact h3 rfl)

theorem SpB.boolT {b : Bool} {rd : List Nat} {d : Nat} (hb : b = true) (hw : wantedB ops bs o = some true) (hall : allB bs h o.op.operands.toList = true) (ha : aop T h (rho bs h) o = some (.val (.bool b) .nil rd)) (hd : o.dst = some d) (hlt : Nat.blt d nt = true)
    (h2 : SpB T nt ops l ((d, .bool true) :: bs) h low fun b h' l' acs => Q b h' l' (⟨rd, [], h.sz, h.sz, none⟩ :: acs)) : SpB T nt ops (o :: l) bs h low Q :=
  SpB.pure hw hall ha hd hlt (by subst hb; exact h2)

theorem SpB.boolF {b : Bool} {rd : List Nat} {d : Nat} (hb : b = false) (hw : wantedB ops bs o = some true) (hall : allB bs h o.op.operands.toList = true) (ha : aop T h (rho bs h) o = some (.val (.bool b) .nil rd)) (hd : o.dst = some d) (hlt : Nat.blt d nt = true)
    (h2 : SpB T nt ops l ((d, .bool false) :: bs) h low fun b h' l' acs => Q b h' l' (⟨rd, [], h.sz, h.sz, none⟩ :: acs)) : SpB T nt ops (o :: l) bs h low Q :=
  SpB.pure hw hall ha hd hlt (by subst hb; exact h2)

/-- An operation whose answer is told otherwise. -/
theorem SpB.pureEq {u v : Value} {rd : List Nat} {d : Nat} (hw : wantedB ops bs o = some true) (hall : allB bs h o.op.operands.toList = true) (ha : aop T h (rho bs h) o = some (.val u .nil rd)) (hd : o.dst = some d) (hlt : Nat.blt d nt = true) (hv : u = v)
    (h2 : SpB T nt ops l ((d, v) :: bs) h low fun b h' l' acs => Q b h' l' (⟨rd, [], h.sz, h.sz, none⟩ :: acs)) : SpB T nt ops (o :: l) bs h low Q :=
  SpB.pure hw hall ha hd hlt (by subst hv; exact h2)

theorem loadT_cut {t : TypeId} {ti : TI} {b off : Nat} {cs : List Value} (ht : T.ty t = some ti) (ha : ti.agg = true) (hc : h.cut b off ti.size = some cs) : loadT T h t b off = some (mkAgg cs) := by
  simp [loadT, ht, ha, hc]

theorem loadT_cell {t : TypeId} {ti : TI} {b off : Nat} {v : Value} (ht : T.ty t = some ti) (ha : ti.agg = false) (hc : h.cell b off = some v) : loadT T h t b off = some v := by
  simp [loadT, ht, ha, hc]

/-- A struct from the caller's memory. -/
theorem SpB.loadA {t : TypeId} {ti : TI} {x : Operand} {b off : Nat} {cs : List Value} {d : Nat} (ho : o.op = .load t x) (hw : wantedB ops bs o = some true) (he : evB bs h x = some (.pointer (some ⟨b, off, none⟩))) (ht : T.ty t = some ti) (ha : ti.agg = true)
    (hc : h.rd b off ti.size = some cs) (hd : o.dst = some d) (hlt : Nat.blt d nt = true)
    (h2 : SpB T nt ops l ((d, .agg ⟨cs⟩) :: bs) h low fun b' h' l' acs => Q b' h' l' (⟨rdOf h b, [], h.sz, h.sz, none⟩ :: acs)) : SpB T nt ops (o :: l) bs h low Q :=
  SpB.load ho hw he (loadT_cut ht ha (AH.rd_cut hc)) hd hlt h2

/-- A cell of the caller's memory. -/
theorem SpB.loadC {t : TypeId} {ti : TI} {x : Operand} {b off : Nat} {v : Value} {d : Nat} (ho : o.op = .load t x) (hw : wantedB ops bs o = some true) (he : evB bs h x = some (.pointer (some ⟨b, off, none⟩))) (ht : T.ty t = some ti) (ha : ti.agg = false)
    (hc : h.rd b off 1 = some [v]) (hd : o.dst = some d) (hlt : Nat.blt d nt = true)
    (h2 : SpB T nt ops l ((d, v) :: bs) h low fun b' h' l' acs => Q b' h' l' (⟨rdOf h b, [], h.sz, h.sz, none⟩ :: acs)) : SpB T nt ops (o :: l) bs h low Q :=
  SpB.load ho hw he (loadT_cell ht ha (AH.rd_cell hc)) hd hlt h2

/-- A call that looks. -/
theorem SpB.callR {f : FuncId} {args : List Value} {v : Value} {d : Nat} (hw : wantedB ops bs o = some true) (hall : allB bs h o.op.operands.toList = true) (ha : aop T h (rho bs h) o = some (.go f args)) (hf : Rp T f args h v) (hd : o.dst = some d) (hlt : Nat.blt d nt = true) (hlow : low ≤ h.sz)
    (h2 : SpB T nt ops l ((d, v) :: bs) h low fun b h'' l' acs => Q b h'' l' (⟨[], [], h.sz, h.sz, some (Nat.blt h.sz h.sz)⟩ :: acs)) : SpB T nt ops (o :: l) bs h low Q :=
  SpB.call hw hall ha hf hd hlt (by
    rintro v' h' low' ⟨rfl, rfl, rfl⟩
    rw [show Nat.min low h'.sz = low from Nat.min_eq_left hlow]
    exact h2)

/-- A call that looks and answers a truth value: both ways. -/
theorem SpB.callB {f : FuncId} {args : List Value} {b : Bool} {d : Nat} (hw : wantedB ops bs o = some true) (hall : allB bs h o.op.operands.toList = true) (ha : aop T h (rho bs h) o = some (.go f args)) (hf : Rp T f args h (.bool b)) (hd : o.dst = some d) (hlt : Nat.blt d nt = true) (hlow : low ≤ h.sz)
    (h2 : b = true → SpB T nt ops l ((d, .bool true) :: bs) h low fun b h'' l' acs => Q b h'' l' (⟨[], [], h.sz, h.sz, some (Nat.blt h.sz h.sz)⟩ :: acs))
    (h3 : b = false → SpB T nt ops l ((d, .bool false) :: bs) h low fun b h'' l' acs => Q b h'' l' (⟨[], [], h.sz, h.sz, some (Nat.blt h.sz h.sz)⟩ :: acs)) : SpB T nt ops (o :: l) bs h low Q :=
  SpB.callR hw hall ha hf hd hlt hlow (by cases b with | true => exact h2 rfl | false => exact h3 rfl)
end

section
variable {nt : Nat} {bs : Bs} {h : AH} {low : Nat} {Q : Ex → Bs → AH → Nat → Prop}

theorem WpB.condT {c : Operand} {a b : Code} (hc : evB bs h c = some (.bool true)) (ha : WpB T nt a bs h low Q) : WpB T nt (.cond c a b) bs h low Q := WpB.cond hc (fun _ => ha) fun h => by cases h
theorem WpB.condF {c : Operand} {a b : Code} (hc : evB bs h c = some (.bool false)) (ha : WpB T nt b bs h low Q) : WpB T nt (.cond c a b) bs h low Q := WpB.cond hc (fun h => by cases h) fun _ => ha

/-- A loop that counts from 0 to at most N and only looks. -/
theorem WpB.loopR {c : Code} (N : Nat) (B : Nat → Bs) (ok : Nat → Prop) (h0 : ok 0) (hs : ∀ t v, look (B 0) t = some v → look bs t = some v)
    (hr : ∀ i, i ≤ N → ok i → WpB T nt c (B i) h low (thenB (fun bs' h' l' => i < N ∧ ok (i + 1) ∧ (∀ t v, look (B (i + 1)) t = some v → look bs' t = some v) ∧ h' = h ∧ l' = low) Q)) : WpB T nt (.loop c) bs h low Q :=
  WpB.loop (fun m bs' h' l' => ∃ i, m + i = N ∧ bs' = B i ∧ ok i ∧ h' = h ∧ l' = low) (fun m bs' h' l' ⟨i, hi, e1, hok, e2, e3⟩ => by
    subst e1 e2 e3
    refine (hr i (by omega) hok).mono fun ex b h' l' hq => ?_
    cases ex with
    | normal =>
      obtain ⟨h1, h2, h3, h4, h5⟩ := hq
      exact ⟨m - 1, B (i + 1), by omega, h3, i + 1, by omega, rfl, h2, h4, h5⟩
    | exit id => exact hq
    | ret => exact hq) (n := N) (b0 := B 0) ⟨0, by simp, rfl, h0, rfl, rfl⟩ hs

/-- A loop that counts from 0 to at most N; the memory grows. -/
theorem WpB.loopG {c : Code} (N : Nat) (I : Nat → Bs → AH → Nat → Prop) (hr : ∀ i bs h low, i ≤ N → I i bs h low → WpB T nt c bs h low (thenB (fun bs' h' l' => i < N ∧ ∃ b, (∀ t v, look b t = some v → look bs' t = some v) ∧ I (i + 1) b h' l') Q))
    {b0 : Bs} (h0 : I 0 b0 h low) (hs : ∀ t v, look b0 t = some v → look bs t = some v) : WpB T nt (.loop c) bs h low Q :=
  WpB.loop (fun m bs' h' l' => ∃ i, m + i = N ∧ I i bs' h' l') (fun m bs' h' l' ⟨i, hi, hI⟩ => by
    refine (hr i bs' h' l' (by omega) hI).mono fun ex b h' l' hq => ?_
    cases ex with
    | normal =>
      obtain ⟨h1, b2, h2, h3⟩ := hq
      exact ⟨m - 1, b2, by omega, h2, i + 1, by omega, h3⟩
    | exit id => exact hq
    | ret => exact hq) (n := N) (b0 := b0) ⟨0, by simp, h0⟩ hs
end

end Go.Vae
end

section
set_option linter.unusedVariables false
set_option linter.unusedSimpArgs false
namespace Go.Vae
open Go Go.RowKit

variable {P : Program} {T : Tabs}

/-- The cells are a value of this type, whose parts lie in the caller's memory. -/
def Rd (T : Tabs) (rd : RO) : Nat → TypeId → List Value → Prop
  | 0, _, _ => False
  | k + 1, t, cs => match T.ty t with
    | none => False
    | some ti => match ti.k with
      | .int q => ∃ n, cs = [.int q n] ∧ (Lit.int q n).wf = true
      | .bool => ∃ b, cs = [.bool b]
      | .string => ∃ s : ByteArray, cs = [.string s] ∧ s.data.toList.length ≤ reachBytes
      | .slice e => ∃ a len cap, cs = [.slice a len cap] ∧ len ≤ cap ∧ cap < unk ∧ ∃ ei, T.ty e = some ei ∧ cap * ei.bytes ≤ reachBytes ∧
          ∀ i, i < len → ∃ b off cs', a = some ⟨b, off, none⟩ ∧ rd b (off + i * ei.size) ei.size = some cs' ∧ Rd T rd k e cs'
      | .struct fs => cs.length = ti.size ∧ ∀ f ∈ fs, ∃ fi, T.ty f.1 = some fi ∧ Rd T rd k f.1 ((cs.drop f.2).take fi.size)
      | _ => False

def coverB (T : Tabs) (fs : List (TypeId × Nat)) (size : Nat) : Bool :=
  (List.range size).all fun i => fs.any fun f => match T.ty f.1 with
    | some fi => Nat.ble f.2 i && Nat.blt i (f.2 + fi.size)
    | none => false

/-- Types of plain data, closed under their parts. -/
def plainB (T : Tabs) (S : List TypeId) : Bool := S.all fun t => match T.ty t with
  | none => false
  | some ti => match ti.k with
    | .int _ | .bool | .string => true
    | .slice e => lmem e S && match T.ty e with | some ei => Nat.ble 1 ei.size | none => false
    | .struct fs => (fs.all fun f => lmem f.1 S) && coverB T fs ti.size
    | _ => false

theorem lmem_mem {k : Nat} : ∀ {l : List Nat}, lmem k l = true → k ∈ l
  | [], h => by cases h
  | x :: xs, h => by
    simp only [lmem, Bool.or_eq_true] at h
    rcases h with h | h
    · rw [show k = x by simpa [Nat.beq_eq] using h]; simp
    · exact List.mem_cons_of_mem _ (lmem_mem h)

theorem mem_lmem {k : Nat} : ∀ {l : List Nat}, k ∈ l → lmem k l = true
  | [], h => by simp at h
  | x :: xs, h => by
    simp only [lmem, Bool.or_eq_true]
    rcases List.mem_cons.1 h with h | h
    · exact .inl (by subst h; simp)
    · exact .inr (mem_lmem h)

theorem roCells_of {ro : Nat → Option Value} : ∀ (l : List Value) (off : Nat), (∀ j v, l[j]? = some v → ro (off + j) = some v) → roCells ro off l.length = some l
  | [], off, _ => rfl
  | x :: xs, off, h => by
    have h0 : ro off = some x := h 0 x rfl
    simp only [List.length_cons, roCells, h0]
    rw [roCells_of xs (off + 1) fun j v hv => by rw [show off + 1 + j = off + (j + 1) by omega]; exact h (j + 1) v (by simpa using hv)]
    rfl

theorem cell_some {W : World} {a : Addr} {v : Value} (h : W.cell? a = some v) : a.spot = none ∧ a.block < W.heap.size := by
  unfold World.cell? at h
  split at h
  · rename_i c _ _ hc
    split at h
    · cases h
    · rename_i hs
      exact ⟨by simpa using hs, (Array.getElem?_eq_some_iff.1 hc).1⟩
  · cases h

theorem TyOK.cellsOf {t : TypeId} {ti : TI} (h : TyOK P t ti) : P.cellsOf t = ti.size ∧ P.bytesOf t = ti.bytes := by
  obtain ⟨i, z, h1, h2, h3, _⟩ := h.info
  simp [Program.cellsOf, Program.bytesOf, h1, h2, h3]

/-- What is read of an argument lies before the evaluator. -/
theorem rd_of_trod (ht : TabsOK P T) {S : List TypeId} (hS : plainB T S = true) {W : World} {ng : Nat} {H : Type} {enc : TypeId × Value → H} {held : Bool} :
    ∀ (fuel : Nat) (t : TypeId) (cs : List Value) (d : DataW H) (pl : List MemPlace), t ∈ S → DataW.trod enc P W 0 (fun _ => true) held fuel t cs = some (d, pl) → (∀ n ∈ d.weights P t, n ≤ reachBytes) →
      (∀ v ∈ cs, okC W.heap.size v = true) ∧ Rd T (AH.base W ng).rd fuel t (cs.map (can W.heap.size))
  | 0, t, cs, d, pl, _, h, _ => by simp [DataW.trod] at h
  | fuel + 1, t, cs, d, pl, hm, h, hw => by
    have ih := rd_of_trod ht hS (W := W) (ng := ng) (enc := enc) (held := held) fuel
    have hp := (List.all_eq_true.1 hS) t hm
    unfold Rd
    cases hti : T.ty t with
    | none => rw [hti] at hp; cases hp
    | some ti =>
      rw [hti] at hp
      have hty := ht.ty t ti hti
      obtain ⟨ds, hu, _, hk⟩ := hty.desc
      simp only at hp ⊢
      cases hq : ti.k with
      | other => rw [hq] at hp; cases hp
      | array n e => rw [hq] at hp; cases hp
      | int q =>
        rw [hq] at hk
        have hk : ds = .int q := hk
        subst hk
        obtain ⟨n, rfl, _, h2⟩ := DataW.trod_int hu h
        exact ⟨fun v hv => by simp at hv; subst hv; rfl, n, rfl, h2⟩
      | bool =>
        rw [hq] at hk
        have hk : ds = .bool := hk
        subst hk
        obtain ⟨b, rfl, _⟩ := DataW.trod_bool hu h
        exact ⟨fun v hv => by simp at hv; subst hv; rfl, b, rfl⟩
      | string =>
        rw [hq] at hk
        have hk : ds = .string := hk
        subst hk
        obtain ⟨s, rfl, h1, h2⟩ := DataW.trod_string hu h
        injection h1 with h1 _
        subst h1
        refine ⟨fun v hv => by simp at hv; subst hv; rfl, s, rfl, hw _ ?_⟩
        simp [DataW.weights]
      | slice e =>
        rw [hq] at hk hp
        have hk : ds = .slice e := hk
        subst hk
        simp only [Bool.and_eq_true] at hp
        obtain ⟨he, hpe⟩ := hp
        cases hei : T.ty e with
        | none => rw [hei] at hpe; cases hpe
        | some ei =>
          rw [hei] at hpe
          have hpos : 1 ≤ ei.size := Nat.le_of_ble_eq_true hpe
          obtain ⟨hce, hbe⟩ := (ht.ty e ei hei).cellsOf
          rcases DataW.trod_slice hu h with ⟨rfl, h1⟩ | ⟨a, len, cap, elems, rest, n, hn, rfl, h1, _, hl, hc, hel, hes, hre, _⟩
          · exact ⟨fun v hv => by simp at hv; subst hv; rfl, none, 0, 0, rfl, Nat.le_refl _, by decide, ei, hei, by simp, fun i hi => absurd hi (Nat.not_lt_zero _)⟩
          · injection hn with hn
            subst hn
            injection h1 with h1 _
            subst h1
            obtain ⟨hrl, hrs⟩ := hre rfl
            have hcu : cap < unk := by
              have : maxLen < unk := by decide
              omega
            have hwt : cap * ei.bytes ≤ reachBytes := by
              have := hw ((elems.length + rest.length) * P.bytesOf e) (by simp [DataW.weights, hu])
              rw [hel, hrl, hbe, Nat.add_sub_cancel' hl] at this
              exact this
            have one : ∀ i, i < cap → ∃ cs', W.cells? 0 (a.add (i * ei.size)) ei.size = some cs' := fun i hi => by
              rw [hce] at hes hrs
              by_cases hil : i < len
              · have := hes i hil
                rw [List.getElem?_eq_getElem (by omega)] at this
                obtain ⟨cs', h1, _⟩ := Option.bind_eq_some_iff.1 this
                exact ⟨cs', h1⟩
              · have := hrs (i - len) (by omega)
                rw [List.getElem?_eq_getElem (by omega), show len + (i - len) = i by omega] at this
                obtain ⟨cs', h1, _⟩ := Option.bind_eq_some_iff.1 this
                exact ⟨cs', h1⟩
            have hplain : 0 < cap → a.spot = none ∧ a.block < W.heap.size := fun hpc => by
              obtain ⟨cs', h1⟩ := one 0 hpc
              obtain ⟨_, h2, h3⟩ := World.cells?_some h1
              have h4 := h3 0 (by omega)
              rw [List.getElem?_eq_getElem (by omega)] at h4
              simp only [Nat.zero_mul, Addr.add, if_true] at h4
              exact cell_some h4
            obtain ⟨b, off, spot⟩ := a
            by_cases hpc : 0 < cap
            · obtain ⟨h2, h3⟩ := hplain hpc
              simp only at h2 h3
              subst h2
              have hb : Nat.blt b W.heap.size = true := by simpa [Nat.blt_eq] using h3
              have hcan : canC W.heap.size (.slice (some ⟨b, off, none⟩) len cap) = some (.slice (some ⟨b, off, none⟩) len cap) := by
                have : Nat.beq cap 0 = false := by
                  cases hq : Nat.beq cap 0
                  · rfl
                  · have := Nat.eq_of_beq_eq_true hq; omega
                have hcu' : Nat.blt cap unk = true := by simpa [Nat.blt_eq] using hcu
                simp [canC, this, hcu', hb]
              refine ⟨fun v hv => by simp at hv; subst hv; simp [okC, hcan], some ⟨b, off, none⟩, len, cap, by simp [can, hcan], hl, hcu, ei, hei, hwt, fun i hi => ?_⟩
              have h4 := hes i hi
              rw [hce, List.getElem?_eq_getElem (by omega)] at h4
              obtain ⟨cs', h5, h6⟩ := Option.bind_eq_some_iff.1 h4
              obtain ⟨h7, h8⟩ := ih e cs' _ _ (lmem_mem he) (show DataW.trod enc P W 0 (fun _ => true) held fuel e cs' = some (elems[i].1, elems[i].2) from h6) (fun k hk => hw k (by
                simp only [DataW.weights, hu, List.mem_cons, List.mem_append]
                refine .inr (.inl ?_)
                clear ih
                have : elems[i].1 ∈ elems.map (·.1) := List.mem_map.2 ⟨_, List.getElem_mem _, rfl⟩
                revert this hk
                generalize elems[i].1 = x
                intro hk
                induction elems.map (·.1) with
                | nil => simp
                | cons y ys ihy =>
                  intro hx
                  simp only [DataW.weightsAll, List.mem_append]
                  rcases List.mem_cons.1 hx with hx | hx
                  · subst hx; exact .inl hk
                  · exact .inr (ihy hx)))
              obtain ⟨_, h9, h10⟩ := World.cells?_some h5
              refine ⟨b, off, cs'.map (can W.heap.size), rfl, ?_, h8⟩
              show (bif Nat.blt b W.heap.size then roCells (baseRo W b) (off + i * ei.size) ei.size else none) = _
              rw [hb]
              simp only [cond]
              have := roCells_of (ro := baseRo W b) (cs'.map (can W.heap.size)) (off + i * ei.size) (fun k v hv => by
                rw [List.getElem?_map] at hv
                obtain ⟨u, hu1, hu2⟩ := Option.map_eq_some_iff.1 hv
                have hk : k < ei.size := by rw [← h9]; exact (List.getElem?_eq_some_iff.1 hu1).1
                have h11 := h10 k hk
                rw [hu1, Go.WideShapes.add_plain, Go.WideShapes.add_plain] at h11
                simp only [baseRo, h11]
                rw [okC_can (h7 u (List.mem_of_getElem? hu1)), hu2])
              rw [List.length_map, h9] at this
              exact this
            · have hc0 : cap = 0 := by omega
              subst hc0
              obtain rfl : len = 0 := by omega
              exact ⟨fun v hv => by simp at hv; subst hv; rfl, none, 0, 0, rfl, Nat.le_refl _, by decide, ei, hei, by simp, fun i hi => absurd hi (Nat.not_lt_zero _)⟩
      | struct fs =>
        rw [hq] at hk hp
        obtain ⟨fields, rfl, hfs, _⟩ := hk
        simp only [Bool.and_eq_true] at hp
        obtain ⟨hmem, hcov⟩ := hp
        obtain ⟨xs, n, hn, hx, hlen, hxl, hget⟩ := DataW.trod_struct hu h
        injection hn with hn
        subst hn
        injection hx with hx _
        subst hx
        rw [(hty.cellsOf).1] at hlen
        have each : ∀ f ∈ fs, ∃ fi, T.ty f.1 = some fi ∧ (∀ v ∈ (cs.drop f.2).take fi.size, okC W.heap.size v = true) ∧ Rd T (AH.base W ng).rd fuel f.1 (((cs.drop f.2).take fi.size).map (can W.heap.size)) := fun f hf => by
          have hin := lmem_mem ((List.all_eq_true.1 hmem) f hf)
          have hp2 := (List.all_eq_true.1 hS) f.1 hin
          cases hfi : T.ty f.1 with
          | none => rw [hfi] at hp2; cases hp2
          | some fi =>
            rw [← hfs] at hf
            obtain ⟨fd, hfd, rfl⟩ := List.mem_map.1 hf
            obtain ⟨i, hi⟩ := List.getElem?_of_mem hfd
            have hi' : fields[i]? = some fd := by simpa using hi
            have h1 := hget i fd hi'
            have hix : i < xs.length := by rw [hxl]; exact (Array.getElem?_eq_some_iff.1 hi').1
            rw [List.getElem?_eq_getElem hix, ((ht.ty fd.type fi hfi).cellsOf).1] at h1
            obtain ⟨h2, h3⟩ := ih fd.type _ _ _ hin (show DataW.trod enc P W 0 (fun _ => true) held fuel fd.type ((cs.drop fd.offset).take fi.size) = some (xs[i].1, xs[i].2) from h1) (fun k hk => hw k (by
              simp only [DataW.weights, hu]
              exact DataW.weights_mem_each (j := i) (by simp [hi]) (by simp [hix]) k hk))
            exact ⟨fi, rfl, h2, h3⟩
        refine ⟨fun v hv => ?_, by simp [hlen], fun f hf => ?_⟩
        · obtain ⟨i, hi⟩ := List.getElem?_of_mem hv
          have hil : i < ti.size := by rw [← hlen]; exact (List.getElem?_eq_some_iff.1 hi).1
          have hc := (List.all_eq_true.1 hcov) i (by simpa using hil)
          obtain ⟨f, hf, hc⟩ := List.any_eq_true.1 hc
          obtain ⟨fi, h1, h2, _⟩ := each f hf
          rw [h1] at hc
          simp only [Bool.and_eq_true, Nat.ble_eq, Nat.blt_eq] at hc
          refine h2 v (List.mem_of_getElem? (i := i - f.2) ?_)
          rw [List.getElem?_take_of_lt (by omega), List.getElem?_drop, show f.2 + (i - f.2) = i by omega]
          exact hi
        · obtain ⟨fi, h1, _, h3⟩ := each f hf
          refine ⟨fi, h1, ?_⟩
          rw [List.map_take, List.map_drop] at h3
          exact h3

end Go.Vae
end

section
set_option linter.unusedVariables false
set_option linter.unusedSimpArgs false
namespace Go.Vae
open Go Go.RowKit

variable {T : Tabs}

def w64 (n : Int) : Prop := -9223372036854775808 ≤ n ∧ n ≤ 9223372036854775807

theorem w64_of {n : Int} (h : (Lit.int .i64 n).wf = true) : w64 n := by
  simp only [Lit.wf, Bool.and_eq_true, decide_eq_true_eq] at h
  exact h

def txt (s : ByteArray) : Nat := s.data.toList.length

/-- A slice whose n elements of so many cells lie in the caller's memory. -/
def SAt {α : Type} (rd : RO) (size : Nat) (cells : α → List Value) (sl : Value) (n : Nat) (x : Nat → α) : Prop :=
  ∃ a cap, sl = .slice a n cap ∧ n ≤ cap ∧ (cap < unk ∨ cap = unk + size) ∧ ∀ i, i < n → ∃ b off, a = some ⟨b, off, none⟩ ∧ rd b (off + i * size) size = some (cells (x i))

theorem Rd.slice {α : Type} [Inhabited α] {rd : RO} {k : Nat} {t e : TypeId} {ti ei : TI} {cs : List Value} (cells : α → List Value) (ok : α → Prop) (ht : T.ty t = some ti) (hk : ti.k = .slice e) (he : T.ty e = some ei) (hb : 1 ≤ ei.bytes)
    (h : Rd T rd (k + 1) t cs) (hx : ∀ cs', Rd T rd k e cs' → ∃ x : α, cells x = cs' ∧ ok x) :
    ∃ sl n x, cs = [sl] ∧ n ≤ reachBytes ∧ SAt rd ei.size cells sl n x ∧ ∀ i, i < n → ok (x i) := by
  simp only [Rd, ht, hk] at h
  obtain ⟨a, len, cap, rfl, h1, h2, ei', h3, h4, h5⟩ := h
  rw [he] at h3
  injection h3 with h3
  subst h3
  obtain ⟨x, hxx⟩ := Go.Deep.choose_lt (α := α) (n := len) (p := fun i x => (∃ b off, a = some ⟨b, off, none⟩ ∧ rd b (off + i * ei.size) ei.size = some (cells x)) ∧ ok x) (fun i hi => by
    obtain ⟨b, off, cs', e1, e2, e3⟩ := h5 i hi
    obtain ⟨x, e4, e5⟩ := hx cs' e3
    exact ⟨x, ⟨b, off, e1, by rw [e4]; exact e2⟩, e5⟩)
  refine ⟨_, len, x, rfl, ?_, ⟨a, cap, rfl, h1, .inl h2, fun i hi => (hxx i hi).1⟩, fun i hi => (hxx i hi).2⟩
  have := Nat.mul_le_mul h1 hb
  omega

theorem Rd.int {rd : RO} {k : Nat} {t : TypeId} {ti : TI} {cs : List Value} (ht : T.ty t = some ti) (hk : ti.k = .int .i64) (h : Rd T rd k t cs) : ∃ n, cs = [.int .i64 n] ∧ w64 n := by
  cases k with
  | zero => exact h.elim
  | succ k =>
    simp only [Rd, ht, hk] at h
    obtain ⟨n, h1, h2⟩ := h
    exact ⟨n, h1, w64_of h2⟩

theorem Rd.str {rd : RO} {k : Nat} {t : TypeId} {ti : TI} {cs : List Value} (ht : T.ty t = some ti) (hk : ti.k = .string) (h : Rd T rd k t cs) : ∃ s, cs = [.string s] ∧ txt s ≤ reachBytes := by
  cases k with
  | zero => exact h.elim
  | succ k =>
    simp only [Rd, ht, hk] at h
    exact h

theorem Rd.bool {rd : RO} {k : Nat} {t : TypeId} {ti : TI} {cs : List Value} (ht : T.ty t = some ti) (hk : ti.k = .bool) (h : Rd T rd k t cs) : ∃ b, cs = [.bool b] := by
  cases k with
  | zero => exact h.elim
  | succ k => simpa only [Rd, ht, hk] using h

theorem Rd.struct {rd : RO} {k : Nat} {t : TypeId} {ti : TI} {cs : List Value} {fs : List (TypeId × Nat)} (ht : T.ty t = some ti) (hk : ti.k = .struct fs) (h : Rd T rd k t cs) :
    ∃ k', k = k' + 1 ∧ cs.length = ti.size ∧ ∀ f ∈ fs, ∃ fi, T.ty f.1 = some fi ∧ Rd T rd k' f.1 ((cs.drop f.2).take fi.size) := by
  cases k with
  | zero => exact h.elim
  | succ k =>
    simp only [Rd, ht, hk] at h
    exact ⟨k, rfl, h⟩

theorem Rd.pos {rd : RO} {k : Nat} {t : TypeId} {cs : List Value} (h : Rd T rd k t cs) : ∃ k', k = k' + 1 := by
  cases k with
  | zero => exact h.elim
  | succ k => exact ⟨k, rfl⟩

/-! ### sums and rows by index -/
def sumTo (f : Nat → Nat) : Nat → Nat
  | 0 => 0
  | n + 1 => sumTo f n + f n

def catTo {α : Type} (f : Nat → List α) : Nat → List α
  | 0 => []
  | n + 1 => catTo f n ++ f n

theorem sumTo_le {f : Nat → Nat} {c : Nat} : ∀ {n : Nat}, (∀ i, i < n → f i ≤ c) → sumTo f n ≤ n * c
  | 0, _ => by simp [sumTo]
  | n + 1, h => by
    have h1 := sumTo_le (n := n) fun i hi => h i (by omega)
    have h2 := h n (by omega)
    have h3 : (n + 1) * c = n * c + c := Nat.succ_mul n c
    simp only [sumTo]
    omega

theorem sumTo_mono {f : Nat → Nat} {i : Nat} : ∀ {n : Nat}, i ≤ n → sumTo f i ≤ sumTo f n
  | 0, h => by obtain rfl : i = 0 := by omega
               exact Nat.le_refl _
  | n + 1, h => by
    by_cases e : i = n + 1
    · subst e; exact Nat.le_refl _
    · have := sumTo_mono (f := f) (i := i) (n := n) (by omega)
      simp only [sumTo]
      omega

theorem catTo_length {α : Type} {f : Nat → List α} : ∀ n, (catTo f n).length = sumTo (fun i => (f i).length) n
  | 0 => rfl
  | n + 1 => by simp only [catTo, sumTo, List.length_append, catTo_length n]

/-! ### expressions -/
inductive E where
  | nil
  | mk (op : Int) (tb nm : ByteArray) (ix vk vi : Int) (vt : ByteArray) (sl : Value) (n : Nat) (kid : Nat → E)

instance : Inhabited E := ⟨.nil⟩

def E.cells : E → List Value
  | .nil => []
  | .mk op tb nm ix vk vi vt sl _ _ => [.int .i64 op, .string tb, .string nm, .int .i64 ix, .int .i64 vk, .int .i64 vi, .string vt, sl]

def E.At (rd : RO) : E → Prop
  | .nil => False
  | .mk op tb nm ix vk vi vt sl n kid => (w64 op ∧ w64 ix ∧ w64 vk ∧ w64 vi) ∧ (txt tb ≤ reachBytes ∧ txt nm ≤ reachBytes ∧ txt vt ≤ reachBytes) ∧ n ≤ reachBytes ∧ SAt rd 8 E.cells sl n kid ∧ ∀ i, i < n → (kid i).At rd

/-- How many nodes. -/
def E.size : E → Nat
  | .nil => 0
  | .mk _ _ _ _ _ _ _ _ n kid => 1 + sumTo (fun i => (kid i).size) n

/-- Every node has short texts. -/
def E.short : E → Prop
  | .nil => True
  | .mk _ tb nm _ _ _ vt _ n kid => txt nm + txt tb + txt vt ≤ 100 ∧ ∀ i, i < n → (kid i).short

/-- AND has two operands. -/
def E.pairs : E → Prop
  | .nil => True
  | .mk op _ _ _ _ _ _ _ n kid => (op = 18 → n = 2) ∧ ∀ i, i < n → (kid i).pairs

/-- The types of an expression and its parts. -/
structure ExprT (T : Tabs) (e v i q s l : TypeId) : Prop where
  he : ∃ ti, T.ty e = some ti ∧ ti.k = .struct [(i, 0), (s, 1), (s, 2), (i, 3), (v, 4), (l, 7)] ∧ ti.size = 8 ∧ 1 ≤ ti.bytes
  hv : ∃ ti, T.ty v = some ti ∧ ti.k = .struct [(i, 0), (q, 1), (s, 2)] ∧ ti.size = 3
  hi : ∃ ti, T.ty i = some ti ∧ ti.k = .int .i64 ∧ ti.size = 1
  hq : ∃ ti, T.ty q = some ti ∧ ti.k = .int .i64 ∧ ti.size = 1
  hs : ∃ ti, T.ty s = some ti ∧ ti.k = .string ∧ ti.size = 1
  hl : ∃ ti, T.ty l = some ti ∧ ti.k = .slice e ∧ ti.size = 1

theorem take_one {α : Type} {l : List α} {o : Nat} {x : α} (h : (l.drop o).take 1 = [x]) : l[o]? = some x := by
  have : ((l.drop o).take 1)[0]? = some x := by rw [h]; rfl
  rw [List.getElem?_take_of_lt (by omega), List.getElem?_drop, Nat.add_zero] at this
  exact this

theorem fieldRd {rd : RO} {k : Nat} {cs : List Value} {fs : List (TypeId × Nat)} {t o : Nat} {ti : TI} (h : ∀ f ∈ fs, ∃ fi, T.ty f.1 = some fi ∧ Rd T rd k f.1 ((cs.drop f.2).take fi.size)) (hm : (t, o) ∈ fs) (ht : T.ty t = some ti) : Rd T rd k t ((cs.drop o).take ti.size) := by
  obtain ⟨fi, h1, h2⟩ := h _ hm
  rw [ht] at h1
  injection h1 with h1
  subst h1
  exact h2

theorem fieldInt {rd : RO} {k : Nat} {cs : List Value} {fs : List (TypeId × Nat)} {t o : Nat} (h : ∀ f ∈ fs, ∃ fi, T.ty f.1 = some fi ∧ Rd T rd k f.1 ((cs.drop f.2).take fi.size)) (hm : (t, o) ∈ fs) (ht : ∃ ti, T.ty t = some ti ∧ ti.k = .int .i64 ∧ ti.size = 1) : ∃ n, cs[o]? = some (.int .i64 n) ∧ w64 n := by
  obtain ⟨ti, h1, h2, h3⟩ := ht
  have := fieldRd h hm h1
  rw [h3] at this
  obtain ⟨n, h4, h5⟩ := this.int h1 h2
  exact ⟨n, take_one h4, h5⟩

theorem fieldStr {rd : RO} {k : Nat} {cs : List Value} {fs : List (TypeId × Nat)} {t o : Nat} (h : ∀ f ∈ fs, ∃ fi, T.ty f.1 = some fi ∧ Rd T rd k f.1 ((cs.drop f.2).take fi.size)) (hm : (t, o) ∈ fs) (ht : ∃ ti, T.ty t = some ti ∧ ti.k = .string ∧ ti.size = 1) : ∃ s, cs[o]? = some (.string s) ∧ txt s ≤ reachBytes := by
  obtain ⟨ti, h1, h2, h3⟩ := ht
  have := fieldRd h hm h1
  rw [h3] at this
  obtain ⟨n, h4, h5⟩ := this.str h1 h2
  exact ⟨n, take_one h4, h5⟩

theorem fieldBool {rd : RO} {k : Nat} {cs : List Value} {fs : List (TypeId × Nat)} {t o : Nat} (h : ∀ f ∈ fs, ∃ fi, T.ty f.1 = some fi ∧ Rd T rd k f.1 ((cs.drop f.2).take fi.size)) (hm : (t, o) ∈ fs) (ht : ∃ ti, T.ty t = some ti ∧ ti.k = .bool ∧ ti.size = 1) : ∃ b, cs[o]? = some (.bool b) := by
  obtain ⟨ti, h1, h2, h3⟩ := ht
  have := fieldRd h hm h1
  rw [h3] at this
  obtain ⟨n, h4⟩ := this.bool h1 h2
  exact ⟨n, take_one h4⟩

theorem fieldSlice {α : Type} [Inhabited α] {rd : RO} {k : Nat} {cs : List Value} {fs : List (TypeId × Nat)} {t o e : Nat} {ei : TI} (cells : α → List Value) (ok : α → Prop) (h : ∀ f ∈ fs, ∃ fi, T.ty f.1 = some fi ∧ Rd T rd k f.1 ((cs.drop f.2).take fi.size)) (hm : (t, o) ∈ fs)
    (ht : ∃ ti, T.ty t = some ti ∧ ti.k = .slice e ∧ ti.size = 1) (he : T.ty e = some ei) (hb : 1 ≤ ei.bytes) (hx : ∀ k', k' < k → ∀ cs', Rd T rd k' e cs' → ∃ x : α, cells x = cs' ∧ ok x) :
    ∃ sl n x, cs[o]? = some sl ∧ n ≤ reachBytes ∧ SAt rd ei.size cells sl n x ∧ ∀ i, i < n → ok (x i) := by
  obtain ⟨ti, h1, h2, h3⟩ := ht
  have := fieldRd h hm h1
  rw [h3] at this
  obtain ⟨k', rfl⟩ := this.pos
  obtain ⟨sl, n, x, h4, h5, h6, h7⟩ := Rd.slice cells ok h1 h2 he hb this (hx k' (by omega))
  exact ⟨sl, n, x, take_one h4, h5, h6, h7⟩

theorem list8 {α : Type} {l : List α} {a0 a1 a2 a3 a4 a5 a6 a7 : α} (h : l.length = 8) (h0 : l[0]? = some a0) (h1 : l[1]? = some a1) (h2 : l[2]? = some a2) (h3 : l[3]? = some a3) (h4 : l[4]? = some a4) (h5 : l[5]? = some a5) (h6 : l[6]? = some a6) (h7 : l[7]? = some a7) : l = [a0, a1, a2, a3, a4, a5, a6, a7] := by
  match l, h with
  | [b0, b1, b2, b3, b4, b5, b6, b7], _ => simp at h0 h1 h2 h3 h4 h5 h6 h7; simp [h0, h1, h2, h3, h4, h5, h6, h7]

theorem E.of_rd {e v i q s l : TypeId} (hT : ExprT T e v i q s l) {rd : RO} : ∀ (k : Nat) (cs : List Value), Rd T rd k e cs → ∃ x : E, x.cells = cs ∧ x.At rd := by
  intro k
  induction k using Nat.strongRecOn with
  | _ k ih =>
    intro cs h
    obtain ⟨ei, he, hek, hes, heb⟩ := hT.he
    obtain ⟨vi, hv, hvk, hvs⟩ := hT.hv
    obtain ⟨k', rfl, hlen, hf⟩ := h.struct he hek
    rw [hes] at hlen
    obtain ⟨op, c0, w0⟩ := fieldInt hf (by simp) hT.hi (o := 0)
    obtain ⟨tb, c1, w1⟩ := fieldStr hf (by simp) hT.hs (o := 1)
    obtain ⟨nm, c2, w2⟩ := fieldStr hf (by simp) hT.hs (o := 2)
    obtain ⟨ix, c3, w3⟩ := fieldInt hf (by simp) hT.hi (o := 3)
    have hval := fieldRd hf (by simp) hv (o := 4)
    obtain ⟨k2, rfl, _, hg⟩ := hval.struct hv hvk
    rw [hvs] at hg
    obtain ⟨vk, c4, w4⟩ := fieldInt hg (by simp) hT.hi (o := 0)
    obtain ⟨vn, c5, w5⟩ := fieldInt hg (by simp) hT.hq (o := 1)
    obtain ⟨vt, c6, w6⟩ := fieldStr hg (by simp) hT.hs (o := 2)
    rw [List.getElem?_take_of_lt (by omega), List.getElem?_drop] at c4 c5 c6
    obtain ⟨sl, n, x, c7, hn, hsl, hok⟩ := fieldSlice E.cells (fun x => x.At rd) hf (by simp) hT.hl he heb (o := 7) (fun k3 hk3 cs' hr => ih k3 (by omega) cs' hr)
    rw [hes] at hsl
    exact ⟨.mk op tb nm ix vk vn vt sl n x, (list8 hlen c0 c1 c2 c3 c4 c5 c6 c7).symm, ⟨w0, w3, w4, w5⟩, ⟨w1, w2, w6⟩, hn, hsl, hok⟩

/-! ### plans -/
inductive Pl where
  | nil
  | mk (kd sc : Int) (csl : Value) (nc : Nat) (cols : Nat → Int) (ksl : Value) (nk : Nat) (keys : Nat → E) (flt : E) (asl : Value) (na : Nat) (args : Nat → Pl)

instance : Inhabited Pl := ⟨.nil⟩

def intC (n : Int) : List Value := [.int .i64 n]

def Pl.cells : Pl → List Value
  | .mk kd sc csl _ _ ksl _ _ (.mk op tb nm ix vk vi vt sl _ _) asl _ _ => [.int .i64 kd, .int .i64 sc, csl, ksl, .int .i64 op, .string tb, .string nm, .int .i64 ix, .int .i64 vk, .int .i64 vi, .string vt, sl, asl]
  | _ => []

def Pl.At (rd : RO) : Pl → Prop
  | .nil => False
  | .mk kd sc csl nc cols ksl nk keys flt asl na args => (w64 kd ∧ w64 sc ∧ nc ≤ reachBytes ∧ nk ≤ reachBytes ∧ na ≤ reachBytes) ∧ (SAt rd 1 intC csl nc cols ∧ ∀ i, i < nc → w64 (cols i)) ∧ (SAt rd 8 E.cells ksl nk keys ∧ ∀ i, i < nk → (keys i).At rd) ∧
      flt.At rd ∧ SAt rd 13 Pl.cells asl na args ∧ ∀ i, i < na → (args i).At rd

def E.tiny (e : E) : Prop := e.size ≤ 400 ∧ e.short

/-- Few nodes, nested to this depth. -/
def Pl.few : Pl → Nat → Prop
  | .nil, _ => False
  | .mk .., 0 => False
  | .mk _ _ _ nc _ _ nk keys flt _ na args, d + 1 => nc ≤ 10 ∧ nk ≤ 10 ∧ na ≤ 3 ∧ flt.tiny ∧ (∀ i, i < nk → (keys i).tiny) ∧ ∀ i, i < na → (args i).few d

def Pl.pairs : Pl → Prop
  | .nil => False
  | .mk _ _ _ _ _ _ nk keys flt _ na args => flt.pairs ∧ (∀ i, i < nk → (keys i).pairs) ∧ ∀ i, i < na → (args i).pairs

/-- The sources that a plan combines, in order. -/
def Pl.srcs : Pl → List Int
  | .nil => []
  | .mk kd sc _ _ _ _ _ _ _ _ na args => if kd = 1 ∨ kd = 2 ∨ kd = 3 then [sc] else catTo (fun i => (args i).srcs) na

theorem Pl.srcs_le : ∀ (p : Pl) (d : Nat), p.few d → p.srcs.length ≤ 3 ^ d
  | .nil, _, h => h.elim
  | .mk .., 0, h => h.elim
  | .mk kd sc _ nc _ _ nk keys flt _ na args, d + 1, h => by
    obtain ⟨_, _, h3, _, _, h6⟩ := h
    have hp : 1 ≤ 3 ^ d := Nat.one_le_pow _ _ (by omega)
    simp only [srcs]
    split
    · simp [Nat.pow_succ]; omega
    · rw [catTo_length]
      have := sumTo_le (f := fun i => (args i).srcs.length) (c := 3 ^ d) (n := na) fun i hi => Pl.srcs_le (args i) d (h6 i hi)
      have h2 : na * 3 ^ d ≤ 3 * 3 ^ d := Nat.mul_le_mul_right _ h3
      rw [Nat.pow_succ]
      omega

structure PlanT (T : Tabs) (p e v i q s l c a : TypeId) : Prop where
  hp : ∃ ti, T.ty p = some ti ∧ ti.k = .struct [(i, 0), (i, 1), (c, 2), (l, 3), (e, 4), (a, 12)] ∧ ti.size = 13 ∧ 1 ≤ ti.bytes
  ex : ExprT T e v i q s l
  hc : ∃ ti, T.ty c = some ti ∧ ti.k = .slice i ∧ ti.size = 1
  ha : ∃ ti, T.ty a = some ti ∧ ti.k = .slice p ∧ ti.size = 1
  ib : ∃ ti, T.ty i = some ti ∧ 1 ≤ ti.bytes

theorem list13 {α : Type} {l : List α} {a0 a1 a2 a3 b0 b1 b2 b3 b4 b5 b6 b7 c : α} (h : l.length = 13) (h0 : l[0]? = some a0) (h1 : l[1]? = some a1) (h2 : l[2]? = some a2) (h3 : l[3]? = some a3) (h4 : (l.drop 4).take 8 = [b0, b1, b2, b3, b4, b5, b6, b7]) (h5 : l[12]? = some c) :
    l = [a0, a1, a2, a3, b0, b1, b2, b3, b4, b5, b6, b7, c] := by
  match l, h with
  | [x0, x1, x2, x3, x4, x5, x6, x7, x8, x9, x10, x11, x12], _ => simp at h0 h1 h2 h3 h4 h5; simp [h0, h1, h2, h3, h4, h5]

theorem Pl.of_rd {p e v i q s l c a : TypeId} (hT : PlanT T p e v i q s l c a) {rd : RO} : ∀ (k : Nat) (cs : List Value), Rd T rd k p cs → ∃ x : Pl, x.cells = cs ∧ x.At rd := by
  intro k
  induction k using Nat.strongRecOn with
  | _ k ih =>
    intro cs h
    obtain ⟨pi, hp, hpk, hps, hpb⟩ := hT.hp
    obtain ⟨ei, he, hek, hes, heb⟩ := hT.ex.he
    obtain ⟨ii, hi, hib⟩ := hT.ib
    obtain ⟨ii', hi', hik, his⟩ := hT.ex.hi
    have : ii' = ii := by rw [hi] at hi'; injection hi' with hi'; exact hi'.symm
    subst this
    obtain ⟨k', rfl, hlen, hf⟩ := h.struct hp hpk
    rw [hps] at hlen
    obtain ⟨kd, c0, w0⟩ := fieldInt hf (by simp) hT.ex.hi (o := 0)
    obtain ⟨sc, c1, w1⟩ := fieldInt hf (by simp) hT.ex.hi (o := 1)
    obtain ⟨csl, nc, cols, c2, n2, s2, o2⟩ := fieldSlice intC w64 hf (by simp) hT.hc hi hib (o := 2) (fun k3 hk3 cs' hr => by
      obtain ⟨n, rfl, hn⟩ := hr.int hi hik
      exact ⟨n, rfl, hn⟩)
    obtain ⟨ksl, nk, keys, c3, n3, s3, o3⟩ := fieldSlice E.cells (fun x => x.At rd) hf (by simp) hT.ex.hl he heb (o := 3) (fun k3 hk3 cs' hr => E.of_rd hT.ex k3 cs' hr)
    have hflt := fieldRd hf (by simp) he (o := 4)
    rw [hes] at hflt
    obtain ⟨flt, c4, o4⟩ := E.of_rd hT.ex _ _ hflt
    obtain ⟨asl, na, args, c5, n5, s5, o5⟩ := fieldSlice Pl.cells (fun x => x.At rd) hf (by simp) hT.ha hp hpb (o := 12) (fun k3 hk3 cs' hr => ih k3 (by omega) cs' hr)
    rw [his] at s2
    rw [hes] at s3
    rw [hps] at s5
    cases flt with
    | nil => exact o4.elim
    | mk op tb nm ix vk vn vt sl n x =>
      exact ⟨.mk kd sc csl nc cols ksl nk keys (.mk op tb nm ix vk vn vt sl n x) asl na args, (list13 hlen c0 c1 c2 c3 c4.symm c5).symm, ⟨w0, w1, n2, n3, n5⟩, ⟨s2, o2⟩, ⟨s3, o3⟩, o4, s5, o5⟩

end Go.Vae
end

section
set_option linter.unusedVariables false
set_option linter.unusedSimpArgs false
namespace Go.Vae
open Go Go.RowKit

variable {P : Program} {T : Tabs}

/-- A memory of this run: where the caller's ends; what may be read for good lies below block lim of this run. -/
structure Hp (N lim : Nat) (rd : RO) (h : AH) : Prop where
  wf : h.wf
  n : h.n = N
  le : lim ≤ h.sz
  ext : ∀ b off m cs, rd b off m = some cs → b < N + lim ∧ h.cut b off m = some cs

theorem cut_grow {h h' : AH} {l lim : Nat} (g : Grow h l h') (hl : lim ≤ l) (hs : lim ≤ h.sz) {b off m : Nat} {cs : List Value} (hb : b < h.n + lim) (hc : h.cut b off m = some cs) : h'.cut b off m = some cs := by
  unfold AH.cut at hc ⊢
  rw [g.n, g.ro]
  cases hq : Nat.blt b h.n with
  | true => rw [hq] at hc; exact hc
  | false =>
    rw [hq] at hc
    simp only [cond] at hc ⊢
    have := blt_false hq
    rw [g.frame (b - h.n) (by omega) (by omega)]
    exact hc

theorem Grow.hpL {h h' : AH} {l N lim : Nat} {rd : RO} (g : Grow h l h') (hl : lim ≤ l) (H : Hp N lim rd h) : Hp N lim rd h' :=
  ⟨g.wf, g.n.trans H.n, Nat.le_trans H.le g.le, fun b off m cs hr => by
    obtain ⟨h1, h2⟩ := H.ext b off m cs hr
    exact ⟨h1, cut_grow g hl H.le (by rw [H.n]; exact h1) h2⟩⟩

theorem Grow.hp {h h' : AH} {N lim : Nat} {rd : RO} (g : Grow h h.sz h') (H : Hp N lim rd h) : Hp N lim rd h' := g.hpL H.le H

theorem hpBase (W : World) (ng : Nat) : Hp W.heap.size 0 (AH.base W ng).rd (AH.base W ng) :=
  ⟨fun k _ => Tr.get_e k, rfl, Nat.zero_le _, fun b off m cs hr => ⟨blt_true (AH.rd_blt hr), AH.rd_cut hr⟩⟩

theorem cell_cut {h : AH} {b off : Nat} {v : Value} (hc : h.cut b off 1 = some [v]) : h.cell b off = some v := by
  unfold AH.cut at hc
  unfold AH.cell
  cases hb : Nat.blt b h.n with
  | true =>
    rw [hb] at hc
    simp only [cond, roCells] at hc ⊢
    split at hc
    · rename_i u hu
      simp at hc
      rw [hu, hc]
    · cases hc
  | false =>
    rw [hb] at hc
    simp only [cond] at hc ⊢
    split at hc
    · rename_i cs hcs
      obtain ⟨h1, h2, h3⟩ := lcut_spec _ _ _ _ hc
      try simp only [hcs]
      rw [lget_eq]
      have := h3 0 (by omega)
      simpa using this.symm
    · cases hc

theorem Grow.keep {h h' : AH} {k : Nat} {x : Option AO} (g : Grow h h.sz h') (hk : k < h.sz) (b : h.blk k = x) : h'.blk k = x := (g.frame k hk hk).trans b

theorem Grow.keepL {h h' : AH} {l k : Nat} {x : Option AO} (g : Grow h l h') (hk : k < h.sz) (hl : k < l) (b : h.blk k = x) : h'.blk k = x := (g.frame k hk hl).trans b

theorem Grow.lt {h h' : AH} {l k : Nat} (g : Grow h l h') (hk : k < h.sz) : k < h'.sz := Nat.lt_of_lt_of_le hk g.le

/-- A call that answers so and leaves what was there. -/
def Kp (T : Tabs) (f : FuncId) (args : List Value) (h : AH) (R : Value → AH → Prop) : Prop := Fp T f args h fun v h' low => R v h' ∧ h.sz ≤ low

theorem Kp.of {f : FuncId} {args : List Value} {h : AH} {R : Value → AH → Prop} {fi : FI} (hkn : T.known f = none) (hf : T.fn f = some fi) (hl : Nat.ble args.length fi.nt = true)
    (hw : WpB T fi.nt fi.code (bsOf 0 args []) h h.sz (endB T fi fun v h' low => R v h' ∧ h.sz ≤ low)) : Kp T f args h R := FpB.of hkn hf hl hw

theorem Kp.known {f : FuncId} {h : AH} {R : Value → AH → Prop} {v : Value} (hk : T.known f = some v) (hq : R v h) : Kp T f [] h R := Fp.known hk ⟨hq, Nat.le_refl _⟩

theorem Kp.mono {f : FuncId} {args : List Value} {h : AH} {R R' : Value → AH → Prop} (hf : Kp T f args h R) (hr : ∀ v h', R v h' → R' v h') : Kp T f args h R' := Fp.mono hf fun v h' low ⟨h1, h2⟩ => ⟨hr v h' h1, h2⟩

def isB (b : Bool) : Value → AH → Prop := fun v _ => v = .bool b

theorem partO {N k off : Nat} {h : AH} {cs : List Value} {t : TypeId} {v : Value} (hn : h.n = N) (hb : h.blk k = some (.cells cs)) (hp : partT T t cs off = some v) : loadT T h t (N + k) off = some v := by
  have h1 : Nat.blt (N + k) h.n = false := by
    cases hq : Nat.blt (N + k) h.n
    · rfl
    · have := blt_true hq; omega
  unfold partT at hp
  unfold loadT
  split at hp
  · rename_i ti ht
    try rw [ht]
    try simp only
    simp only [AH.cut, AH.cell, h1, show N + k - h.n = k by omega, hb, cond]
    exact hp
  · cases hp

section
variable {nt : Nat} {ops l : List Oper} {o : Oper} {bs : Bs} {h : AH} {low : Nat} {Q : Bs → AH → Nat → List Acc → Prop} {N lim : Nat} {rd0 : RO}

/-- From a block of this run. -/
theorem SpB.loadO {t : TypeId} {x : Operand} {k off : Nat} {cs : List Value} {v : Value} {d : Nat} (H : Hp N lim rd0 h) (hb : h.blk k = some (.cells cs)) (ho : o.op = .load t x) (hw : wantedB ops bs o = some true) (he : evB bs h x = some (.pointer (some ⟨N + k, off, none⟩)))
    (hp : partT T t cs off = some v) (hd : o.dst = some d) (hlt : Nat.blt d nt = true)
    (h2 : SpB T nt ops l ((d, v) :: bs) h low fun b' h' l' acs => Q b' h' l' (⟨rdOf h (N + k), [], h.sz, h.sz, none⟩ :: acs)) : SpB T nt ops (o :: l) bs h low Q :=
  SpB.load ho hw he (partO H.n hb hp) hd hlt h2

/-- From the caller's memory: a struct. -/
theorem SpB.loadR {t : TypeId} {ti : TI} {x : Operand} {b off : Nat} {cs : List Value} {d : Nat} (H : Hp N lim rd0 h) (hc : rd0 b off ti.size = some cs) (ho : o.op = .load t x) (hw : wantedB ops bs o = some true) (he : evB bs h x = some (.pointer (some ⟨b, off, none⟩)))
    (ht : T.ty t = some ti) (ha : ti.agg = true) (hd : o.dst = some d) (hlt : Nat.blt d nt = true)
    (h2 : SpB T nt ops l ((d, .agg ⟨cs⟩) :: bs) h low fun b' h' l' acs => Q b' h' l' (⟨rdOf h b, [], h.sz, h.sz, none⟩ :: acs)) : SpB T nt ops (o :: l) bs h low Q :=
  SpB.load ho hw he (loadT_cut ht ha (H.ext _ _ _ _ hc).2) hd hlt h2

/-- From the caller's memory: a cell. -/
theorem SpB.loadRC {t : TypeId} {ti : TI} {x : Operand} {b off : Nat} {v : Value} {d : Nat} (H : Hp N lim rd0 h) (hc : rd0 b off 1 = some [v]) (ho : o.op = .load t x) (hw : wantedB ops bs o = some true) (he : evB bs h x = some (.pointer (some ⟨b, off, none⟩)))
    (ht : T.ty t = some ti) (ha : ti.agg = false) (hd : o.dst = some d) (hlt : Nat.blt d nt = true)
    (h2 : SpB T nt ops l ((d, v) :: bs) h low fun b' h' l' acs => Q b' h' l' (⟨rdOf h b, [], h.sz, h.sz, none⟩ :: acs)) : SpB T nt ops (o :: l) bs h low Q :=
  SpB.load ho hw he (loadT_cell ht ha (cell_cut (H.ext _ _ _ _ hc).2)) hd hlt h2

theorem new_facts (hwf : h.wf) (cs : List Value) : Grow h h.sz (h.app (.new cs)) ∧ (h.app (.new cs)).sz = h.sz + 1 ∧ (h.app (.new cs)).blk h.sz = some (.cells cs) := by
  have hw : ∀ k, k ∈ (Eff.new cs).wr → (h.blk k).isSome = true := fun k hk => by simp [Eff.wr] at hk
  exact ⟨Grow.app hwf hw h.sz, rfl, Tr.get_set_eq _ _ _⟩

theorem SpB.newV {v u : Value} {cs : List Value} {rd : List Nat} {d : Nat} (H : Hp N lim rd0 h) (hw : wantedB ops bs o = some true) (hall : allB bs h o.op.operands.toList = true) (ha : aop T h (rho bs h) o = some (.val v (.new cs) rd)) (hv : v = u) (hd : o.dst = some d) (hlt : Nat.blt d nt = true)
    (h2 : ∀ h', Grow h h.sz h' → h'.sz = h.sz + 1 → h'.blk h.sz = some (.cells cs) → SpB T nt ops l ((d, u) :: bs) h' low fun b' h'' l' acs => Q b' h'' l' (⟨rd, [], h.sz, h'.sz, none⟩ :: acs)) : SpB T nt ops (o :: l) bs h low Q :=
  SpB.eff hw hall ha hd hlt (by
    subst hv
    obtain ⟨g1, g2, g3⟩ := new_facts H.wf cs
    have := h2 _ g1 g2 g3
    rw [show Nat.min low (Eff.lowD low (.new cs)) = low from Nat.min_self low]
    exact this)

/-- A parameter laid into memory. -/
theorem SpB.box {t : TypeId} {x : Operand} {v : Value} {cs : List Value} {d : Nat} (H : Hp N lim rd0 h) (ho : o.op = .box t x) (hw : wantedB ops bs o = some true) (he : evB bs h x = some v) (hv : vcells v = some cs) (hd : o.dst = some d) (hlt : Nat.blt d nt = true)
    (h2 : ∀ h', Grow h h.sz h' → h'.sz = h.sz + 1 → h'.blk h.sz = some (.cells cs) → SpB T nt ops l ((d, .pointer (some ⟨N + h.sz, 0, none⟩)) :: bs) h' low fun b' h'' l' acs => Q b' h'' l' (⟨[], [], h.sz, h'.sz, none⟩ :: acs)) : SpB T nt ops (o :: l) bs h low Q :=
  SpB.newV (v := h.fresh) (cs := cs) H hw (by rw [ho]; simp [Op.operands, allB, he]) (by simp only [aop, ho, rho_some he, hv]) (by simp only [AH.fresh, H.n]) hd hlt h2

theorem SpB.alloc {t : TypeId} {ti : TI} {d : Nat} (H : Hp N lim rd0 h) (ho : o.op = .alloc t) (hw : wantedB ops bs o = some true) (ht : T.ty t = some ti) (hd : o.dst = some d) (hlt : Nat.blt d nt = true)
    (h2 : ∀ h', Grow h h.sz h' → h'.sz = h.sz + 1 → h'.blk h.sz = some (.cells ti.zero) → SpB T nt ops l ((d, .pointer (some ⟨N + h.sz, 0, none⟩)) :: bs) h' low fun b' h'' l' acs => Q b' h'' l' (⟨[], [], h.sz, h'.sz, none⟩ :: acs)) : SpB T nt ops (o :: l) bs h low Q :=
  SpB.newV (v := h.fresh) (cs := ti.zero) H hw (by rw [ho]; simp [Op.operands, allB]) (by simp only [aop, ho, ht]) (by simp only [AH.fresh, H.n]) hd hlt h2

/-- A new slice. -/
theorem SpB.newS {n c : Nat} {cs : List Value} {rd : List Nat} {d : Nat} (H : Hp N lim rd0 h) (hw : wantedB ops bs o = some true) (hall : allB bs h o.op.operands.toList = true) (ha : aop T h (rho bs h) o = some (.val (.slice (some ⟨h.n + h.sz, 0, none⟩) n c) (.new cs) rd)) (hd : o.dst = some d) (hlt : Nat.blt d nt = true)
    (h2 : ∀ h', Grow h h.sz h' → h'.sz = h.sz + 1 → h'.blk h.sz = some (.cells cs) → SpB T nt ops l ((d, .slice (some ⟨N + h.sz, 0, none⟩) n c) :: bs) h' low fun b' h'' l' acs => Q b' h'' l' (⟨rd, [], h.sz, h'.sz, none⟩ :: acs)) : SpB T nt ops (o :: l) bs h low Q :=
  SpB.newV H hw hall ha (by rw [H.n]) hd hlt h2

/-- Into a block of this run. -/
theorem SpB.storeO {t : TypeId} {ti : TI} {a x : Operand} {k off : Nat} {u : Value} {cs vs cs' : List Value} (H : Hp N lim rd0 h) (hb : h.blk k = some (.cells cs)) (hk : k < h.sz) (hlow : low ≤ k) (ho : o.op = .store t a x) (hw : wantedB ops bs o = some true) (ha : evB bs h a = some (.pointer (some ⟨N + k, off, none⟩))) (hx : evB bs h x = some u)
    (hv : vcells u = some vs) (ht : T.ty t = some ti) (hl : Nat.beq vs.length ti.size = true) (hp : lput cs off vs = some cs') (hd : o.dst = none)
    (h2 : ∀ h', Grow h k h' → h'.sz = h.sz → h'.blk k = some (.cells cs') → (∀ j, j ≠ k → h'.blk j = h.blk j) → SpB T nt ops l bs h' low fun b' h'' l' acs => Q b' h'' l' (⟨[], [k], h.sz, h'.sz, none⟩ :: acs)) : SpB T nt ops (o :: l) bs h low Q :=
  SpB.done (v := undef) (e := .set k cs') (rd := []) hw (by rw [ho]; simp [Op.operands, allB, ha, hx]) (by
    have h1 : Nat.blt (N + k) h.n = false := by
      cases hq : Nat.blt (N + k) h.n
      · rfl
      · have := blt_true hq; have := H.n; omega
    have h3 : N + k - h.n = k := by have := H.n; omega
    simp only [aop, ho, rho_some ha, rho_some hx, astore, hv, ht, h1, cond, h3, hb, hl, hp]) hd (by
    have hw : ∀ j, j ∈ (Eff.set k cs').wr → (h.blk j).isSome = true := fun j hj => by
      simp only [Eff.wr, List.mem_singleton] at hj
      subst hj
      simp [hb]
    have g := Grow.app H.wf hw k
    have := h2 (h.app (.set k cs')) g rfl (Tr.get_set_eq _ _ _) (fun j hj => Tr.get_set_ne _ _ hj)
    rw [show Nat.min low (Eff.lowD low (.set k cs')) = low from Nat.min_eq_left hlow]
    exact this)

/-- A call. -/
theorem SpB.callK {f : FuncId} {args : List Value} {R : Value → AH → Prop} {d : Nat} (ht : TabsOK P T) (H : Hp N lim rd0 h) (hlow : low ≤ h.sz) (hf : Kp T f args h R) (hw : wantedB ops bs o = some true) (hall : allB bs h o.op.operands.toList = true) (ha : aop T h (rho bs h) o = some (.go f args)) (hd : o.dst = some d) (hlt : Nat.blt d nt = true)
    (h2 : ∀ v h', R v h' → Grow h h.sz h' → SpB T nt ops l ((d, v) :: bs) h' low fun b h'' l' acs => Q b h'' l' (⟨[], [], h.sz, h'.sz, some false⟩ :: acs)) : SpB T nt ops (o :: l) bs h low Q :=
  SpB.call hw hall ha (hf.grow ht H.wf) hd hlt (by
    rintro v h' low' ⟨⟨h3, h4⟩, h5⟩
    have := h2 v h' h3 (h5.mono h4)
    rw [show Nat.min low low' = low from Nat.min_eq_left (by omega)]
    have hb : Nat.blt low' h.sz = false := by
      cases hq : Nat.blt low' h.sz
      · rfl
      · have := blt_true hq; omega
    rw [hb]
    exact this)
end

section
variable {nt : Nat} {bs : Bs} {h : AH} {low : Nat} {Q : Ex → Bs → AH → Nat → Prop}

/-- A loop over a state. -/
theorem WpB.loopS {σ : Type} {c : Code} (m : σ → Nat) (B : σ → Bs) (J : σ → AH → Prop) (s0 : σ) (h0 : J s0 h) (hs : ∀ t v, look (B s0) t = some v → look bs t = some v)
    (hr : ∀ s h, J s h → WpB T nt c (B s) h low (thenB (fun bs' h' l' => ∃ s', m s' < m s ∧ (∀ t v, look (B s') t = some v → look bs' t = some v) ∧ J s' h' ∧ l' = low) Q)) : WpB T nt (.loop c) bs h low Q :=
  WpB.loop (fun n bs' h' l' => ∃ s, m s = n ∧ bs' = B s ∧ J s h' ∧ l' = low) (fun n bs' h' l' ⟨s, e0, e1, hJ, e2⟩ => by
    subst e0 e1 e2
    refine (hr s h' hJ).mono fun ex b h' l' hq => ?_
    cases ex with
    | normal =>
      obtain ⟨s', h1, h2, h3, h4⟩ := hq
      exact ⟨m s', B s', h1, h2, s', rfl, rfl, h3, h4⟩
    | exit id => exact hq
    | ret => exact hq) (n := m s0) (b0 := B s0) ⟨s0, rfl, rfl, h0, rfl⟩ hs

/-- A loop that counts from 0 to at most n. -/
theorem WpB.loopC {c : Code} (n : Nat) (B : Nat → Bs) (J : Nat → AH → Prop) (h0 : J 0 h) (hs : ∀ t v, look (B 0) t = some v → look bs t = some v)
    (hr : ∀ i h, i ≤ n → J i h → WpB T nt c (B i) h low (thenB (fun bs' h' l' => i < n ∧ (∀ t v, look (B (i + 1)) t = some v → look bs' t = some v) ∧ J (i + 1) h' ∧ l' = low) Q)) : WpB T nt (.loop c) bs h low Q :=
  WpB.loopS (fun i => n - i) B (fun i h => i ≤ n ∧ J i h) 0 ⟨Nat.zero_le _, h0⟩ hs fun i h ⟨hi, hJ⟩ => (hr i h hi hJ).mono fun ex b h' l' hq => by
    cases ex with
    | normal =>
      obtain ⟨h1, h2, h3, h4⟩ := hq
      exact ⟨i + 1, (by show n - (i + 1) < n - i; omega), h2, ⟨by omega, h3⟩, h4⟩
    | exit id => exact hq
    | ret => exact hq
end

/-! ### slices of this run -/
/-- A slice of n elements of so many cells, of this run, from block number lo on; nobody else holds its block. -/
def Own (h : AH) (lo size : Nat) (v : Value) (n : Nat) (cs : List Value) : Prop :=
  (v = .slice none 0 0 ∧ n = 0 ∧ cs = []) ∨
  ∃ k cap, lo ≤ k ∧ k < h.sz ∧ v = .slice (some ⟨h.n + k, 0, none⟩) n cap ∧ h.blk k = some (.cells cs) ∧ cs.length = n * size ∧ (cap = unk + size ∨ (cap = n ∧ n < unk))

theorem Own.nil (h : AH) (lo size : Nat) : Own h lo size (.slice none 0 0) 0 [] := .inl ⟨rfl, rfl, rfl⟩

theorem Own.grow {h h' : AH} {lo size n l : Nat} {v : Value} {cs : List Value} (o : Own h lo size v n cs) (g : Grow h l h') (hl : h.sz ≤ l) : Own h' lo size v n cs := by
  rcases o with o | ⟨k, cap, h1, h2, h3, h4, h5⟩
  · exact .inl o
  · exact .inr ⟨k, cap, h1, g.lt h2, by rw [g.n]; exact h3, g.keepL h2 (by omega) h4, h5⟩

theorem Own.low {h : AH} {lo lo' size n : Nat} {v : Value} {cs : List Value} (o : Own h lo size v n cs) (hl : lo' ≤ lo) : Own h lo' size v n cs := by
  rcases o with o | ⟨k, cap, h1, h⟩
  · exact .inl o
  · exact .inr ⟨k, cap, by omega, h⟩

theorem lcut_all {α : Type} : ∀ (l : List α), lcut l 0 l.length = some l
  | [] => rfl
  | x :: xs => by simp only [List.length_cons, lcut, lcut_all xs]; rfl

theorem own_cut {h : AH} {k : Nat} {cs : List Value} (hb : h.blk k = some (.cells cs)) : h.cut (h.n + k) 0 cs.length = some cs := by
  have h1 : Nat.blt (h.n + k) h.n = false := by
    cases hq : Nat.blt (h.n + k) h.n
    · rfl
    · have := blt_true hq; omega
  simp only [AH.cut, h1, show h.n + k - h.n = k by omega, hb, cond]
  exact lcut_all cs

theorem Own.src {h : AH} {lo size n : Nat} {v : Value} {cs : List Value} (o : Own h lo size v n cs) : (∃ r, srcCells h size v n = some (cs, r)) ∧ lenV v = some n := by
  rcases o with ⟨rfl, rfl, rfl⟩ | ⟨k, cap, h1, h2, rfl, h4, h5, h6⟩
  · exact ⟨⟨[], rfl⟩, rfl⟩
  · refine ⟨⟨rdOf h (h.n + k), ?_⟩, rfl⟩
    simp only [srcCells, ← h5, own_cut h4]

theorem beqs (n : Nat) : Nat.beq n n = true := by simp [Nat.beq_eq]

/-- Elements are appended to a slice of this run. -/
theorem append_own {h : AH} (hwf : h.wf) {lo size n m st xt e : Nat} {s x : Value} {cs news : List Value} {ti ei xi : TI} (hs : Own h lo size s n cs) (hx : ∃ r, srcCells h size x m = some (news, r)) (hl : lenV x = some m) (hnl : news.length = m * size)
    (h1 : T.ty st = some ti) (h2 : ti.k = .slice e) (h3 : T.ty e = some ei) (h4 : ei.size = size) (h5 : 1 ≤ size) (h6 : 1 ≤ ei.bytes) (h7 : T.ty xt = some xi) (h8 : isInt xi.k = false) (h9 : isSeq xi.k = true) (hb : (n + m) * ei.bytes ≤ 70368744177664) (hlo : lo ≤ h.sz) :
    ∃ v ef rd, aappend T h st xt s x = some (.val v ef rd) ∧ Own (h.app ef) lo size v (n + m) (cs ++ news) ∧ Grow h lo (h.app ef) ∧ (∀ low, low ≤ lo → Nat.min low (ef.lowD low) = low) := by
  subst h4
  obtain ⟨r, hr⟩ := hx
  have hb2 : n + m ≤ 70368744177664 := Nat.le_trans (Nat.le_mul_of_pos_right _ h6) hb
  have hu : (70368744177664 : Nat) < unk := by decide
  have start : ∀ base sCap, aappend T h st xt (.slice base n sCap) x = aappendTo h ei base n sCap m news r := fun base sCap => by
    simp only [aappend, h1, h7, h2, h3, Nat.ble_eq_true_of_le h5, Nat.ble_eq_true_of_le h6, Bool.and_self, cond, h8, h9, hl, hr]
  have bounds : (Nat.ble ((n + m) * ei.bytes) 70368744177664 && Nat.ble (n + m) 70368744177664) = true := by
    rw [Nat.ble_eq_true_of_le hb, Nat.ble_eq_true_of_le hb2]; rfl
  by_cases hm : m = 0
  · subst hm
    have hn0 : news = [] := List.eq_nil_of_length_eq_zero (by simpa using hnl)
    subst hn0
    have ok : ∀ base sCap, n ≤ sCap → aappendTo h ei base n sCap 0 [] r = some (.val (.slice base n sCap) .nil r) := fun base sCap hc => by
      simp [aappendTo, Nat.ble_eq_true_of_le hc]
    have g : Grow h lo (h.app .nil) := Grow.refl hwf lo
    rcases hs with ⟨rfl, rfl, rfl⟩ | ⟨k, cap, a1, a2, rfl, a4, a5, a6⟩
    · exact ⟨_, .nil, r, (start none 0).trans (ok none 0 (Nat.le_refl _)), .inl ⟨rfl, rfl, rfl⟩, g, fun low _ => Nat.min_self low⟩
    · refine ⟨_, .nil, r, (start _ cap).trans (ok _ cap ?_), ?_, g, fun low _ => Nat.min_self low⟩
      · rcases a6 with a6 | ⟨a6, _⟩ <;> omega
      · rw [List.append_nil]
        exact .inr ⟨k, cap, a1, a2, rfl, a4, a5, a6⟩
  · have hm0 : Nat.beq m 0 = false := by
      cases hq : Nat.beq m 0
      · rfl
      · exact absurd (by simpa [Nat.beq_eq] using hq) hm
    have fresh : ∀ old, old.length = n * ei.size → Own (h.app (.new (old ++ news))) lo ei.size (.slice (some ⟨h.n + h.sz, 0, none⟩) (n + m) (unk + ei.size)) (n + m) (old ++ news) := fun old ho =>
      .inr ⟨h.sz, unk + ei.size, hlo, Nat.lt_succ_self _, rfl, Tr.get_set_eq _ _ _, by rw [List.length_append, ho, hnl, Nat.add_mul], .inl rfl⟩
    have gnew : ∀ c, Grow h lo (h.app (.new c)) := fun c => (new_facts hwf c).1.mono hlo
    rcases hs with ⟨rfl, rfl, rfl⟩ | ⟨k, cap, a1, a2, rfl, a4, a5, a6⟩
    · refine ⟨_, .new ([] ++ news), [] ++ r, (start none 0).trans ?_, fresh [] (by simp), gnew _, fun low _ => Nat.min_self low⟩
      have hc : Nat.ble (0 + m) 0 = false := by
        cases hq : Nat.ble (0 + m) 0
        · rfl
        · have := Nat.le_of_ble_eq_true hq; omega
      simp only [aappendTo, hm0, cond, show Nat.ble unk 0 = false from rfl, hc, srcCells, beqs, bounds]
    · rcases a6 with rfl | ⟨a8, a7⟩
      · refine ⟨.slice (some ⟨h.n + h.sz, 0, none⟩) (n + m) (unk + ei.size), .grow k (cs ++ news), r, (start _ _).trans ?_, ?_, ?_, fun low hl => Nat.min_eq_left (Nat.le_trans hl a1)⟩
        · have hq : Nat.blt (h.n + k) h.n = false := by
            cases hq : Nat.blt (h.n + k) h.n
            · rfl
            · have := blt_true hq; omega
          have hcut := own_cut a4
          rw [a5] at hcut
          simp only [aappendTo, hm0, cond, Nat.ble_eq_true_of_le (Nat.le_add_right unk ei.size), hq, hcut, bounds, beqs, Bool.and_self, Nat.add_sub_cancel_left]
        · exact .inr ⟨h.sz, unk + ei.size, hlo, Nat.lt_succ_self _, rfl, Tr.get_set_eq _ _ _, by rw [List.length_append, a5, hnl, Nat.add_mul], .inl rfl⟩
        · have hw : ∀ j, j ∈ (Eff.grow k (cs ++ news)).wr → (h.blk j).isSome = true := fun j hj => by
            simp only [Eff.wr, List.mem_singleton] at hj
            subst hj
            simp [a4]
          exact (Grow.app hwf hw k).mono a1
      · have a8 := a8.symm
        subst a8
        refine ⟨_, .new (cs ++ news), rdOf h (h.n + k) ++ r, (start _ _).trans ?_, fresh cs a5, gnew _, fun low _ => Nat.min_self low⟩
        have hc : Nat.ble (n + m) n = false := by
          cases hq : Nat.ble (n + m) n
          · rfl
          · have := Nat.le_of_ble_eq_true hq; omega
        have hc2 : Nat.ble unk n = false := by
          cases hq : Nat.ble unk n
          · rfl
          · have := Nat.le_of_ble_eq_true hq; omega
        have hcut := own_cut a4
        rw [a5] at hcut
        simp only [aappendTo, hm0, cond, hc, hc2, srcCells, hcut, bounds]

section
variable {nt : Nat} {ops l : List Oper} {o : Oper} {bs : Bs} {h : AH} {low : Nat} {Q : Bs → AH → Nat → List Acc → Prop} {N lim : Nat} {rd0 : RO}

theorem SpB.append {lo size n m st xt e d : Nat} {s x : Value} {cs news : List Value} {ti ei xi : TI} (H : Hp N lim rd0 h) (hs : Own h lo size s n cs) (hx : (∃ r, srcCells h size x m = some (news, r)) ∧ lenV x = some m) (hnl : news.length = m * size) (hlo : lo ≤ h.sz) (hlow : low ≤ lo) (hb : (n + m) * ei.bytes ≤ 70368744177664)
    (hw : wantedB ops bs o = some true) (hall : allB bs h o.op.operands.toList = true) (ha : aop T h (rho bs h) o = aappend T h st xt s x)
    (h1 : T.ty st = some ti) (h2 : ti.k = .slice e) (h3 : T.ty e = some ei) (h4 : ei.size = size) (h5 : Nat.ble 1 size = true) (h6 : Nat.ble 1 ei.bytes = true) (h7 : T.ty xt = some xi) (h8 : isInt xi.k = false) (h9 : isSeq xi.k = true) (hd : o.dst = some d) (hlt : Nat.blt d nt = true)
    (hk : ∀ v h' acc, Own h' lo size v (n + m) (cs ++ news) → Grow h lo h' → SpB T nt ops l ((d, v) :: bs) h' low fun b h'' l' acs => Q b h'' l' (acc :: acs)) : SpB T nt ops (o :: l) bs h low Q := by
  obtain ⟨v, ef, rd, g1, g2, g3, g4⟩ := append_own H.wf hs hx.1 hx.2 hnl h1 h2 h3 h4 (Nat.le_of_ble_eq_true h5) (Nat.le_of_ble_eq_true h6) h7 h8 h9 hb hlo
  refine SpB.eff hw hall (ha.trans g1) hd hlt ?_
  rw [g4 low hlow]
  exact hk v _ _ g2 g3
end

/-- Is an operation guarded further on? -/
def guardsIn : List Oper → Bool
  | [] => false
  | o :: l => o.guard.isSome || guardsIn l

/-- A truth value on which something hangs in this region: both ways. -/
theorem SpB.boolN {nt : Nat} {ops l : List Oper} {o : Oper} {bs : Bs} {h : AH} {low : Nat} {Q : Bs → AH → Nat → List Acc → Prop} {b : Bool} {rd : List Nat} {d : Nat} (hg : guardsIn l = true) (hw : wantedB ops bs o = some true) (hall : allB bs h o.op.operands.toList = true) (ha : aop T h (rho bs h) o = some (.val (.bool b) .nil rd)) (hd : o.dst = some d) (hlt : Nat.blt d nt = true)
    (h2 : b = true → SpB T nt ops l ((d, .bool true) :: bs) h low fun b h' l' acs => Q b h' l' (⟨rd, [], h.sz, h.sz, none⟩ :: acs))
    (h3 : b = false → SpB T nt ops l ((d, .bool false) :: bs) h low fun b h' l' acs => Q b h' l' (⟨rd, [], h.sz, h.sz, none⟩ :: acs)) : SpB T nt ops (o :: l) bs h low Q :=
  SpB.bool hw hall ha hd hlt h2 h3

/-- An element of a slice, by a number from 0 on. -/
theorem SpB.indexN {nt : Nat} {ops l : List Oper} {o : Oper} {bs : Bs} {h : AH} {low : Nat} {Q : Bs → AH → Nat → List Acc → Prop} {t e : TypeId} {x i : Operand} {b off len cap : Nat} {k : IntKind} {n : Nat} {ti ei : TI} {d : Nat} (h1 : n < len) (ho : o.op = .indexAddr t x i) (hw : wantedB ops bs o = some true) (hx : evB bs h x = some (.slice (some ⟨b, off, none⟩) len cap))
    (hi : evB bs h i = some (.int k n)) (ht : T.ty t = some ti) (hk : ti.k = .slice e) (hte : T.ty e = some ei) (hd : o.dst = some d) (hlt : Nat.blt d nt = true)
    (h2 : SpB T nt ops l ((d, .pointer (some ⟨b, off + n * ei.size, none⟩)) :: bs) h low fun b' h' l' acs => Q b' h' l' (⟨[], [], h.sz, h.sz, none⟩ :: acs)) : SpB T nt ops (o :: l) bs h low Q :=
  SpB.indexS ho hw hx hi ht hk hte (Int.natCast_nonneg n) (by omega) hd hlt h2

/-- A statement after which only these temporaries count. -/
theorem WpB.cut {nt : Nat} {bs : Bs} {h : AH} {low : Nat} {Q : Ex → Bs → AH → Nat → Prop} {a b : Code} (b0 : Bs) (J : AH → Prop) (ha : WpB T nt a bs h low (thenB (fun bs' h' l' => (∀ t v, look b0 t = some v → look bs' t = some v) ∧ J h' ∧ l' = low) Q))
    (hb : ∀ h', J h' → WpB T nt b b0 h' low Q) : WpB T nt (.seq a b) bs h low Q :=
  WpB.seq (ha.mono fun ex b h' l' hq => by
    cases ex with
    | normal =>
      obtain ⟨h1, h2, h3⟩ := hq
      subst h3
      exact (hb h' h2).sub h1
    | exit id => exact hq
    | ret => exact hq)

/-- One more. -/
theorem SpB.inc {nt : Nat} {ops l : List Oper} {o : Oper} {bs : Bs} {h : AH} {low : Nat} {Q : Bs → AH → Nat → List Acc → Prop} {t u : TypeId} {x : Operand} {i d : Nat} (hs : i < 9223372036854775807) (ho : o.op = .binOp .add t x (.const (.int .i64 1)) u) (hw : wantedB ops bs o = some true) (hx : evB bs h x = some (.int .i64 (i : Int)))
    (hd : o.dst = some d) (hlt : Nat.blt d nt = true)
    (h2 : SpB T nt ops l ((d, .int .i64 ((i + 1 : Nat) : Int)) :: bs) h low fun b' h' l' acs => Q b' h' l' (⟨[], [], h.sz, h.sz, none⟩ :: acs)) : SpB T nt ops (o :: l) bs h low Q :=
  SpB.pure hw (by
    have h4 : evB bs h (.const (.int .i64 1)) = some (.int .i64 1) := rfl
    rw [ho]
    simp [Op.operands, allB, hx, h4]) (by
    have h1 : rho bs h (.const (.int .i64 1)) = .int .i64 1 := rfl
    have h3 : abin T .add t (.int .i64 (i : Int)) (.int .i64 1) = some (.int .i64 (IntKind.i64.wrap ((i : Int) + 1))) := rfl
    simp only [aop, ho, rho_some hx, h1, h3, nat_wrap hs, okO]) hd hlt h2

def isBoolV : Value → Bool
  | .bool _ => true
  | _ => false

/-- An operation without effect, but for a truth value on which something hangs in this region. -/
theorem SpB.pureS {nt : Nat} {ops l : List Oper} {o : Oper} {bs : Bs} {h : AH} {low : Nat} {Q : Bs → AH → Nat → List Acc → Prop} {v : Value} {rd : List Nat} {d : Nat} (hw : wantedB ops bs o = some true) (hall : allB bs h o.op.operands.toList = true) (ha : aop T h (rho bs h) o = some (.val v .nil rd)) (hg : (guardsIn l && isBoolV v) = false) (hd : o.dst = some d) (hlt : Nat.blt d nt = true)
    (h2 : SpB T nt ops l ((d, v) :: bs) h low fun b h' l' acs => Q b h' l' (⟨rd, [], h.sz, h.sz, none⟩ :: acs)) : SpB T nt ops (o :: l) bs h low Q :=
  SpB.pure hw hall ha hd hlt h2

/-- .. where the statement is already at hand. -/
theorem WpB.cut1 {nt : Nat} {bs : Bs} {h : AH} {low : Nat} {Q : Ex → Bs → AH → Nat → Prop} {a b : Code} (b0 : Bs) (J : AH → Prop) (ha : WpB T nt a bs h low (thenB (fun bs' h' l' => (∀ t v, look b0 t = some v → look bs' t = some v) ∧ J h' ∧ l' = low) Q))
    (hb : ∀ h', J h' → WpB T nt b b0 h' low Q) : WpB T nt a bs h low (thenB (fun bs' h' l' => WpB T nt b bs' h' l' Q) Q) :=
  ha.mono fun ex b h' l' hq => by
    cases ex with
    | normal =>
      obtain ⟨h1, h2, h3⟩ := hq
      subst h3
      exact (hb h' h2).sub h1
    | exit id => exact hq
    | ret => exact hq

theorem res1 {h : AH} {bs : Bs} {t : Nat} {v : Value} (hl : look bs t = some v) (h1 : isOne v = true) : resAllB T h bs [.tmp t] = some v := by
  simp [resAllB, resVsB, resVB, hl, h1]

theorem Own.one {h : AH} {lo size n : Nat} {v : Value} {cs : List Value} (o : Own h lo size v n cs) : isOne v = true := by
  rcases o with ⟨rfl, _⟩ | ⟨k, cap, _, _, rfl, _⟩ <;> rfl

theorem Own.shape {h : AH} {lo size n : Nat} {v : Value} {cs : List Value} (o : Own h lo size v n cs) : ∃ a cap, v = .slice a n cap ∧ ∀ i, i < n → ∃ k, k < h.sz ∧ lo ≤ k ∧ a = some ⟨h.n + k, 0, none⟩ ∧ h.blk k = some (.cells cs) := by
  rcases o with ⟨rfl, rfl, _⟩ | ⟨k, cap, h1, h2, rfl, h4, _⟩
  · exact ⟨none, 0, rfl, fun i hi => absurd hi (Nat.not_lt_zero _)⟩
  · exact ⟨_, cap, rfl, fun i _ => ⟨k, h2, h1, rfl, h4⟩⟩

end Go.Vae
end

section
set_option linter.unusedVariables false
set_option linter.unusedSimpArgs false
namespace Go.Vae
open Go

section
variable {T : Tabs} {nt : Nat} {ops l : List Oper} {o : Oper} {bs : Bs} {h : AH} {low : Nat} {Q : Bs → AH → Nat → List Acc → Prop}

theorem qN (hq : Q bs h low []) : SpB T nt ops [] bs h low Q := SpB.nil hq

theorem qM {x : Operand} {v : Value} {d : Nat} (e : (o.op, wantedB ops bs o, evB bs h x, o.dst, Nat.blt d nt) = (Op.move x, some true, some v, some d, true))
    (h2 : SpB T nt ops l ((d, v) :: bs) h low fun b h' l' acs => Q b h' l' (⟨[], [], h.sz, h.sz, none⟩ :: acs)) : SpB T nt ops (o :: l) bs h low Q := by
  simp only [Prod.mk.injEq] at e
  exact SpB.move e.1 e.2.1 e.2.2.1 e.2.2.2.1 e.2.2.2.2 h2

theorem qA {x : Operand} {v : Value} {d : Nat} (e : (o.op, wantedB ops bs o, evB bs h x, o.dst, Nat.blt d nt) = (Op.assign x, some true, some v, some d, true))
    (h2 : SpB T nt ops l ((d, v) :: bs) h low fun b h' l' acs => Q b h' l' (⟨[], [], h.sz, h.sz, none⟩ :: acs)) : SpB T nt ops (o :: l) bs h low Q := by
  simp only [Prod.mk.injEq] at e
  exact SpB.assign e.1 e.2.1 e.2.2.1 e.2.2.2.1 e.2.2.2.2 h2

theorem qS {d : Nat} (e : (wantedB ops bs o, o.dst, Nat.blt d nt) = (some false, some d, true))
    (h2 : SpB T nt ops l ((d, skipV) :: bs) h low fun b h' l' acs => Q b h' l' (⟨[], [], h.sz, h.sz, none⟩ :: acs)) : SpB T nt ops (o :: l) bs h low Q := by
  simp only [Prod.mk.injEq] at e
  exact SpB.skip e.1 e.2.1 e.2.2 h2

theorem qL {N lim : Nat} {rd0 : RO} {t : TypeId} {x : Operand} {k off : Nat} {cs : List Value} {v : Value} {d : Nat} (H : Hp N lim rd0 h) (hb : h.blk k = some (.cells cs))
    (e : (o.op, wantedB ops bs o, evB bs h x, partT T t cs off, o.dst, Nat.blt d nt) = (Op.load t x, some true, some (.pointer (some ⟨N + k, off, none⟩)), some v, some d, true))
    (h2 : SpB T nt ops l ((d, v) :: bs) h low fun b' h' l' acs => Q b' h' l' (⟨rdOf h (N + k), [], h.sz, h.sz, none⟩ :: acs)) : SpB T nt ops (o :: l) bs h low Q := by
  simp only [Prod.mk.injEq] at e
  exact SpB.loadO H hb e.1 e.2.1 e.2.2.1 e.2.2.2.1 e.2.2.2.2.1 e.2.2.2.2.2 h2

theorem qT {rd : List Nat} {d : Nat} (e : (wantedB ops bs o, allB bs h o.op.operands.toList, aop T h (rho bs h) o, o.dst, Nat.blt d nt) = (some true, true, some (.val (.bool true) .nil rd), some d, true))
    (h2 : SpB T nt ops l ((d, .bool true) :: bs) h low fun b h' l' acs => Q b h' l' (⟨rd, [], h.sz, h.sz, none⟩ :: acs)) : SpB T nt ops (o :: l) bs h low Q := by
  simp only [Prod.mk.injEq] at e
  exact SpB.pure e.1 e.2.1 e.2.2.1 e.2.2.2.1 e.2.2.2.2 h2

theorem qF {rd : List Nat} {d : Nat} (e : (wantedB ops bs o, allB bs h o.op.operands.toList, aop T h (rho bs h) o, o.dst, Nat.blt d nt) = (some true, true, some (.val (.bool false) .nil rd), some d, true))
    (h2 : SpB T nt ops l ((d, .bool false) :: bs) h low fun b h' l' acs => Q b h' l' (⟨rd, [], h.sz, h.sz, none⟩ :: acs)) : SpB T nt ops (o :: l) bs h low Q := by
  simp only [Prod.mk.injEq] at e
  exact SpB.pure e.1 e.2.1 e.2.2.1 e.2.2.2.1 e.2.2.2.2 h2

theorem qP {v : Value} {rd : List Nat} {d : Nat} (e : (wantedB ops bs o, allB bs h o.op.operands.toList, aop T h (rho bs h) o, (guardsIn l && isBoolV v), o.dst, Nat.blt d nt) = (some true, true, some (.val v .nil rd), false, some d, true))
    (h2 : SpB T nt ops l ((d, v) :: bs) h low fun b h' l' acs => Q b h' l' (⟨rd, [], h.sz, h.sz, none⟩ :: acs)) : SpB T nt ops (o :: l) bs h low Q := by
  simp only [Prod.mk.injEq] at e
  exact SpB.pure e.1 e.2.1 e.2.2.1 e.2.2.2.2.1 e.2.2.2.2.2 h2

theorem qI {t u : TypeId} {x : Operand} {d : Nat} (i : Nat) (hs : i < 9223372036854775807) (e : (o.op, wantedB ops bs o, evB bs h x, o.dst, Nat.blt d nt) = (Op.binOp .add t x (.const (.int .i64 1)) u, some true, some (.int .i64 (i : Int)), some d, true))
    (h2 : SpB T nt ops l ((d, .int .i64 ((i + 1 : Nat) : Int)) :: bs) h low fun b' h' l' acs => Q b' h' l' (⟨[], [], h.sz, h.sz, none⟩ :: acs)) : SpB T nt ops (o :: l) bs h low Q := by
  simp only [Prod.mk.injEq] at e
  exact SpB.inc hs e.1 e.2.1 e.2.2.1 e.2.2.2.1 e.2.2.2.2 h2

theorem qB {b : Bool} {rd : List Nat} {d : Nat} (e : (guardsIn l, wantedB ops bs o, allB bs h o.op.operands.toList, aop T h (rho bs h) o, o.dst, Nat.blt d nt) = (true, some true, true, some (.val (.bool b) .nil rd), some d, true))
    (h2 : b = true → SpB T nt ops l ((d, .bool true) :: bs) h low fun b h' l' acs => Q b h' l' (⟨rd, [], h.sz, h.sz, none⟩ :: acs))
    (h3 : b = false → SpB T nt ops l ((d, .bool false) :: bs) h low fun b h' l' acs => Q b h' l' (⟨rd, [], h.sz, h.sz, none⟩ :: acs)) : SpB T nt ops (o :: l) bs h low Q := by
  simp only [Prod.mk.injEq] at e
  exact SpB.bool e.2.1 e.2.2.1 e.2.2.2.1 e.2.2.2.2.1 e.2.2.2.2.2 h2 h3
end

theorem wN {acs : List Acc} {ms : List Nat} {Q : Prop} (e : anyWrites acs = false) (q : Q) : (anyWrites acs = true → orderOK acs ms = true) ∧ Q := ⟨fun hw => (by rw [e] at hw; cases hw), q⟩

section
variable {T : Tabs} {nt : Nat} {bs : Bs} {h : AH} {low : Nat} {Q : Ex → Bs → AH → Nat → Prop}
theorem wQ {a b : Code} (hw : WpB T nt a bs h low (thenB (fun bs' h' l' => WpB T nt b bs' h' l' Q) Q)) : WpB T nt (.seq a b) bs h low Q := WpB.seq hw
theorem wR {id : Nat} {ops : Array Oper} (hs : SpB T nt ops.toList ops.toList bs h low fun b h' l' _ => Q .normal b h' l') : WpB T nt (.region id ops false) bs h low Q := WpB.region hs
theorem wD {id : Nat} {ops : Array Oper} (hs : SpB T nt ops.toList ops.toList bs h low fun b h' l' acs => (anyWrites acs = true → orderOK acs (Region.before ops).toList = true) ∧ Q .normal b h' l') : WpB T nt (.region id ops true) bs h low Q := WpB.draw hs
theorem wS (hq : Q .normal bs h low) : WpB T nt .skip bs h low Q := WpB.skip hq
theorem wT {c : Operand} {a b : Code} (hc : evB bs h c = some (.bool true)) (ha : WpB T nt a bs h low Q) : WpB T nt (.cond c a b) bs h low Q := WpB.condT hc ha
theorem wF {c : Operand} {a b : Code} (hc : evB bs h c = some (.bool false)) (ha : WpB T nt b bs h low Q) : WpB T nt (.cond c a b) bs h low Q := WpB.condF hc ha
end

end Go.Vae
end

section
set_option linter.unusedVariables false
namespace Go.Proofs.YtkjkcoemloakhaaGreat
open Go Go.Vae
set_option maxRecDepth 100000

noncomputable abbrev TT : Tabs := Tryz.T Tryz.known

theorem pairs_ok {N lim : Nat} {rd : RO} : ∀ (e : E) (h : AH), Hp N lim rd h → e.At rd → Kp TT 46 [.agg ⟨e.cells⟩] h fun v _ => ∃ b, v = .bool b ∧ (b = true → e.pairs)
  | .nil, h, _, he => he.elim
  | .mk op tb nm ix vk vi vt sl n kid, h0, H, he => by
    obtain ⟨_, _, hn, ⟨a, cap, rfl, _, _, hx⟩, hk⟩ := he
    have hreach : reachBytes < 2 ^ 47 := by decide
    refine Kp.of (fi := Tryz.fi46) rfl rfl rfl ?_
    refine WpB.seq (WpB.region ?_)
    refine SpB.box H rfl rfl rfl rfl rfl rfl fun h g s1 b1 => ?_
    have H := g.hp H
    have l1 : h0.sz < h.sz := by omega
    clear g s1
    refine SpB.assign rfl rfl rfl rfl rfl (SpB.nil ?_)
    refine WpB.cut [(1, .pointer (some ⟨N + h0.sz, 0, none⟩))] (fun h' => h' = h ∧ (op = 18 → n = 2)) ?_ ?_
    · repeat' first | refine qN ?_ | refine qM rfl ?_ | refine qA rfl ?_ | refine qS rfl ?_ | refine qL H b1 rfl ?_ | refine qT rfl ?_ | refine qF rfl ?_ | refine qB rfl (fun ht => ?_) fun ht => ?_ | refine qI i (by omega) rfl ?_ | refine qI io (by omega) rfl ?_ | refine qP rfl ?_ | refine wQ ?_ | refine wR ?_ | refine wD ?_ | refine wN rfl ?_ | refine wS ?_ | refine wT rfl ?_ | refine wF rfl ?_ | refine WpB.cond rfl (fun ht => ?_) fun ht => ?_
      · exact WpB.ret ⟨_, rfl, ⟨false, rfl, fun h => by cases h⟩, Nat.le_refl _⟩
      · refine ⟨(by repeat first | exact sub_nil | refine sub_cons rfl ?_), ⟨rfl, fun _ => by simp at ht; omega⟩, rfl⟩
      · refine ⟨(by repeat first | exact sub_nil | refine sub_cons rfl ?_), ⟨rfl, fun h => by simp at ht; omega⟩, rfl⟩
    · rintro _ ⟨rfl, hand⟩
      repeat first | refine qN ?_ | refine qM rfl ?_ | refine qA rfl ?_ | refine qS rfl ?_ | refine qL H b1 rfl ?_ | refine qT rfl ?_ | refine qF rfl ?_ | refine qI i (by omega) rfl ?_ | refine qI io (by omega) rfl ?_ | refine qP rfl ?_ | refine wQ ?_ | refine wR ?_ | refine wD ?_ | refine wN rfl ?_ | refine wS ?_
      refine WpB.block ?_
      refine WpB.loopC n (fun i => [(3, .int .i64 (i : Int)), (1, .pointer (some ⟨N + h0.sz, 0, none⟩))]) (fun i h => Hp N lim rd h ∧ h.blk h0.sz = some (.cells [.int .i64 op, .string tb, .string nm, .int .i64 ix, .int .i64 vk, .int .i64 vi, .string vt, .slice a n cap]) ∧ h0.sz < h.sz ∧ ∀ j, j < i → (kid j).pairs)
        ⟨H, b1, l1, fun j hj => absurd hj (Nat.not_lt_zero _)⟩ (by repeat first | exact sub_nil | refine sub_cons rfl ?_) ?_
      rintro i h hi ⟨H, b1, l1, hj⟩
      refine WpB.seq (WpB.seq (WpB.region ?_))
      repeat first | refine qN ?_ | refine qM rfl ?_ | refine qA rfl ?_ | refine qS rfl ?_ | refine qL H b1 rfl ?_ | refine qT rfl ?_ | refine qF rfl ?_ | refine qI i (by omega) rfl ?_ | refine qI io (by omega) rfl ?_ | refine qP rfl ?_ | refine wQ ?_ | refine wR ?_ | refine wD ?_ | refine wN rfl ?_ | refine wS ?_
      refine WpB.cond rfl (fun ht => ?_) fun ht => ?_
      · have hlt : i < n := by simpa using ht
        obtain ⟨b, off, rfl, hc⟩ := hx i hlt
        refine WpB.skip ?_
        refine WpB.seq (WpB.block ?_)
        repeat first | refine qN ?_ | refine qM rfl ?_ | refine qA rfl ?_ | refine qS rfl ?_ | refine qL H b1 rfl ?_ | refine qT rfl ?_ | refine qF rfl ?_ | refine qI i (by omega) rfl ?_ | refine qI io (by omega) rfl ?_ | refine qP rfl ?_ | refine wQ ?_ | refine wR ?_ | refine wD ?_ | refine wN rfl ?_ | refine wS ?_
        refine SpB.indexN hlt rfl rfl rfl rfl rfl rfl rfl rfl rfl ?_
        refine SpB.loadR H hc rfl rfl rfl rfl rfl rfl rfl ?_
        refine SpB.callK Tryz.T1OK H (by omega) (pairs_ok (kid i) h H (hk i hlt)) rfl rfl rfl rfl rfl ?_
        rintro v h ⟨r, rfl, hr⟩ g
        have H := g.hp H
        have b1 := g.keep l1 b1
        have l1 := g.lt l1
        repeat first | refine qN ?_ | refine qM rfl ?_ | refine qA rfl ?_ | refine qS rfl ?_ | refine qL H b1 rfl ?_ | refine qT rfl ?_ | refine qF rfl ?_ | refine qI i (by omega) rfl ?_ | refine qI io (by omega) rfl ?_ | refine qP rfl ?_ | refine wQ ?_ | refine wR ?_ | refine wD ?_ | refine wN rfl ?_ | refine wS ?_
        refine WpB.cond rfl (fun ht2 => ?_) fun ht2 => ?_
        · repeat first | refine qN ?_ | refine qM rfl ?_ | refine qA rfl ?_ | refine qS rfl ?_ | refine qL H b1 rfl ?_ | refine qT rfl ?_ | refine qF rfl ?_ | refine qI i (by omega) rfl ?_ | refine qI io (by omega) rfl ?_ | refine qP rfl ?_ | refine wQ ?_ | refine wR ?_ | refine wD ?_ | refine wN rfl ?_ | refine wS ?_
          exact WpB.ret ⟨_, rfl, ⟨false, rfl, fun h => by cases h⟩, Nat.le_refl _⟩
        · repeat first | refine qN ?_ | refine qM rfl ?_ | refine qA rfl ?_ | refine qS rfl ?_ | refine qL H b1 rfl ?_ | refine qT rfl ?_ | refine qF rfl ?_ | refine qI i (by omega) rfl ?_ | refine qI io (by omega) rfl ?_ | refine qP rfl ?_ | refine wQ ?_ | refine wR ?_ | refine wD ?_ | refine wN rfl ?_ | refine wS ?_
          refine ⟨hlt, (by repeat first | exact sub_nil | refine sub_cons rfl ?_), ⟨H, b1, l1, fun j hj1 => ?_⟩, rfl⟩
          by_cases e : j = i
          · subst e; exact hr (by simpa using ht2)
          · exact hj j (by omega)
      · refine WpB.exit ?_
        repeat first | refine qN ?_ | refine qM rfl ?_ | refine qA rfl ?_ | refine qS rfl ?_ | refine qL H b1 rfl ?_ | refine qT rfl ?_ | refine qF rfl ?_ | refine qI i (by omega) rfl ?_ | refine qI io (by omega) rfl ?_ | refine qP rfl ?_ | refine wQ ?_ | refine wR ?_ | refine wD ?_ | refine wN rfl ?_ | refine wS ?_
        refine WpB.ret ⟨_, rfl, ⟨true, rfl, fun _ => ⟨hand, fun j hj1 => hj j ?_⟩⟩, Nat.le_refl _⟩
        have : ¬ i < n := by simpa using ht
        omega
end Go.Proofs.YtkjkcoemloakhaaGreat
end

section
set_option linter.unusedVariables false
set_option linter.unusedSimpArgs false
namespace Go.Vae
open Go Go.RowKit

variable {T : Tabs}

/-- A slice: its value, its length, its elements. -/
structure Sl (α : Type) where
  v : Value
  n : Nat
  x : Nat → α

instance {α : Type} [Inhabited α] : Inhabited (Sl α) := ⟨⟨.slice none 0 0, 0, fun _ => default⟩⟩

def Sl.At {α : Type} (rd : RO) (size : Nat) (cells : α → List Value) (ok : α → Prop) (s : Sl α) : Prop :=
  s.n ≤ reachBytes ∧ SAt rd size cells s.v s.n s.x ∧ ∀ i, i < s.n → ok (s.x i)

/-- What holds for less memory holds for more. -/
def RO.le (r r' : RO) : Prop := ∀ b off m cs, r b off m = some cs → r' b off m = some cs

theorem SAt.mono {α : Type} {r r' : RO} (h : r.le r') {size : Nat} {cells : α → List Value} {v : Value} {n : Nat} {x : Nat → α} (hs : SAt r size cells v n x) : SAt r' size cells v n x := by
  obtain ⟨a, cap, h1, h2, h3, h4⟩ := hs
  exact ⟨a, cap, h1, h2, h3, fun i hi => by
    obtain ⟨b, off, h5, h6⟩ := h4 i hi
    exact ⟨b, off, h5, h _ _ _ _ h6⟩⟩

theorem Sl.At.mono {α : Type} {r r' : RO} (h : r.le r') {size : Nat} {cells : α → List Value} {ok ok' : α → Prop} (ho : ∀ x, ok x → ok' x) {s : Sl α} (hs : s.At r size cells ok) : s.At r' size cells ok' :=
  ⟨hs.1, hs.2.1.mono h, fun i hi => ho _ (hs.2.2 i hi)⟩

theorem E.At.mono {r r' : RO} (h : r.le r') : ∀ {e : E}, e.At r → e.At r'
  | .nil, he => he
  | .mk op tb nm ix vk vi vt sl n kid, ⟨h1, h2, h3, h4, h5⟩ => ⟨h1, h2, h3, h4.mono h, fun i hi => E.At.mono h (h5 i hi)⟩

def strC (s : ByteArray) : List Value := [.string s]
def strOK (s : ByteArray) : Prop := txt s ≤ reachBytes
def slC {α : Type} (s : Sl α) : List Value := [s.v]

abbrev Ints' := Sl Int
abbrev Strs := Sl ByteArray

def Sl.ints (rd : RO) (s : Sl Int) : Prop := s.At rd 1 intC w64
def Sl.strs (rd : RO) (s : Sl ByteArray) : Prop := s.At rd 1 strC strOK

structure Col where
  nm : ByteArray
  ty : Int
  lo : Int
  hi : Int
  mx : Int
  nn : Bool
instance : Inhabited Col := ⟨⟨.empty, 0, 0, 0, 0, false⟩⟩
def Col.cells (c : Col) : List Value := [.string c.nm, .int .i64 c.ty, .int .i64 c.lo, .int .i64 c.hi, .int .i64 c.mx, .bool c.nn]
def Col.ok (c : Col) : Prop := strOK c.nm ∧ w64 c.ty ∧ w64 c.lo ∧ w64 c.hi ∧ w64 c.mx

structure Fo where
  cols : Sl Int
  tb : Int
  ky : Int
instance : Inhabited Fo := ⟨⟨default, 0, 0⟩⟩
def Fo.cells (f : Fo) : List Value := [f.cols.v, .int .i64 f.tb, .int .i64 f.ky]
def Fo.At (rd : RO) (f : Fo) : Prop := f.cols.ints rd ∧ w64 f.tb ∧ w64 f.ky

structure Tb where
  nm : ByteArray
  cols : Sl Col
  keys : Sl (Sl Int)
  fors : Sl Fo
  chk : Sl E
instance : Inhabited Tb := ⟨⟨.empty, default, default, default, default⟩⟩
def Tb.cells (t : Tb) : List Value := [.string t.nm, t.cols.v, t.keys.v, t.fors.v, t.chk.v]
structure Tb.At (rd : RO) (t : Tb) : Prop where
  nm : strOK t.nm
  cols : t.cols.At rd 6 Col.cells Col.ok
  keys : t.keys.At rd 1 slC (Sl.ints rd)
  fors : t.fors.At rd 3 Fo.cells (Fo.At rd)
  chk : t.chk.At rd 8 E.cells (E.At rd)

abbrev Sch := Sl Tb
def Sl.sch (rd : RO) (s : Sl Tb) : Prop := s.At rd 5 Tb.cells (Tb.At rd)

structure Cs where
  s : Sl Tb
  frm : Sl Int
  als : Sl ByteArray
  wh : E
def Cs.cells (c : Cs) : List Value := [c.s.v, c.frm.v, c.als.v] ++ c.wh.cells
structure Cs.At (rd : RO) (c : Cs) : Prop where
  s : c.s.sch rd
  frm : c.frm.ints rd
  als : c.als.strs rd
  wh : c.wh.At rd

/-! ### from a reading -/
theorem ints_rd {rd : RO} {t i : TypeId} {ti ii : TI} (ht : T.ty t = some ti) (hk : ti.k = .slice i) (hi : T.ty i = some ii) (hik : ii.k = .int .i64) (his : ii.size = 1) (hib : 1 ≤ ii.bytes) {k : Nat} {cs : List Value} (h : Rd T rd k t cs) : ∃ s : Sl Int, slC s = cs ∧ s.ints rd := by
  obtain ⟨k, rfl⟩ := h.pos
  obtain ⟨sl, n, x, rfl, h1, h2, h3⟩ := Rd.slice intC w64 ht hk hi hib h (fun cs' hr => by
    obtain ⟨n, rfl, hn⟩ := hr.int hi hik
    exact ⟨n, rfl, hn⟩)
  rw [his] at h2
  exact ⟨⟨sl, n, x⟩, rfl, h1, h2, h3⟩

theorem strs_rd {rd : RO} {t i : TypeId} {ti ii : TI} (ht : T.ty t = some ti) (hk : ti.k = .slice i) (hi : T.ty i = some ii) (hik : ii.k = .string) (his : ii.size = 1) (hib : 1 ≤ ii.bytes) {k : Nat} {cs : List Value} (h : Rd T rd k t cs) : ∃ s : Sl ByteArray, slC s = cs ∧ s.strs rd := by
  obtain ⟨k, rfl⟩ := h.pos
  obtain ⟨sl, n, x, rfl, h1, h2, h3⟩ := Rd.slice strC strOK ht hk hi hib h (fun cs' hr => by
    obtain ⟨n, rfl, hn⟩ := hr.str hi hik
    exact ⟨n, rfl, hn⟩)
  rw [his] at h2
  exact ⟨⟨sl, n, x⟩, rfl, h1, h2, h3⟩

/-- The types of a case and its parts. -/
structure CaseT (T : Tabs) (c s tb is ss i q b str cl cs ks fs fo : TypeId) (e v es : TypeId) : Prop where
  ex : ExprT T e v i q str es
  hc : ∃ ti, T.ty c = some ti ∧ ti.k = .struct [(s, 0), (is, 1), (ss, 2), (e, 3)] ∧ ti.size = 11
  hs : ∃ ti, T.ty s = some ti ∧ ti.k = .slice tb ∧ ti.size = 1
  his : ∃ ti, T.ty is = some ti ∧ ti.k = .slice i ∧ ti.size = 1
  hss : ∃ ti, T.ty ss = some ti ∧ ti.k = .slice str ∧ ti.size = 1
  htb : ∃ ti, T.ty tb = some ti ∧ ti.k = .struct [(str, 0), (cs, 1), (ks, 2), (fs, 3), (es, 4)] ∧ ti.size = 5 ∧ 1 ≤ ti.bytes
  hcs : ∃ ti, T.ty cs = some ti ∧ ti.k = .slice cl ∧ ti.size = 1
  hcl : ∃ ti, T.ty cl = some ti ∧ ti.k = .struct [(str, 0), (i, 1), (q, 2), (q, 3), (i, 4), (b, 5)] ∧ ti.size = 6 ∧ 1 ≤ ti.bytes
  hks : ∃ ti, T.ty ks = some ti ∧ ti.k = .slice is ∧ ti.size = 1
  hfs : ∃ ti, T.ty fs = some ti ∧ ti.k = .slice fo ∧ ti.size = 1
  hfo : ∃ ti, T.ty fo = some ti ∧ ti.k = .struct [(is, 0), (i, 1), (i, 2)] ∧ ti.size = 3 ∧ 1 ≤ ti.bytes
  hb : ∃ ti, T.ty b = some ti ∧ ti.k = .bool ∧ ti.size = 1
  ib : ∃ ti, T.ty i = some ti ∧ 1 ≤ ti.bytes
  sb : ∃ ti, T.ty str = some ti ∧ 1 ≤ ti.bytes
  isb : ∃ ti, T.ty is = some ti ∧ 1 ≤ ti.bytes

theorem list3 {α : Type} {l : List α} {a0 a1 a2 : α} (h : l.length = 3) (h0 : l[0]? = some a0) (h1 : l[1]? = some a1) (h2 : l[2]? = some a2) : l = [a0, a1, a2] := by
  match l, h with
  | [b0, b1, b2], _ => simp at h0 h1 h2; simp [h0, h1, h2]

theorem list5 {α : Type} {l : List α} {a0 a1 a2 a3 a4 : α} (h : l.length = 5) (h0 : l[0]? = some a0) (h1 : l[1]? = some a1) (h2 : l[2]? = some a2) (h3 : l[3]? = some a3) (h4 : l[4]? = some a4) : l = [a0, a1, a2, a3, a4] := by
  match l, h with
  | [b0, b1, b2, b3, b4], _ => simp at h0 h1 h2 h3 h4; simp [h0, h1, h2, h3, h4]

theorem list6 {α : Type} {l : List α} {a0 a1 a2 a3 a4 a5 : α} (h : l.length = 6) (h0 : l[0]? = some a0) (h1 : l[1]? = some a1) (h2 : l[2]? = some a2) (h3 : l[3]? = some a3) (h4 : l[4]? = some a4) (h5 : l[5]? = some a5) : l = [a0, a1, a2, a3, a4, a5] := by
  match l, h with
  | [b0, b1, b2, b3, b4, b5], _ => simp at h0 h1 h2 h3 h4 h5; simp [h0, h1, h2, h3, h4, h5]

theorem list11 {α : Type} {l : List α} {a0 a1 a2 : α} {r : List α} (h : l.length = 11) (h0 : l[0]? = some a0) (h1 : l[1]? = some a1) (h2 : l[2]? = some a2) (h3 : (l.drop 3).take 8 = r) : l = [a0, a1, a2] ++ r := by
  match l, h with
  | [b0, b1, b2, c0, c1, c2, c3, c4, c5, c6, c7], _ => simp at h0 h1 h2 h3; subst h3; simp [h0, h1, h2]

/-- One cell that is a slice of slices of numbers. -/
theorem fieldInts {rd : RO} {k : Nat} {cs : List Value} {fs : List (TypeId × Nat)} {t o i : Nat} {ii : TI} (h : ∀ f ∈ fs, ∃ fi, T.ty f.1 = some fi ∧ Rd T rd k f.1 ((cs.drop f.2).take fi.size)) (hm : (t, o) ∈ fs)
    (ht : ∃ ti, T.ty t = some ti ∧ ti.k = .slice i ∧ ti.size = 1) (hi : T.ty i = some ii) (hik : ii.k = .int .i64) (his : ii.size = 1) (hib : 1 ≤ ii.bytes) : ∃ s : Sl Int, cs[o]? = some s.v ∧ s.ints rd := by
  obtain ⟨sl, n, x, h1, h2, h3, h4⟩ := fieldSlice intC w64 h hm ht hi hib (fun k' _ cs' hr => by
    obtain ⟨n, rfl, hn⟩ := hr.int hi hik
    exact ⟨n, rfl, hn⟩)
  rw [his] at h3
  exact ⟨⟨sl, n, x⟩, h1, h2, h3, h4⟩

section
variable {c s tb is ss i q b str cl cs' ks fs fo e v es : TypeId}

theorem Col.of_rd (hT : CaseT T c s tb is ss i q b str cl cs' ks fs fo e v es) {rd : RO} {k : Nat} {cs : List Value} (h : Rd T rd k cl cs) : ∃ x : Col, x.cells = cs ∧ x.ok := by
  obtain ⟨ti, h1, h2, h3, _⟩ := hT.hcl
  obtain ⟨k', rfl, hlen, hf⟩ := h.struct h1 h2
  rw [h3] at hlen
  obtain ⟨nm, c0, w0⟩ := fieldStr hf (by simp) hT.ex.hs (o := 0)
  obtain ⟨ty, c1, w1⟩ := fieldInt hf (by simp) hT.ex.hi (o := 1)
  obtain ⟨lo, c2, w2⟩ := fieldInt hf (by simp) hT.ex.hq (o := 2)
  obtain ⟨hi, c3, w3⟩ := fieldInt hf (by simp) hT.ex.hq (o := 3)
  obtain ⟨mx, c4, w4⟩ := fieldInt hf (by simp) hT.ex.hi (o := 4)
  obtain ⟨nn, c5⟩ := fieldBool hf (by simp) hT.hb (o := 5)
  exact ⟨⟨nm, ty, lo, hi, mx, nn⟩, (list6 hlen c0 c1 c2 c3 c4 c5).symm, w0, w1, w2, w3, w4⟩

theorem Fo.of_rd (hT : CaseT T c s tb is ss i q b str cl cs' ks fs fo e v es) {rd : RO} {k : Nat} {cs : List Value} (h : Rd T rd k fo cs) : ∃ x : Fo, x.cells = cs ∧ x.At rd := by
  obtain ⟨ti, h1, h2, h3, _⟩ := hT.hfo
  obtain ⟨ii, hi1, hi2⟩ := hT.ib
  obtain ⟨ii', hj1, hj2, hj3⟩ := hT.ex.hi
  rw [hi1] at hj1
  injection hj1 with hj1
  subst hj1
  obtain ⟨k', rfl, hlen, hf⟩ := h.struct h1 h2
  rw [h3] at hlen
  obtain ⟨cl, c0, w0⟩ := fieldInts hf (by simp) hT.his (o := 0) hi1 hj2 hj3 hi2
  obtain ⟨tb, c1, w1⟩ := fieldInt hf (by simp) hT.ex.hi (o := 1)
  obtain ⟨ky, c2, w2⟩ := fieldInt hf (by simp) hT.ex.hi (o := 2)
  exact ⟨⟨cl, tb, ky⟩, (list3 hlen c0 c1 c2).symm, w0, w1, w2⟩

theorem Tb.of_rd (hT : CaseT T c s tb is ss i q b str cl cs' ks fs fo e v es) {rd : RO} {k : Nat} {cs : List Value} (h : Rd T rd k tb cs) : ∃ x : Tb, x.cells = cs ∧ x.At rd := by
  obtain ⟨ti, h1, h2, h3, _⟩ := hT.htb
  obtain ⟨ii, hi1, hi2⟩ := hT.ib
  obtain ⟨ii', hj1, hj2, hj3⟩ := hT.ex.hi
  rw [hi1] at hj1
  injection hj1 with hj1
  subst hj1
  obtain ⟨isi, hs1, hs2, hs3⟩ := hT.his
  obtain ⟨isi', ht1, ht2⟩ := hT.isb
  rw [hs1] at ht1
  injection ht1 with ht1
  subst ht1
  obtain ⟨cli, hc1, hc2, hc3, hc4⟩ := hT.hcl
  obtain ⟨foi, hf1, hf2, hf3, hf4⟩ := hT.hfo
  obtain ⟨ei, he1, he2, he3, he4⟩ := hT.ex.he
  obtain ⟨k', rfl, hlen, hf⟩ := h.struct h1 h2
  rw [h3] at hlen
  obtain ⟨nm, c0, w0⟩ := fieldStr hf (by simp) hT.ex.hs (o := 0)
  obtain ⟨s1, n1, x1, c1, m1, a1, o1⟩ := fieldSlice Col.cells Col.ok hf (by simp) hT.hcs hc1 hc4 (o := 1) (fun k' _ cs' hr => Col.of_rd hT hr)
  obtain ⟨s2, n2, x2, c2, m2, a2, o2⟩ := fieldSlice slC (Sl.ints rd) hf (by simp) hT.hks hs1 ht2 (o := 2) (fun k' _ cs' hr => ints_rd hs1 hs2 hi1 hj2 hj3 hi2 hr)
  obtain ⟨s3, n3, x3, c3, m3, a3, o3⟩ := fieldSlice Fo.cells (Fo.At rd) hf (by simp) hT.hfs hf1 hf4 (o := 3) (fun k' _ cs' hr => Fo.of_rd hT hr)
  obtain ⟨s4, n4, x4, c4, m4, a4, o4⟩ := fieldSlice E.cells (fun x => x.At rd) hf (by simp) hT.ex.hl he1 he4 (o := 4) (fun k' _ cs' hr => E.of_rd hT.ex k' cs' hr)
  rw [hc3] at a1
  rw [hs3] at a2
  rw [hf3] at a3
  rw [he3] at a4
  exact ⟨⟨nm, ⟨s1, n1, x1⟩, ⟨s2, n2, x2⟩, ⟨s3, n3, x3⟩, ⟨s4, n4, x4⟩⟩, (list5 hlen c0 c1 c2 c3 c4).symm, ⟨w0, ⟨m1, a1, o1⟩, ⟨m2, a2, o2⟩, ⟨m3, a3, o3⟩, ⟨m4, a4, o4⟩⟩⟩

theorem Cs.of_rd (hT : CaseT T c s tb is ss i q b str cl cs' ks fs fo e v es) {rd : RO} {k : Nat} {cs : List Value} (h : Rd T rd k c cs) : ∃ x : Cs, x.cells = cs ∧ x.At rd := by
  obtain ⟨ti, h1, h2, h3⟩ := hT.hc
  obtain ⟨ii, hi1, hi2⟩ := hT.ib
  obtain ⟨ii', hj1, hj2, hj3⟩ := hT.ex.hi
  rw [hi1] at hj1
  injection hj1 with hj1
  subst hj1
  obtain ⟨si, hs1, hs2⟩ := hT.sb
  obtain ⟨si', hu1, hu2, hu3⟩ := hT.ex.hs
  rw [hs1] at hu1
  injection hu1 with hu1
  subst hu1
  obtain ⟨tbi, ht1, ht2, ht3, ht4⟩ := hT.htb
  obtain ⟨ei, he1, he2, he3, he4⟩ := hT.ex.he
  obtain ⟨k', rfl, hlen, hf⟩ := h.struct h1 h2
  rw [h3] at hlen
  obtain ⟨s0, n0, x0, c0, m0, a0, o0⟩ := fieldSlice Tb.cells (Tb.At rd) hf (by simp) hT.hs ht1 ht4 (o := 0) (fun k' _ cs' hr => Tb.of_rd hT hr)
  obtain ⟨fr, c1, w1⟩ := fieldInts hf (by simp) hT.his (o := 1) hi1 hj2 hj3 hi2
  obtain ⟨s2, n2, x2, c2, m2, a2, o2⟩ := fieldSlice strC strOK hf (by simp) hT.hss hs1 hs2 (o := 2) (fun k' _ cs' hr => by
    obtain ⟨n, rfl, hn⟩ := hr.str hs1 hu2
    exact ⟨n, rfl, hn⟩)
  have hwh := fieldRd hf (by simp) he1 (o := 3)
  rw [he3] at hwh
  obtain ⟨wh, c3, o3⟩ := E.of_rd hT.ex _ _ hwh
  rw [ht3] at a0
  rw [hu3] at a2
  exact ⟨⟨⟨s0, n0, x0⟩, fr, ⟨s2, n2, x2⟩, wh⟩, (list11 hlen c0 c1 c2 c3.symm).symm, ⟨⟨m0, a0, o0⟩, w1, ⟨m2, a2, o2⟩, o3⟩⟩
end

end Go.Vae
end

section
set_option linter.unusedVariables false
set_option linter.unusedSimpArgs false
namespace Go.Vae
open Go

/-- At most two operands, short texts, nested at most so deep. -/
def E.small : E → Nat → Prop
  | .nil, _ => False
  | .mk .., 0 => False
  | .mk _ tb nm _ _ _ vt _ n kid, d + 1 => n ≤ 2 ∧ txt nm + txt tb + txt vt ≤ 100 ∧ ∀ i, i < n → (kid i).small d

/-- .. and AND has two. -/
def E.bin : E → Nat → Prop
  | .nil, _ => False
  | .mk .., 0 => False
  | .mk op tb nm _ _ _ vt _ n kid, d + 1 => n ≤ 2 ∧ txt nm + txt tb + txt vt ≤ 100 ∧ (op = 18 → n = 2) ∧ ∀ i, i < n → (kid i).bin d

theorem E.bin_size : ∀ (e : E) (d : Nat), e.bin d → e.size + 1 ≤ 2 ^ d
  | .nil, _, h => h.elim
  | .mk .., 0, h => h.elim
  | .mk _ _ _ _ _ _ _ _ n kid, d + 1, ⟨h1, _, _, h4⟩ => by
    have hk : ∀ i, i < n → (kid i).size ≤ 2 ^ d - 1 := fun i hi => by have := E.bin_size (kid i) d (h4 i hi); omega
    have := sumTo_le (f := fun i => (kid i).size) (c := 2 ^ d - 1) (n := n) hk
    have h2 : n * (2 ^ d - 1) ≤ 2 * (2 ^ d - 1) := Nat.mul_le_mul_right _ h1
    have h3 : 1 ≤ 2 ^ d := Nat.one_le_two_pow
    simp only [E.size]
    rw [Nat.pow_succ]
    omega

theorem E.bin_pairs : ∀ (e : E) (d : Nat), e.bin d → e.pairs
  | .nil, _, h => h.elim
  | .mk .., 0, h => h.elim
  | .mk _ _ _ _ _ _ _ _ n kid, d + 1, ⟨_, _, h3, h4⟩ => ⟨h3, fun i hi => E.bin_pairs (kid i) d (h4 i hi)⟩

/-! ### the order of a region -/
def orderStatic : Nat → List Bool → List Nat → Bool
  | _, [], _ => true
  | i, w :: ws, _ :: ms => later w i ws ms && orderStatic (i + 1) ws ms
  | _, _ :: _, [] => false
where later (w : Bool) (i : Nat) : List Bool → List Nat → Bool
  | v :: vs, m :: ms => (!(w || v) || Nat.testBit m i) && later w i vs ms
  | [], _ => true
  | _ :: _, [] => false

def quiets : List Bool → List Acc → Prop
  | [], [] => True
  | w :: ws, a :: rs => (w = true ∨ (w = false ∧ a.wr = [] ∧ a.call ≠ some true)) ∧ quiets ws rs
  | _, _ => False

theorem quiet_clash2 {a b : Acc} (h1 : a.wr = []) (h2 : a.call ≠ some true) (h3 : b.wr = []) (h4 : b.call ≠ some true) : a.clash b = false := by
  have one : ∀ {a b : Acc}, a.wr = [] → a.call ≠ some true → b.wr = [] → a.clash1 b = false := fun {a b} h1 h2 h3 => by
    unfold Acc.clash1
    rw [h1, h3]
    cases hc : a.call with
    | none => simp [lmeet, lwithin]
    | some c => cases c with
      | true => exact absurd hc h2
      | false => simp [lmeet, lwithin]
  simp [Acc.clash, one h1 h2 h3, one h3 h4 h1]

theorem orderOK_of {ws : List Bool} {acs : List Acc} {ms : List Nat} (hq : quiets ws acs) (hs : orderStatic 0 ws ms = true) : orderOK acs ms = true := by
  have later : ∀ (w : Bool) (i : Nat) (a : Acc) (ws : List Bool) (rs : List Acc) (ms : List Nat), (w = true ∨ (w = false ∧ a.wr = [] ∧ a.call ≠ some true)) → quiets ws rs → orderStatic.later w i ws ms = true → pairs1 Acc.clash a i rs ms = true := by
    intro w i a ws
    induction ws with
    | nil => intro rs ms _ hq _; cases rs with
      | nil => rfl
      | cons b bs => exact hq.elim
    | cons v vs ih =>
      intro rs ms ha hq hs
      cases rs with
      | nil => exact hq.elim
      | cons b bs =>
        cases ms with
        | nil => cases hs
        | cons m ms =>
          simp only [orderStatic.later, Bool.and_eq_true, Bool.or_eq_true, Bool.not_eq_true'] at hs
          simp only [pairs1, Bool.and_eq_true, Bool.or_eq_true, Bool.not_eq_true']
          refine ⟨?_, ih bs ms ha hq.2 hs.2⟩
          rcases hs.1 with h | h
          · simp only [Bool.or_eq_false_iff] at h
            rcases ha with ha | ⟨_, ha⟩
            · rw [h.1] at ha; cases ha
            · rcases hq.1 with hb | ⟨_, hb⟩
              · rw [h.2] at hb; cases hb
              · exact .inl (quiet_clash2 ha.1 ha.2 hb.1 hb.2)
          · exact .inr h
  have all : ∀ (ws : List Bool) (i : Nat) (rs : List Acc) (ms : List Nat), quiets ws rs → orderStatic i ws ms = true → pairsOK Acc.clash i rs ms = true := by
    intro ws
    induction ws with
    | nil => intro i rs ms hq _; cases rs with
      | nil => rfl
      | cons b bs => exact hq.elim
    | cons w ws ih =>
      intro i rs ms hq hs
      cases rs with
      | nil => exact hq.elim
      | cons a rs =>
        cases ms with
        | nil => cases hs
        | cons m ms =>
          simp only [orderStatic, Bool.and_eq_true] at hs
          simp only [pairsOK, Bool.and_eq_true]
          exact ⟨later w i a ws rs ms hq.1 hq.2 hs.1, ih (i + 1) rs ms hq.2 hs.2⟩
  exact all ws 0 acs ms hq hs

/-! ### conjuncts, equality -/
theorem range_all {f : Nat → Bool} : ∀ {n : Nat}, (List.range n).all f = true ↔ ∀ i, i < n → f i = true := by
  intro n
  simp [List.all_eq_true]

def E.same : E → E → Bool
  | .mk op tb nm ix vk vi vt _ n kid, .mk op' tb' nm' ix' vk' vi' vt' _ n' kid' =>
    (op == op') && (leq tb.data.toList tb'.data.toList && (leq nm.data.toList nm'.data.toList && ((ix == ix') && (((vk == vk') && ((vi == vi') && (leq vt.data.toList vt'.data.toList && true))) && ((n == n') && (List.range n).all fun i => (kid i).same (kid' i))))))
  | _, _ => false

theorem leq_refl : ∀ l : List UInt8, leq l l = true
  | [] => rfl
  | x :: xs => by simp [leq, leq_refl xs]

theorem E.same_refl {rd : RO} : ∀ {e : E}, e.At rd → e.same e = true
  | .nil, h => h.elim
  | .mk op tb nm ix vk vi vt sl n kid, h => by
    simp only [E.same, leq_refl, beq_self_eq_true, Bool.and_self, Bool.true_and, Bool.and_true]
    exact range_all.2 fun i hi => E.same_refl (h.2.2.2.2 i hi)

/-- The operands of nested ANDs. -/
def E.conj : E → List E
  | .nil => []
  | .mk op tb nm ix vk vi vt sl n kid => if op = 0 then [] else if op = 18 then catTo (fun i => (kid i).conj) n else [.mk op tb nm ix vk vi vt sl n kid]

theorem E.conj_le : ∀ (e : E), e.conj.length ≤ e.size
  | .nil => Nat.le_refl _
  | .mk op tb nm ix vk vi vt sl n kid => by
    simp only [E.conj, E.size]
    split
    · simp
    · split
      · rw [catTo_length]
        have : ∀ m, sumTo (fun i => (kid i).conj.length) m ≤ sumTo (fun i => (kid i).size) m := fun m => by
          induction m with
          | zero => exact Nat.le_refl _
          | succ m ih =>
            have := E.conj_le (kid m)
            simp only [sumTo]
            omega
        have := this n
        omega
      · simp

theorem catTo_mem {α : Type} {f : Nat → List α} {x : α} : ∀ {n : Nat}, x ∈ catTo f n → ∃ i, i < n ∧ x ∈ f i
  | 0, h => by simp [catTo] at h
  | n + 1, h => by
    simp only [catTo, List.mem_append] at h
    rcases h with h | h
    · obtain ⟨i, hi, h⟩ := catTo_mem h
      exact ⟨i, by omega, h⟩
    · exact ⟨n, by omega, h⟩

theorem E.conj_at {rd : RO} : ∀ {e : E}, e.At rd → ∀ x ∈ e.conj, x.At rd
  | .nil, h => h.elim
  | .mk op tb nm ix vk vi vt sl n kid, h => by
    intro x hx
    have h0 := h
    obtain ⟨_, _, _, _, h5⟩ := h
    simp only [E.conj] at hx
    split at hx
    · simp at hx
    · split at hx
      · obtain ⟨i, hi, hx⟩ := catTo_mem hx
        exact E.conj_at (h5 i hi) x hx
      · simp only [List.mem_singleton] at hx
        subst hx
        exact h0

theorem E.cells_len {rd : RO} {e : E} (h : e.At rd) : e.cells.length = 8 := by
  cases e with
  | nil => exact h.elim
  | mk => rfl

theorem lcut_app {α : Type} : ∀ (a b c : List α), lcut (a ++ b ++ c) a.length b.length = some b
  | [], b, c => by
    simp only [List.nil_append, List.length_nil]
    induction b with
    | nil => cases c <;> rfl
    | cons x b ih => simp only [List.cons_append, List.length_cons, lcut, ih]; rfl
  | x :: a, b, c => by
    have := lcut_app a b c
    simpa only [List.cons_append, List.length_cons, lcut] using this

theorem lcut_flat {α : Type} {cells : α → List Value} {size : Nat} : ∀ {xs : List α}, (∀ x ∈ xs, (cells x).length = size) → ∀ {i : Nat} (h : i < xs.length), lcut (xs.flatMap cells) (i * size) size = some (cells xs[i]) := by
  intro xs hs i h
  have e : xs = xs.take i ++ xs[i] :: xs.drop (i + 1) := by
    rw [List.getElem_cons_drop, List.take_append_drop]
  have hl : ∀ l : List α, (∀ x ∈ l, (cells x).length = size) → (l.flatMap cells).length = l.length * size := fun l => by
    induction l with
    | nil => intro _; simp
    | cons y l ih =>
      intro hl
      rw [List.flatMap_cons, List.length_append, ih fun x hx => hl x (List.mem_cons_of_mem _ hx), hl y (List.mem_cons_self ..), List.length_cons, Nat.succ_mul]
      omega
  have h1 : ((xs.take i).flatMap cells).length = i * size := by
    rw [hl _ fun x hx => hs x (List.mem_of_mem_take hx), List.length_take, Nat.min_eq_left (Nat.le_of_lt h)]
  have h2 := lcut_app ((xs.take i).flatMap cells) (cells xs[i]) ((xs.drop (i + 1)).flatMap cells)
  rw [h1, hs _ (List.getElem_mem h)] at h2
  conv => lhs; rw [e]
  rw [List.flatMap_append, List.flatMap_cons, ← List.append_assoc]
  exact h2

theorem Own.len {h : AH} {lo size n : Nat} {v : Value} {cs : List Value} (o : Own h lo size v n cs) : cs.length = n * size := by
  rcases o with ⟨_, rfl, rfl⟩ | ⟨k, cap, _, _, _, _, h5, _⟩
  · simp
  · exact h5

def E.zero : E := .mk 0 ⟨#[]⟩ ⟨#[]⟩ 0 0 0 ⟨#[]⟩ (.slice none 0 0) 0 (fun _ => .nil)

theorem E.zero_at (rd : RO) : E.zero.At rd := by
  have h0 : (0 : Nat) ≤ reachBytes := Nat.zero_le _
  have hw : w64 0 := ⟨by decide, by decide⟩
  exact ⟨⟨hw, hw, hw, hw⟩, ⟨h0, h0, h0⟩, h0, ⟨none, 0, rfl, Nat.le_refl _, .inl (by decide), fun i hi => absurd hi (Nat.not_lt_zero _)⟩, fun i hi => absurd hi (Nat.not_lt_zero _)⟩

theorem quiets.nil : quiets [] [] := trivial
theorem quiets.q {a : Acc} {ws : List Bool} {rs : List Acc} (h1 : a.wr = []) (h2 : a.call ≠ some true) (h : quiets ws rs) : quiets (false :: ws) (a :: rs) := ⟨.inr ⟨rfl, h1, h2⟩, h⟩
theorem quiets.w {a : Acc} {ws : List Bool} {rs : List Acc} (h : quiets ws rs) : quiets (true :: ws) (a :: rs) := ⟨.inl rfl, h⟩

theorem draw_intro {ws : List Bool} {acs : List Acc} {ms : List Nat} {Q : Prop} (hq : quiets ws acs) (hs : orderStatic 0 ws ms = true) (h : Q) : (anyWrites acs = true → orderOK acs ms = true) ∧ Q := ⟨fun _ => orderOK_of hq hs, h⟩

/-- To a slice without room: nothing that was there is written. -/
theorem append_exact {T : Tabs} {h : AH} (hwf : h.wf) {lo size n m st xt e k : Nat} {x : Value} {cs news : List Value} {ti ei xi : TI} (hk1 : lo ≤ k) (hk2 : k < h.sz) (hkb : h.blk k = some (.cells cs)) (hkl : cs.length = n * size) (hn : n < unk) (hx : ∃ r, srcCells h size x m = some (news, r)) (hl : lenV x = some m) (hnl : news.length = m * size)
    (h1 : T.ty st = some ti) (h2 : ti.k = .slice e) (h3 : T.ty e = some ei) (h4 : ei.size = size) (h5 : 1 ≤ size) (h6 : 1 ≤ ei.bytes) (h7 : T.ty xt = some xi) (h8 : isInt xi.k = false) (h9 : isSeq xi.k = true) (hb : (n + m) * ei.bytes ≤ 70368744177664) (hlo : lo ≤ h.sz) :
    ∃ v ef rd, aappend T h st xt (.slice (some ⟨h.n + k, 0, none⟩) n n) x = some (.val v ef rd) ∧ Own (h.app ef) lo size v (n + m) (cs ++ news) ∧ Grow h h.sz (h.app ef) ∧ (∀ low, low ≤ lo → Nat.min low (ef.lowD low) = low) ∧ ef.wr = [] := by
  subst h4
  obtain ⟨r, hr⟩ := hx
  have hb2 : n + m ≤ 70368744177664 := Nat.le_trans (Nat.le_mul_of_pos_right _ h6) hb
  have start : ∀ base sCap, aappend T h st xt (.slice base n sCap) x = aappendTo h ei base n sCap m news r := fun base sCap => by
    simp only [aappend, h1, h7, h2, h3, Nat.ble_eq_true_of_le h5, Nat.ble_eq_true_of_le h6, Bool.and_self, cond, h8, h9, hl, hr]
  have bounds : (Nat.ble ((n + m) * ei.bytes) 70368744177664 && Nat.ble (n + m) 70368744177664) = true := by
    rw [Nat.ble_eq_true_of_le hb, Nat.ble_eq_true_of_le hb2]; rfl
  by_cases hm : m = 0
  · subst hm
    have hn0 : news = [] := List.eq_nil_of_length_eq_zero (by simpa using hnl)
    subst hn0
    refine ⟨_, .nil, r, (start _ n).trans (by simp [aappendTo, Nat.ble_eq_true_of_le (Nat.le_refl n)]; rfl), ?_, Grow.refl hwf _, fun low _ => Nat.min_self low, rfl⟩
    rw [List.append_nil]
    exact .inr ⟨k, n, hk1, hk2, rfl, hkb, hkl, .inr ⟨rfl, hn⟩⟩
  · have hm0 : Nat.beq m 0 = false := by
      cases hq : Nat.beq m 0
      · rfl
      · exact absurd (by simpa [Nat.beq_eq] using hq) hm
    have hc : Nat.ble (n + m) n = false := by
      cases hq : Nat.ble (n + m) n
      · rfl
      · have := Nat.le_of_ble_eq_true hq; omega
    have hc2 : Nat.ble unk n = false := by
      cases hq : Nat.ble unk n
      · rfl
      · have := Nat.le_of_ble_eq_true hq; omega
    have hcut := own_cut hkb
    rw [hkl] at hcut
    refine ⟨.slice (some ⟨h.n + h.sz, 0, none⟩) (n + m) (unk + ei.size), .new (cs ++ news), rdOf h (h.n + k) ++ r, (start _ _).trans (by simp only [aappendTo, hm0, cond, hc, hc2, srcCells, hcut, bounds]), ?_, (new_facts hwf _).1, fun low _ => Nat.min_self low, rfl⟩
    exact .inr ⟨h.sz, unk + ei.size, hlo, Nat.lt_succ_self _, rfl, Tr.get_set_eq _ _ _, by rw [List.length_append, hkl, hnl, Nat.add_mul], .inl rfl⟩

theorem SpB.appendX {T : Tabs} {nt : Nat} {ops l : List Oper} {o : Oper} {bs : Bs} {h : AH} {low : Nat} {Q : Bs → AH → Nat → List Acc → Prop} {N lim : Nat} {rd0 : RO} {lo size n m st xt e d k : Nat} {x : Value} {cs news : List Value} {ti ei xi : TI} (H : Hp N lim rd0 h) (hk1 : lo ≤ k) (hk2 : k < h.sz) (hkb : h.blk k = some (.cells cs)) (hkl : cs.length = n * size) (hn : n < unk)
    (hx : (∃ r, srcCells h size x m = some (news, r)) ∧ lenV x = some m) (hnl : news.length = m * size) (hlo : lo ≤ h.sz) (hlow : low ≤ lo) (hb : (n + m) * ei.bytes ≤ 70368744177664)
    (hw : wantedB ops bs o = some true) (hall : allB bs h o.op.operands.toList = true) (ha : aop T h (rho bs h) o = aappend T h st xt (.slice (some ⟨N + k, 0, none⟩) n n) x)
    (h1 : T.ty st = some ti) (h2 : ti.k = .slice e) (h3 : T.ty e = some ei) (h4 : ei.size = size) (h5 : Nat.ble 1 size = true) (h6 : Nat.ble 1 ei.bytes = true) (h7 : T.ty xt = some xi) (h8 : isInt xi.k = false) (h9 : isSeq xi.k = true) (hd : o.dst = some d) (hlt : Nat.blt d nt = true)
    (hk : ∀ v h' rd, Own h' lo size v (n + m) (cs ++ news) → Grow h h.sz h' → SpB T nt ops l ((d, v) :: bs) h' low fun b h'' l' acs => Q b h'' l' (⟨rd, [], h.sz, h'.sz, none⟩ :: acs)) : SpB T nt ops (o :: l) bs h low Q := by
  obtain ⟨v, ef, rd, g1, g2, g3, g4, g5⟩ := append_exact H.wf hk1 hk2 hkb hkl hn hx.1 hx.2 hnl h1 h2 h3 h4 (Nat.le_of_ble_eq_true h5) (Nat.le_of_ble_eq_true h6) h7 h8 h9 hb hlo
  rw [H.n] at g1
  refine SpB.eff hw hall (ha.trans g1) hd hlt ?_
  rw [g4 low hlow, g5]
  exact hk v _ _ g2 g3

theorem roCells_at {ro : Nat → Option Value} : ∀ {m off : Nat} {cs : List Value}, roCells ro off m = some cs → ∀ {j : Nat} {v : Value}, cs[j]? = some v → ro (off + j) = some v
  | 0, off, cs, h, j, v, hv => by
    simp only [roCells, Option.some.injEq] at h
    subst h
    simp at hv
  | m + 1, off, cs, h, j, v, hv => by
    simp only [roCells] at h
    split at h
    · rename_i u hu
      obtain ⟨r, hr, rfl⟩ := Option.map_eq_some_iff.1 h
      cases j with
      | zero =>
        simp only [List.getElem?_cons_zero] at hv
        rw [Nat.add_zero, hu, hv]
      | succ j =>
        simp only [List.getElem?_cons_succ] at hv
        have := roCells_at hr hv
        rwa [show off + 1 + j = off + (j + 1) by omega] at this
    · cases h

/-- One cell of a known piece. -/
theorem cell_at {h : AH} {b off m : Nat} {cs : List Value} (hc : h.cut b off m = some cs) {j : Nat} {v : Value} (hv : cs[j]? = some v) : h.cell b (off + j) = some v := by
  unfold AH.cut at hc
  unfold AH.cell
  cases hb : Nat.blt b h.n with
  | true =>
    rw [hb] at hc
    exact roCells_at hc hv
  | false =>
    rw [hb] at hc
    simp only [cond] at hc ⊢
    split at hc
    · rename_i row hrow
      obtain ⟨h1, h2, h3⟩ := lcut_spec _ _ _ _ hc
      try simp only [hrow]
      rw [lget_eq, ← h3 j (by rw [← h1]; exact (List.getElem?_eq_some_iff.1 hv).1)]
      exact hv
    · cases hc

/-- From a block of this run, at a place that is told. -/
theorem SpB.loadOE {T : Tabs} {nt : Nat} {ops l : List Oper} {o : Oper} {bs : Bs} {h : AH} {low : Nat} {Q : Bs → AH → Nat → List Acc → Prop} {N lim : Nat} {rd0 : RO} {t : TypeId} {x : Operand} {k off : Nat} (off' : Nat) {cs : List Value} {v : Value} {d : Nat} (H : Hp N lim rd0 h) (hb : h.blk k = some (.cells cs)) (ho : o.op = .load t x) (hw : wantedB ops bs o = some true) (he : evB bs h x = some (.pointer (some ⟨N + k, off, none⟩)))
    (hoff : off = off') (hp : partT T t cs off' = some v) (hd : o.dst = some d) (hlt : Nat.blt d nt = true)
    (h2 : SpB T nt ops l ((d, v) :: bs) h low fun b' h' l' acs => Q b' h' l' (⟨rdOf h (N + k), [], h.sz, h.sz, none⟩ :: acs)) : SpB T nt ops (o :: l) bs h low Q :=
  SpB.loadO H hb ho hw he (by rw [hoff]; exact hp) hd hlt h2

end Go.Vae
end

section
set_option linter.unusedVariables false
namespace Go.Proofs.YtkjkcoemloakhaaGreat
open Go Go.Vae
set_option maxRecDepth 100000

theorem small_ok {N lim : Nat} {rd : RO} : ∀ (e : E) (h : AH) (d : Nat), Hp N lim rd h → e.At rd → d ≤ 1000 → Kp TT 55 [.agg ⟨e.cells⟩, .int .i64 (d : Int)] h fun v _ => ∃ b, v = .bool b ∧ (b = true → e.small d)
  | .nil, h, _, _, he, _ => he.elim
  | .mk op tb nm ix vk vi vt sl n kid, h0, d, H, he, hd => by
    obtain ⟨_, ⟨ht1, ht2, ht3⟩, hn, ⟨a, cap, rfl, _, _, hx⟩, hk⟩ := he
    have hreach : reachBytes < 2 ^ 47 := by decide
    simp only [txt] at ht1 ht2 ht3
    have w1 : IntKind.i64.wrap ((nm.data.toList.length : Int) + (tb.data.toList.length : Int)) = ((nm.data.toList.length + tb.data.toList.length : Nat) : Int) := by rw [wrap_small (by omega) (by omega)]; omega
    have w2 : IntKind.i64.wrap (((nm.data.toList.length + tb.data.toList.length : Nat) : Int) + (vt.data.toList.length : Int)) = ((nm.data.toList.length + tb.data.toList.length + vt.data.toList.length : Nat) : Int) := by rw [wrap_small (by omega) (by omega)]; omega
    refine Kp.of (fi := Tryz.fi55) rfl rfl rfl ?_
    refine WpB.seq (WpB.region ?_)
    refine SpB.box H rfl rfl rfl rfl rfl rfl fun h g s1 b1 => ?_
    have hle := H.le
    have H := g.hp H
    have l1 : h0.sz < h.sz := by omega
    clear g s1
    refine SpB.assign rfl rfl rfl rfl rfl (SpB.nil ?_)
    have hfalse : (∃ b, Value.bool false = .bool b ∧ (b = true → (E.mk op tb nm ix vk vi vt (.slice a n cap) n kid).small d)) ∧ h0.sz ≤ h0.sz := ⟨⟨false, rfl, fun h => by cases h⟩, Nat.le_refl _⟩
    refine WpB.cut [(2, .pointer (some ⟨N + h0.sz, 0, none⟩)), (1, .int .i64 (d : Int))] (fun h' => h' = h ∧ d ≠ 0 ∧ n ≤ 2 ∧ txt nm + txt tb + txt vt ≤ 100) ?_ ?_
    · repeat first | refine qN ?_ | refine qM rfl ?_ | refine qA rfl ?_ | refine qS rfl ?_ | refine qL H b1 rfl ?_ | refine qT rfl ?_ | refine qF rfl ?_ | refine qI i (by omega) rfl ?_ | refine qI io (by omega) rfl ?_ | refine qP rfl ?_ | refine wQ ?_ | refine wR ?_ | refine wD ?_ | refine wN rfl ?_ | refine wS ?_
      refine qB rfl (fun c1 => ?_) fun c1 => ?_
      · repeat' first | refine qN ?_ | refine qM rfl ?_ | refine qA rfl ?_ | refine qS rfl ?_ | refine qL H b1 rfl ?_ | refine qT rfl ?_ | refine qF rfl ?_ | refine qB rfl (fun ht => ?_) fun ht => ?_ | refine qI i (by omega) rfl ?_ | refine qI io (by omega) rfl ?_ | refine qP rfl ?_ | refine wQ ?_ | refine wR ?_ | refine wD ?_ | refine wN rfl ?_ | refine wS ?_ | refine wT rfl ?_ | refine wF rfl ?_ | refine WpB.cond rfl (fun ht => ?_) fun ht => ?_
        exact WpB.ret ⟨_, rfl, hfalse⟩
      have c1 : d ≠ 0 := by simpa using c1
      repeat first | refine qN ?_ | refine qM rfl ?_ | refine qA rfl ?_ | refine qS rfl ?_ | refine qL H b1 rfl ?_ | refine qT rfl ?_ | refine qF rfl ?_ | refine qI i (by omega) rfl ?_ | refine qI io (by omega) rfl ?_ | refine qP rfl ?_ | refine wQ ?_ | refine wR ?_ | refine wD ?_ | refine wN rfl ?_ | refine wS ?_
      refine qB rfl (fun c2 => ?_) fun c2 => ?_
      · repeat' first | refine qN ?_ | refine qM rfl ?_ | refine qA rfl ?_ | refine qS rfl ?_ | refine qL H b1 rfl ?_ | refine qT rfl ?_ | refine qF rfl ?_ | refine qB rfl (fun ht => ?_) fun ht => ?_ | refine qI i (by omega) rfl ?_ | refine qI io (by omega) rfl ?_ | refine qP rfl ?_ | refine wQ ?_ | refine wR ?_ | refine wD ?_ | refine wN rfl ?_ | refine wS ?_ | refine wT rfl ?_ | refine wF rfl ?_ | refine WpB.cond rfl (fun ht => ?_) fun ht => ?_
        exact WpB.ret ⟨_, rfl, hfalse⟩
      have c2 : n ≤ 2 := by simp at c2; omega
      repeat first | refine qN ?_ | refine qM rfl ?_ | refine qA rfl ?_ | refine qS rfl ?_ | refine qL H b1 rfl ?_ | refine qT rfl ?_ | refine qF rfl ?_ | refine qI i (by omega) rfl ?_ | refine qI io (by omega) rfl ?_ | refine qP rfl ?_ | refine wQ ?_ | refine wR ?_ | refine wD ?_ | refine wN rfl ?_ | refine wS ?_
      refine WpB.cond rfl (fun ht => ?_) fun ht => ?_
      · repeat' first | refine qN ?_ | refine qM rfl ?_ | refine qA rfl ?_ | refine qS rfl ?_ | refine qL H b1 rfl ?_ | refine qT rfl ?_ | refine qF rfl ?_ | refine qB rfl (fun ht => ?_) fun ht => ?_ | refine qI i (by omega) rfl ?_ | refine qI io (by omega) rfl ?_ | refine qP rfl ?_ | refine wQ ?_ | refine wR ?_ | refine wD ?_ | refine wN rfl ?_ | refine wS ?_ | refine wT rfl ?_ | refine wF rfl ?_ | refine WpB.cond rfl (fun ht => ?_) fun ht => ?_
        exact WpB.ret ⟨_, rfl, hfalse⟩
      · refine WpB.skip ?_
        refine ⟨(by repeat first | exact sub_nil | refine sub_cons rfl ?_), ⟨rfl, c1, c2, ?_⟩, rfl⟩
        have ht : (Decidable.decide (IntKind.i64.wrap (IntKind.i64.wrap ((nm.data.toList.length : Int) + (tb.data.toList.length : Int)) + (vt.data.toList.length : Int)) > 100)) = false := ht
        rw [w1, w2] at ht
        have ht := of_decide_eq_false ht
        simp only [txt]
        omega
    · rintro _ ⟨rfl, c1, c2, c3⟩
      repeat first | refine qN ?_ | refine qM rfl ?_ | refine qA rfl ?_ | refine qS rfl ?_ | refine qL H b1 rfl ?_ | refine qT rfl ?_ | refine qF rfl ?_ | refine qI i (by omega) rfl ?_ | refine qI io (by omega) rfl ?_ | refine qP rfl ?_ | refine wQ ?_ | refine wR ?_ | refine wD ?_ | refine wN rfl ?_ | refine wS ?_
      refine WpB.block ?_
      refine WpB.loopC n (fun i => [(5, .int .i64 (i : Int)), (2, .pointer (some ⟨N + h0.sz, 0, none⟩)), (1, .int .i64 (d : Int))]) (fun i h => Hp N lim rd h ∧ h.blk h0.sz = some (.cells (E.mk op tb nm ix vk vi vt (.slice a n cap) n kid).cells) ∧ h0.sz < h.sz ∧ ∀ j, j < i → (kid j).small (d - 1))
        ⟨H, b1, l1, fun j hj => absurd hj (Nat.not_lt_zero _)⟩ (by repeat first | exact sub_nil | refine sub_cons rfl ?_) ?_
      rintro i h hi ⟨H, b1, l1, hj⟩
      repeat first | refine qN ?_ | refine qM rfl ?_ | refine qA rfl ?_ | refine qS rfl ?_ | refine qL H b1 rfl ?_ | refine qT rfl ?_ | refine qF rfl ?_ | refine qI i (by omega) rfl ?_ | refine qI io (by omega) rfl ?_ | refine qP rfl ?_ | refine wQ ?_ | refine wR ?_ | refine wD ?_ | refine wN rfl ?_ | refine wS ?_
      refine WpB.cond rfl (fun ht => ?_) fun ht => ?_
      · have hlt : i < n := by simpa using ht
        obtain ⟨b, off, rfl, hc⟩ := hx i hlt
        refine WpB.skip ?_
        refine WpB.seq (WpB.block ?_)
        repeat first | refine qN ?_ | refine qM rfl ?_ | refine qA rfl ?_ | refine qS rfl ?_ | refine qL H b1 rfl ?_ | refine qT rfl ?_ | refine qF rfl ?_ | refine qI i (by omega) rfl ?_ | refine qI io (by omega) rfl ?_ | refine qP rfl ?_ | refine wQ ?_ | refine wR ?_ | refine wD ?_ | refine wN rfl ?_ | refine wS ?_
        refine SpB.indexN hlt rfl rfl rfl rfl rfl rfl rfl rfl rfl ?_
        refine SpB.loadR H hc rfl rfl rfl rfl rfl rfl rfl ?_
        repeat first | refine qN ?_ | refine qM rfl ?_ | refine qA rfl ?_ | refine qS rfl ?_ | refine qL H b1 rfl ?_ | refine qT rfl ?_ | refine qF rfl ?_ | refine qI i (by omega) rfl ?_ | refine qI io (by omega) rfl ?_ | refine qP rfl ?_ | refine wQ ?_ | refine wR ?_ | refine wD ?_ | refine wN rfl ?_ | refine wS ?_
        have w3 : IntKind.i64.wrap ((d : Int) - 1) = ((d - 1 : Nat) : Int) := by rw [wrap_small (by omega) (by omega)]; omega
        have hcall := small_ok (kid i) h (d - 1) H (hk i hlt) (by omega)
        rw [← w3] at hcall
        refine SpB.callK Tryz.T1OK H (by omega) hcall rfl rfl rfl rfl rfl ?_
        rintro v h ⟨r, rfl, hr⟩ g
        have H := g.hp H
        have b1 := g.keep l1 b1
        have l1 := g.lt l1
        repeat first | refine qN ?_ | refine qM rfl ?_ | refine qA rfl ?_ | refine qS rfl ?_ | refine qL H b1 rfl ?_ | refine qT rfl ?_ | refine qF rfl ?_ | refine qI i (by omega) rfl ?_ | refine qI io (by omega) rfl ?_ | refine qP rfl ?_ | refine wQ ?_ | refine wR ?_ | refine wD ?_ | refine wN rfl ?_ | refine wS ?_
        refine WpB.cond rfl (fun ht2 => ?_) fun ht2 => ?_
        · repeat first | refine qN ?_ | refine qM rfl ?_ | refine qA rfl ?_ | refine qS rfl ?_ | refine qL H b1 rfl ?_ | refine qT rfl ?_ | refine qF rfl ?_ | refine qI i (by omega) rfl ?_ | refine qI io (by omega) rfl ?_ | refine qP rfl ?_ | refine wQ ?_ | refine wR ?_ | refine wD ?_ | refine wN rfl ?_ | refine wS ?_
          exact WpB.ret ⟨_, rfl, hfalse⟩
        · repeat first | refine qN ?_ | refine qM rfl ?_ | refine qA rfl ?_ | refine qS rfl ?_ | refine qL H b1 rfl ?_ | refine qT rfl ?_ | refine qF rfl ?_ | refine qI i (by omega) rfl ?_ | refine qI io (by omega) rfl ?_ | refine qP rfl ?_ | refine wQ ?_ | refine wR ?_ | refine wD ?_ | refine wN rfl ?_ | refine wS ?_
          refine ⟨hlt, (by repeat first | exact sub_nil | refine sub_cons rfl ?_), ⟨H, b1, l1, fun j hj1 => ?_⟩, rfl⟩
          by_cases e : j = i
          · subst e; exact hr (by simpa using ht2)
          · exact hj j (by omega)
      · refine WpB.exit ?_
        repeat first | refine qN ?_ | refine qM rfl ?_ | refine qA rfl ?_ | refine qS rfl ?_ | refine qL H b1 rfl ?_ | refine qT rfl ?_ | refine qF rfl ?_ | refine qI i (by omega) rfl ?_ | refine qI io (by omega) rfl ?_ | refine qP rfl ?_ | refine wQ ?_ | refine wR ?_ | refine wD ?_ | refine wN rfl ?_ | refine wS ?_
        refine WpB.ret ⟨_, rfl, ⟨true, rfl, fun _ => ?_⟩, Nat.le_refl _⟩
        have : ¬ i < n := by simpa using ht
        obtain ⟨d, rfl⟩ : ∃ d', d = d' + 1 := ⟨d - 1, by omega⟩
        exact ⟨c2, c3, fun j hj1 => hj j (by omega)⟩

theorem binary_ok {N lim : Nat} {rd : RO} : ∀ (e : E) (h : AH) (d : Nat), Hp N lim rd h → e.At rd → d ≤ 1000 → Kp TT 29 [.agg ⟨e.cells⟩, .int .i64 (d : Int)] h fun v _ => ∃ b, v = .bool b ∧ (b = true → e.bin d)
  | .nil, h, _, _, he, _ => he.elim
  | .mk op tb nm ix vk vi vt sl n kid, h0, d, H, he, hd => by
    have he0 := he
    obtain ⟨_, _, hn, ⟨a, cap, rfl, _, _, hx⟩, hk⟩ := he
    have hreach : reachBytes < 2 ^ 47 := by decide
    refine Kp.of (fi := Tryz.fi29) rfl rfl rfl ?_
    refine WpB.seq (WpB.region ?_)
    refine SpB.box H rfl rfl rfl rfl rfl rfl fun h g s1 b1 => ?_
    have hle := H.le
    have H := g.hp H
    have l1 : h0.sz < h.sz := by omega
    clear g s1
    refine SpB.assign rfl rfl rfl rfl rfl (SpB.nil ?_)
    have hfalse : (∃ b, Value.bool false = .bool b ∧ (b = true → (E.mk op tb nm ix vk vi vt (.slice a n cap) n kid).bin d)) ∧ h0.sz ≤ h0.sz := ⟨⟨false, rfl, fun h => by cases h⟩, Nat.le_refl _⟩
    refine WpB.cut [(2, .pointer (some ⟨N + h0.sz, 0, none⟩)), (1, .int .i64 (d : Int))] (fun h => Hp N lim rd h ∧ h.blk h0.sz = some (.cells (E.mk op tb nm ix vk vi vt (.slice a n cap) n kid).cells) ∧ h0.sz < h.sz ∧ d ≠ 0 ∧ n ≤ 2 ∧ txt nm + txt tb + txt vt ≤ 100 ∧ (op = 18 → n = 2)) ?_ ?_
    · repeat first | refine qN ?_ | refine qM rfl ?_ | refine qA rfl ?_ | refine qS rfl ?_ | refine qL H b1 rfl ?_ | refine qT rfl ?_ | refine qF rfl ?_ | refine qI i (by omega) rfl ?_ | refine qI io (by omega) rfl ?_ | refine qP rfl ?_ | refine wQ ?_ | refine wR ?_ | refine wD ?_ | refine wN rfl ?_ | refine wS ?_
      refine SpB.callK Tryz.T1OK H (by omega) (small_ok (.mk op tb nm ix vk vi vt (.slice a n cap) n kid) h d H he0 hd) rfl rfl rfl rfl rfl ?_
      rintro v h ⟨r, rfl, hr⟩ g
      have H := g.hp H
      have b1 := g.keep l1 b1
      have l1 := g.lt l1
      refine qB rfl (fun c1 => ?_) fun c1 => ?_
      · repeat' first | refine qN ?_ | refine qM rfl ?_ | refine qA rfl ?_ | refine qS rfl ?_ | refine qL H b1 rfl ?_ | refine qT rfl ?_ | refine qF rfl ?_ | refine qB rfl (fun ht => ?_) fun ht => ?_ | refine qI i (by omega) rfl ?_ | refine qI io (by omega) rfl ?_ | refine qP rfl ?_ | refine wQ ?_ | refine wR ?_ | refine wD ?_ | refine wN rfl ?_ | refine wS ?_ | refine wT rfl ?_ | refine wF rfl ?_ | refine WpB.cond rfl (fun ht => ?_) fun ht => ?_
        exact WpB.ret ⟨_, rfl, hfalse⟩
      have c1 := hr (by simpa using c1)
      obtain ⟨d, rfl⟩ : ∃ d', d = d' + 1 := by
        cases d with
        | zero => exact c1.elim
        | succ d => exact ⟨d, rfl⟩
      obtain ⟨c2, c3, _⟩ := c1
      repeat first | refine qN ?_ | refine qM rfl ?_ | refine qA rfl ?_ | refine qS rfl ?_ | refine qL H b1 rfl ?_ | refine qT rfl ?_ | refine qF rfl ?_ | refine qI i (by omega) rfl ?_ | refine qI io (by omega) rfl ?_ | refine qP rfl ?_ | refine wQ ?_ | refine wR ?_ | refine wD ?_ | refine wN rfl ?_ | refine wS ?_
      refine qB rfl (fun c4 => ?_) fun c4 => ?_
      · repeat first | refine qN ?_ | refine qM rfl ?_ | refine qA rfl ?_ | refine qS rfl ?_ | refine qL H b1 rfl ?_ | refine qT rfl ?_ | refine qF rfl ?_ | refine qI i (by omega) rfl ?_ | refine qI io (by omega) rfl ?_ | refine qP rfl ?_ | refine wQ ?_ | refine wR ?_ | refine wD ?_ | refine wN rfl ?_ | refine wS ?_
        refine qB rfl (fun c5 => ?_) fun c5 => ?_
        · repeat' first | refine qN ?_ | refine qM rfl ?_ | refine qA rfl ?_ | refine qS rfl ?_ | refine qL H b1 rfl ?_ | refine qT rfl ?_ | refine qF rfl ?_ | refine qB rfl (fun ht => ?_) fun ht => ?_ | refine qI i (by omega) rfl ?_ | refine qI io (by omega) rfl ?_ | refine qP rfl ?_ | refine wQ ?_ | refine wR ?_ | refine wD ?_ | refine wN rfl ?_ | refine wS ?_ | refine wT rfl ?_ | refine wF rfl ?_ | refine WpB.cond rfl (fun ht => ?_) fun ht => ?_
          exact WpB.ret ⟨_, rfl, hfalse⟩
        · repeat' first | refine qN ?_ | refine qM rfl ?_ | refine qA rfl ?_ | refine qS rfl ?_ | refine qL H b1 rfl ?_ | refine qT rfl ?_ | refine qF rfl ?_ | refine qB rfl (fun ht => ?_) fun ht => ?_ | refine qI i (by omega) rfl ?_ | refine qI io (by omega) rfl ?_ | refine qP rfl ?_ | refine wQ ?_ | refine wR ?_ | refine wD ?_ | refine wN rfl ?_ | refine wS ?_ | refine wT rfl ?_ | refine wF rfl ?_ | refine WpB.cond rfl (fun ht => ?_) fun ht => ?_
          refine ⟨(by repeat first | exact sub_nil | refine sub_cons rfl ?_), ⟨H, b1, l1, by omega, c2, c3, fun _ => by simp at c5; omega⟩, rfl⟩
      · repeat' first | refine qN ?_ | refine qM rfl ?_ | refine qA rfl ?_ | refine qS rfl ?_ | refine qL H b1 rfl ?_ | refine qT rfl ?_ | refine qF rfl ?_ | refine qB rfl (fun ht => ?_) fun ht => ?_ | refine qI i (by omega) rfl ?_ | refine qI io (by omega) rfl ?_ | refine qP rfl ?_ | refine wQ ?_ | refine wR ?_ | refine wD ?_ | refine wN rfl ?_ | refine wS ?_ | refine wT rfl ?_ | refine wF rfl ?_ | refine WpB.cond rfl (fun ht => ?_) fun ht => ?_
        refine ⟨(by repeat first | exact sub_nil | refine sub_cons rfl ?_), ⟨H, b1, l1, by omega, c2, c3, fun h => by simp at c4; exact absurd h c4⟩, rfl⟩
    · rintro h ⟨H, b1, l1, c1, c2, c3, c4⟩
      repeat first | refine qN ?_ | refine qM rfl ?_ | refine qA rfl ?_ | refine qS rfl ?_ | refine qL H b1 rfl ?_ | refine qT rfl ?_ | refine qF rfl ?_ | refine qI i (by omega) rfl ?_ | refine qI io (by omega) rfl ?_ | refine qP rfl ?_ | refine wQ ?_ | refine wR ?_ | refine wD ?_ | refine wN rfl ?_ | refine wS ?_
      refine WpB.block ?_
      refine WpB.loopC n (fun i => [(5, .int .i64 (i : Int)), (2, .pointer (some ⟨N + h0.sz, 0, none⟩)), (1, .int .i64 (d : Int))]) (fun i h => Hp N lim rd h ∧ h.blk h0.sz = some (.cells (E.mk op tb nm ix vk vi vt (.slice a n cap) n kid).cells) ∧ h0.sz < h.sz ∧ ∀ j, j < i → (kid j).bin (d - 1))
        ⟨H, b1, l1, fun j hj => absurd hj (Nat.not_lt_zero _)⟩ (by repeat first | exact sub_nil | refine sub_cons rfl ?_) ?_
      rintro i h hi ⟨H, b1, l1, hj⟩
      repeat first | refine qN ?_ | refine qM rfl ?_ | refine qA rfl ?_ | refine qS rfl ?_ | refine qL H b1 rfl ?_ | refine qT rfl ?_ | refine qF rfl ?_ | refine qI i (by omega) rfl ?_ | refine qI io (by omega) rfl ?_ | refine qP rfl ?_ | refine wQ ?_ | refine wR ?_ | refine wD ?_ | refine wN rfl ?_ | refine wS ?_
      refine WpB.cond rfl (fun ht => ?_) fun ht => ?_
      · have hlt : i < n := by simpa using ht
        obtain ⟨b, off, rfl, hc⟩ := hx i hlt
        refine WpB.skip ?_
        refine WpB.seq (WpB.block ?_)
        repeat first | refine qN ?_ | refine qM rfl ?_ | refine qA rfl ?_ | refine qS rfl ?_ | refine qL H b1 rfl ?_ | refine qT rfl ?_ | refine qF rfl ?_ | refine qI i (by omega) rfl ?_ | refine qI io (by omega) rfl ?_ | refine qP rfl ?_ | refine wQ ?_ | refine wR ?_ | refine wD ?_ | refine wN rfl ?_ | refine wS ?_
        refine SpB.indexN hlt rfl rfl rfl rfl rfl rfl rfl rfl rfl ?_
        refine SpB.loadR H hc rfl rfl rfl rfl rfl rfl rfl ?_
        repeat first | refine qN ?_ | refine qM rfl ?_ | refine qA rfl ?_ | refine qS rfl ?_ | refine qL H b1 rfl ?_ | refine qT rfl ?_ | refine qF rfl ?_ | refine qI i (by omega) rfl ?_ | refine qI io (by omega) rfl ?_ | refine qP rfl ?_ | refine wQ ?_ | refine wR ?_ | refine wD ?_ | refine wN rfl ?_ | refine wS ?_
        have w3 : IntKind.i64.wrap ((d : Int) - 1) = ((d - 1 : Nat) : Int) := by rw [wrap_small (by omega) (by omega)]; omega
        have hcall := binary_ok (kid i) h (d - 1) H (hk i hlt) (by omega)
        rw [← w3] at hcall
        refine SpB.callK Tryz.T1OK H (by omega) hcall rfl rfl rfl rfl rfl ?_
        rintro v h ⟨r, rfl, hr⟩ g
        have H := g.hp H
        have b1 := g.keep l1 b1
        have l1 := g.lt l1
        repeat first | refine qN ?_ | refine qM rfl ?_ | refine qA rfl ?_ | refine qS rfl ?_ | refine qL H b1 rfl ?_ | refine qT rfl ?_ | refine qF rfl ?_ | refine qI i (by omega) rfl ?_ | refine qI io (by omega) rfl ?_ | refine qP rfl ?_ | refine wQ ?_ | refine wR ?_ | refine wD ?_ | refine wN rfl ?_ | refine wS ?_
        refine WpB.cond rfl (fun ht2 => ?_) fun ht2 => ?_
        · repeat first | refine qN ?_ | refine qM rfl ?_ | refine qA rfl ?_ | refine qS rfl ?_ | refine qL H b1 rfl ?_ | refine qT rfl ?_ | refine qF rfl ?_ | refine qI i (by omega) rfl ?_ | refine qI io (by omega) rfl ?_ | refine qP rfl ?_ | refine wQ ?_ | refine wR ?_ | refine wD ?_ | refine wN rfl ?_ | refine wS ?_
          exact WpB.ret ⟨_, rfl, hfalse⟩
        · repeat first | refine qN ?_ | refine qM rfl ?_ | refine qA rfl ?_ | refine qS rfl ?_ | refine qL H b1 rfl ?_ | refine qT rfl ?_ | refine qF rfl ?_ | refine qI i (by omega) rfl ?_ | refine qI io (by omega) rfl ?_ | refine qP rfl ?_ | refine wQ ?_ | refine wR ?_ | refine wD ?_ | refine wN rfl ?_ | refine wS ?_
          refine ⟨hlt, (by repeat first | exact sub_nil | refine sub_cons rfl ?_), ⟨H, b1, l1, fun j hj1 => ?_⟩, rfl⟩
          by_cases e : j = i
          · subst e; exact hr (by simpa using ht2)
          · exact hj j (by omega)
      · refine WpB.exit ?_
        repeat first | refine qN ?_ | refine qM rfl ?_ | refine qA rfl ?_ | refine qS rfl ?_ | refine qL H b1 rfl ?_ | refine qT rfl ?_ | refine qF rfl ?_ | refine qI i (by omega) rfl ?_ | refine qI io (by omega) rfl ?_ | refine qP rfl ?_ | refine wQ ?_ | refine wR ?_ | refine wD ?_ | refine wN rfl ?_ | refine wS ?_
        refine WpB.ret ⟨_, rfl, ⟨true, rfl, fun _ => ?_⟩, Nat.le_refl _⟩
        have : ¬ i < n := by simpa using ht
        obtain ⟨d, rfl⟩ : ∃ d', d = d' + 1 := ⟨d - 1, by omega⟩
        exact ⟨c2, c3, c4, fun j hj1 => hj j (by omega)⟩

end Go.Proofs.YtkjkcoemloakhaaGreat
end

section
set_option linter.unusedVariables false
namespace Go.Proofs.YtkjkcoemloakhaaGreat
open Go Go.Vae
set_option maxRecDepth 100000

theorem expr_ok {N lim : Nat} {rd : RO} : ∀ (e f : E) (h : AH), Hp N lim rd h → e.At rd → f.At rd → Kp TT 18 [.agg ⟨e.cells⟩, .agg ⟨f.cells⟩] h fun v _ => v = .bool (e.same f)
  | .nil, _, h, _, he, _ => he.elim
  | .mk .., .nil, h, _, _, hf => hf.elim
  | .mk op tb nm ix vk vi vt sl n kid, .mk op' tb' nm' ix' vk' vi' vt' sl' n' kid', h0, H, he, hf => by
    obtain ⟨_, _, hn, ⟨a, cap, rfl, _, _, hx⟩, hk⟩ := he
    obtain ⟨_, _, hn', ⟨a', cap', rfl, _, _, hx'⟩, hk'⟩ := hf
    have hreach : reachBytes < 2 ^ 47 := by decide
    refine Kp.of (fi := Tryz.fi18) rfl rfl rfl ?_
    refine WpB.seq (WpB.region ?_)
    refine SpB.box H rfl rfl rfl rfl rfl rfl fun h g s1 b1 => ?_
    have hle := H.le
    have H := g.hp H
    have l1 : h0.sz < h.sz := by omega
    clear g s1
    refine SpB.box H rfl rfl rfl rfl rfl rfl fun h2 g s2 b2 => ?_
    have b1 := g.keep l1 b1
    have l2 : h.sz < h2.sz := by omega
    have l1 := g.lt l1
    have H := g.hp H
    clear g s2
    refine SpB.assign rfl rfl rfl rfl rfl (SpB.nil ?_)
    generalize hs : E.same _ _ = r
    simp only [E.same] at hs
    refine WpB.cut [(2, .pointer (some ⟨N + h0.sz, 0, none⟩)), (3, .pointer (some ⟨N + h.sz, 0, none⟩))] (fun h' => h' = h2 ∧ n = n' ∧ ((List.range n).all fun i => (kid i).same (kid' i)) = r) ?_ ?_
    · repeat first | refine qN ?_ | refine qM rfl ?_ | refine qA rfl ?_ | refine qS rfl ?_ | refine qL H b1 rfl ?_ | refine qL H b2 rfl ?_ | refine qT rfl ?_ | refine qF rfl ?_ | refine qI i (by omega) rfl ?_ | refine qI io (by omega) rfl ?_ | refine qP rfl ?_ | refine wQ ?_ | refine wR ?_ | refine wD ?_ | refine wN rfl ?_ | refine wS ?_
      refine qB rfl (fun c1 => ?_) fun c1 => ?_
      · repeat' first | refine qN ?_ | refine qM rfl ?_ | refine qA rfl ?_ | refine qS rfl ?_ | refine qL H b1 rfl ?_ | refine qL H b2 rfl ?_ | refine qT rfl ?_ | refine qF rfl ?_ | refine qB rfl (fun ht => ?_) fun ht => ?_ | refine qI i (by omega) rfl ?_ | refine qI io (by omega) rfl ?_ | refine qP rfl ?_ | refine wQ ?_ | refine wR ?_ | refine wD ?_ | refine wN rfl ?_ | refine wS ?_ | refine wT rfl ?_ | refine wF rfl ?_ | refine WpB.cond rfl (fun ht => ?_) fun ht => ?_
        refine WpB.ret ⟨_, rfl, ?_, Nat.le_refl _⟩
        have : (op == op') = false := by simpa using c1
        rw [this] at hs
        subst hs; rfl
      have c1 : (op == op') = true := by simpa using c1
      rw [c1, Bool.true_and] at hs
      repeat first | refine qN ?_ | refine qM rfl ?_ | refine qA rfl ?_ | refine qS rfl ?_ | refine qL H b1 rfl ?_ | refine qL H b2 rfl ?_ | refine qT rfl ?_ | refine qF rfl ?_ | refine qI i (by omega) rfl ?_ | refine qI io (by omega) rfl ?_ | refine qP rfl ?_ | refine wQ ?_ | refine wR ?_ | refine wD ?_ | refine wN rfl ?_ | refine wS ?_
      refine qB rfl (fun c2 => ?_) fun c2 => ?_
      · repeat' first | refine qN ?_ | refine qM rfl ?_ | refine qA rfl ?_ | refine qS rfl ?_ | refine qL H b1 rfl ?_ | refine qL H b2 rfl ?_ | refine qT rfl ?_ | refine qF rfl ?_ | refine qB rfl (fun ht => ?_) fun ht => ?_ | refine qI i (by omega) rfl ?_ | refine qI io (by omega) rfl ?_ | refine qP rfl ?_ | refine wQ ?_ | refine wR ?_ | refine wD ?_ | refine wN rfl ?_ | refine wS ?_ | refine wT rfl ?_ | refine wF rfl ?_ | refine WpB.cond rfl (fun ht => ?_) fun ht => ?_
        refine WpB.ret ⟨_, rfl, ?_, Nat.le_refl _⟩
        have : leq tb.data.toList tb'.data.toList = false := by simpa using c2
        rw [this] at hs
        subst hs; rfl
      have c2 : leq tb.data.toList tb'.data.toList = true := by simpa using c2
      rw [c2, Bool.true_and] at hs
      repeat first | refine qN ?_ | refine qM rfl ?_ | refine qA rfl ?_ | refine qS rfl ?_ | refine qL H b1 rfl ?_ | refine qL H b2 rfl ?_ | refine qT rfl ?_ | refine qF rfl ?_ | refine qI i (by omega) rfl ?_ | refine qI io (by omega) rfl ?_ | refine qP rfl ?_ | refine wQ ?_ | refine wR ?_ | refine wD ?_ | refine wN rfl ?_ | refine wS ?_
      refine qB rfl (fun c3 => ?_) fun c3 => ?_
      · repeat' first | refine qN ?_ | refine qM rfl ?_ | refine qA rfl ?_ | refine qS rfl ?_ | refine qL H b1 rfl ?_ | refine qL H b2 rfl ?_ | refine qT rfl ?_ | refine qF rfl ?_ | refine qB rfl (fun ht => ?_) fun ht => ?_ | refine qI i (by omega) rfl ?_ | refine qI io (by omega) rfl ?_ | refine qP rfl ?_ | refine wQ ?_ | refine wR ?_ | refine wD ?_ | refine wN rfl ?_ | refine wS ?_ | refine wT rfl ?_ | refine wF rfl ?_ | refine WpB.cond rfl (fun ht => ?_) fun ht => ?_
        refine WpB.ret ⟨_, rfl, ?_, Nat.le_refl _⟩
        have : leq nm.data.toList nm'.data.toList = false := by simpa using c3
        rw [this] at hs
        subst hs; rfl
      have c3 : leq nm.data.toList nm'.data.toList = true := by simpa using c3
      rw [c3, Bool.true_and] at hs
      repeat first | refine qN ?_ | refine qM rfl ?_ | refine qA rfl ?_ | refine qS rfl ?_ | refine qL H b1 rfl ?_ | refine qL H b2 rfl ?_ | refine qT rfl ?_ | refine qF rfl ?_ | refine qI i (by omega) rfl ?_ | refine qI io (by omega) rfl ?_ | refine qP rfl ?_ | refine wQ ?_ | refine wR ?_ | refine wD ?_ | refine wN rfl ?_ | refine wS ?_
      refine qB rfl (fun c4 => ?_) fun c4 => ?_
      · repeat' first | refine qN ?_ | refine qM rfl ?_ | refine qA rfl ?_ | refine qS rfl ?_ | refine qL H b1 rfl ?_ | refine qL H b2 rfl ?_ | refine qT rfl ?_ | refine qF rfl ?_ | refine qB rfl (fun ht => ?_) fun ht => ?_ | refine qI i (by omega) rfl ?_ | refine qI io (by omega) rfl ?_ | refine qP rfl ?_ | refine wQ ?_ | refine wR ?_ | refine wD ?_ | refine wN rfl ?_ | refine wS ?_ | refine wT rfl ?_ | refine wF rfl ?_ | refine WpB.cond rfl (fun ht => ?_) fun ht => ?_
        refine WpB.ret ⟨_, rfl, ?_, Nat.le_refl _⟩
        have : (ix == ix') = false := by simpa using c4
        rw [this] at hs
        subst hs; rfl
      have c4 : (ix == ix') = true := by simpa using c4
      rw [c4, Bool.true_and] at hs
      repeat first | refine qN ?_ | refine qM rfl ?_ | refine qA rfl ?_ | refine qS rfl ?_ | refine qL H b1 rfl ?_ | refine qL H b2 rfl ?_ | refine qT rfl ?_ | refine qF rfl ?_ | refine qI i (by omega) rfl ?_ | refine qI io (by omega) rfl ?_ | refine qP rfl ?_ | refine wQ ?_ | refine wR ?_ | refine wD ?_ | refine wN rfl ?_ | refine wS ?_
      refine qB rfl (fun c5 => ?_) fun c5 => ?_
      · repeat' first | refine qN ?_ | refine qM rfl ?_ | refine qA rfl ?_ | refine qS rfl ?_ | refine qL H b1 rfl ?_ | refine qL H b2 rfl ?_ | refine qT rfl ?_ | refine qF rfl ?_ | refine qB rfl (fun ht => ?_) fun ht => ?_ | refine qI i (by omega) rfl ?_ | refine qI io (by omega) rfl ?_ | refine qP rfl ?_ | refine wQ ?_ | refine wR ?_ | refine wD ?_ | refine wN rfl ?_ | refine wS ?_ | refine wT rfl ?_ | refine wF rfl ?_ | refine WpB.cond rfl (fun ht => ?_) fun ht => ?_
        refine WpB.ret ⟨_, rfl, ?_, Nat.le_refl _⟩
        have c5 : (!((vk == vk') && ((vi == vi') && (leq vt.data.toList vt'.data.toList && true)))) = true := c5
        have : ((vk == vk') && ((vi == vi') && (leq vt.data.toList vt'.data.toList && true))) = false := by simpa only [Bool.not_eq_true'] using c5
        rw [this] at hs
        subst hs; rfl
      have c5 : (!((vk == vk') && ((vi == vi') && (leq vt.data.toList vt'.data.toList && true)))) = false := c5
      have c5 : ((vk == vk') && ((vi == vi') && (leq vt.data.toList vt'.data.toList && true))) = true := by simpa only [Bool.not_eq_false'] using c5
      rw [c5, Bool.true_and] at hs
      repeat first | refine qN ?_ | refine qM rfl ?_ | refine qA rfl ?_ | refine qS rfl ?_ | refine qL H b1 rfl ?_ | refine qL H b2 rfl ?_ | refine qT rfl ?_ | refine qF rfl ?_ | refine qI i (by omega) rfl ?_ | refine qI io (by omega) rfl ?_ | refine qP rfl ?_ | refine wQ ?_ | refine wR ?_ | refine wD ?_ | refine wN rfl ?_ | refine wS ?_
      refine WpB.cond rfl (fun ht => ?_) fun ht => ?_
      · repeat' first | refine qN ?_ | refine qM rfl ?_ | refine qA rfl ?_ | refine qS rfl ?_ | refine qL H b1 rfl ?_ | refine qL H b2 rfl ?_ | refine qT rfl ?_ | refine qF rfl ?_ | refine qB rfl (fun ht => ?_) fun ht => ?_ | refine qI i (by omega) rfl ?_ | refine qI io (by omega) rfl ?_ | refine qP rfl ?_ | refine wQ ?_ | refine wR ?_ | refine wD ?_ | refine wN rfl ?_ | refine wS ?_ | refine wT rfl ?_ | refine wF rfl ?_ | refine WpB.cond rfl (fun ht => ?_) fun ht => ?_
        refine WpB.ret ⟨_, rfl, ?_, Nat.le_refl _⟩
        have : (n == n') = false := by
          have : ¬ n = n' := by simp at ht; omega
          simpa using this
        rw [this] at hs
        subst hs; rfl
      · refine WpB.skip ?_
        have ht : n = n' := by simp at ht; omega
        rw [show (n == n') = true by simpa using ht, Bool.true_and] at hs
        exact ⟨(by repeat first | exact sub_nil | refine sub_cons rfl ?_), ⟨rfl, ht, hs⟩, rfl⟩
    · rintro _ ⟨rfl, rfl, hr0⟩
      clear hs
      have hs := hr0
      repeat first | refine qN ?_ | refine qM rfl ?_ | refine qA rfl ?_ | refine qS rfl ?_ | refine qL H b1 rfl ?_ | refine qL H b2 rfl ?_ | refine qT rfl ?_ | refine qF rfl ?_ | refine qI i (by omega) rfl ?_ | refine qI io (by omega) rfl ?_ | refine qP rfl ?_ | refine wQ ?_ | refine wR ?_ | refine wD ?_ | refine wN rfl ?_ | refine wS ?_
      refine WpB.block ?_
      refine WpB.loopC n (fun i => [(5, .int .i64 (i : Int)), (2, .pointer (some ⟨N + h0.sz, 0, none⟩)), (3, .pointer (some ⟨N + h.sz, 0, none⟩))]) (fun i h2 => Hp N lim rd h2 ∧ h2.blk h0.sz = some (.cells (E.mk op tb nm ix vk vi vt (.slice a n cap) n kid).cells) ∧ h0.sz < h2.sz ∧
          h2.blk h.sz = some (.cells (E.mk op' tb' nm' ix' vk' vi' vt' (.slice a' n cap') n kid').cells) ∧ h.sz < h2.sz ∧ ∀ j, j < i → (kid j).same (kid' j) = true)
        ⟨H, b1, l1, b2, l2, fun j hj => absurd hj (Nat.not_lt_zero _)⟩ (by repeat first | exact sub_nil | refine sub_cons rfl ?_) ?_
      rintro i h2 hi ⟨H, b1, l1, b2, l2, hj⟩
      repeat first | refine qN ?_ | refine qM rfl ?_ | refine qA rfl ?_ | refine qS rfl ?_ | refine qL H b1 rfl ?_ | refine qL H b2 rfl ?_ | refine qT rfl ?_ | refine qF rfl ?_ | refine qI i (by omega) rfl ?_ | refine qI io (by omega) rfl ?_ | refine qP rfl ?_ | refine wQ ?_ | refine wR ?_ | refine wD ?_ | refine wN rfl ?_ | refine wS ?_
      refine WpB.cond rfl (fun ht => ?_) fun ht => ?_
      · have hlt : i < n := by simpa using ht
        obtain ⟨b, off, rfl, hc⟩ := hx i hlt
        refine WpB.skip ?_
        refine WpB.seq (WpB.block ?_)
        obtain ⟨b', off', rfl, hc'⟩ := hx' i hlt
        repeat first | refine qN ?_ | refine qM rfl ?_ | refine qA rfl ?_ | refine qS rfl ?_ | refine qL H b1 rfl ?_ | refine qL H b2 rfl ?_ | refine qT rfl ?_ | refine qF rfl ?_ | refine qI i (by omega) rfl ?_ | refine qI io (by omega) rfl ?_ | refine qP rfl ?_ | refine wQ ?_ | refine wR ?_ | refine wD ?_ | refine wN rfl ?_ | refine wS ?_
        refine SpB.indexN hlt rfl rfl rfl rfl rfl rfl rfl rfl rfl ?_
        refine SpB.loadR H hc rfl rfl rfl rfl rfl rfl rfl ?_
        repeat first | refine qN ?_ | refine qM rfl ?_ | refine qA rfl ?_ | refine qS rfl ?_ | refine qL H b1 rfl ?_ | refine qL H b2 rfl ?_ | refine qT rfl ?_ | refine qF rfl ?_ | refine qI i (by omega) rfl ?_ | refine qI io (by omega) rfl ?_ | refine qP rfl ?_ | refine wQ ?_ | refine wR ?_ | refine wD ?_ | refine wN rfl ?_ | refine wS ?_
        refine SpB.indexN hlt rfl rfl rfl rfl rfl rfl rfl rfl rfl ?_
        refine SpB.loadR H hc' rfl rfl rfl rfl rfl rfl rfl ?_
        refine SpB.callK Tryz.T1OK H (by omega) (expr_ok (kid i) (kid' i) h2 H (hk i hlt) (hk' i hlt)) rfl rfl rfl rfl rfl ?_
        rintro v h3 rfl g
        have H := g.hp H
        have b1 := g.keep l1 b1
        have l1 := g.lt l1
        have b2 := g.keep l2 b2
        have l2 := g.lt l2
        repeat first | refine qN ?_ | refine qM rfl ?_ | refine qA rfl ?_ | refine qS rfl ?_ | refine qL H b1 rfl ?_ | refine qL H b2 rfl ?_ | refine qT rfl ?_ | refine qF rfl ?_ | refine qI i (by omega) rfl ?_ | refine qI io (by omega) rfl ?_ | refine qP rfl ?_ | refine wQ ?_ | refine wR ?_ | refine wD ?_ | refine wN rfl ?_ | refine wS ?_
        refine WpB.cond rfl (fun ht2 => ?_) fun ht2 => ?_
        · repeat first | refine qN ?_ | refine qM rfl ?_ | refine qA rfl ?_ | refine qS rfl ?_ | refine qL H b1 rfl ?_ | refine qL H b2 rfl ?_ | refine qT rfl ?_ | refine qF rfl ?_ | refine qI i (by omega) rfl ?_ | refine qI io (by omega) rfl ?_ | refine qP rfl ?_ | refine wQ ?_ | refine wR ?_ | refine wD ?_ | refine wN rfl ?_ | refine wS ?_
          refine WpB.ret ⟨_, rfl, ?_, Nat.le_refl _⟩
          have ht2 : (kid i).same (kid' i) = false := by simpa using ht2
          have : r = false := by
            rw [← hs]
            cases hr : (List.range n).all fun i => (kid i).same (kid' i) with
            | false => rfl
            | true =>
              have := range_all.1 hr i hlt
              rw [ht2] at this
              cases this
          rw [this]
        · repeat first | refine qN ?_ | refine qM rfl ?_ | refine qA rfl ?_ | refine qS rfl ?_ | refine qL H b1 rfl ?_ | refine qL H b2 rfl ?_ | refine qT rfl ?_ | refine qF rfl ?_ | refine qI i (by omega) rfl ?_ | refine qI io (by omega) rfl ?_ | refine qP rfl ?_ | refine wQ ?_ | refine wR ?_ | refine wD ?_ | refine wN rfl ?_ | refine wS ?_
          refine ⟨hlt, (by repeat first | exact sub_nil | refine sub_cons rfl ?_), ⟨H, b1, l1, b2, l2, fun j hj1 => ?_⟩, rfl⟩
          by_cases e : j = i
          · subst e; simpa using ht2
          · exact hj j (by omega)
      · refine WpB.exit ?_
        repeat first | refine qN ?_ | refine qM rfl ?_ | refine qA rfl ?_ | refine qS rfl ?_ | refine qL H b1 rfl ?_ | refine qL H b2 rfl ?_ | refine qT rfl ?_ | refine qF rfl ?_ | refine qI i (by omega) rfl ?_ | refine qI io (by omega) rfl ?_ | refine qP rfl ?_ | refine wQ ?_ | refine wR ?_ | refine wD ?_ | refine wN rfl ?_ | refine wS ?_
        refine WpB.ret ⟨_, rfl, ?_, Nat.le_refl _⟩
        have : ¬ i < n := by simpa using ht
        rw [← hs, range_all.2 fun j hj1 => hj j (by omega)]

end Go.Proofs.YtkjkcoemloakhaaGreat
end

section
set_option linter.unusedVariables false
namespace Go.Proofs.YtkjkcoemloakhaaGreat
open Go Go.Vae
set_option maxRecDepth 100000

theorem absent_ok {N lim : Nat} {rd : RO} (e : E) (h0 : AH) (H : Hp N lim rd h0) (he : e.At rd) : Kp TT 57 [.agg ⟨e.cells⟩] h0 fun v _ => v = .bool (e.same E.zero) := by
  match e, he with
  | .mk op tb nm ix vk vi vt sl n kid, he =>
    refine Kp.of (fi := Tryz.fi57) rfl rfl rfl ?_
    refine WpB.seq (WpB.region ?_)
    refine SpB.box H rfl rfl rfl rfl rfl rfl fun h g s1 b1 => ?_
    have hle := H.le
    have H := g.hp H
    have l1 : h0.sz < h.sz := by omega
    clear g s1
    repeat first | refine qN ?_ | refine qM rfl ?_ | refine qA rfl ?_ | refine qS rfl ?_ | refine qL H b1 rfl ?_ | refine qT rfl ?_ | refine qF rfl ?_ | refine qI i (by omega) rfl ?_ | refine qI io (by omega) rfl ?_ | refine qP rfl ?_ | refine wQ ?_ | refine wR ?_ | refine wD ?_ | refine wN rfl ?_ | refine wS ?_
    refine SpB.callK Tryz.T1OK H (by omega) (expr_ok (.mk op tb nm ix vk vi vt sl n kid) E.zero h H he (E.zero_at rd)) rfl rfl rfl rfl rfl ?_
    rintro v h rfl g
    repeat first | refine qN ?_ | refine qM rfl ?_ | refine qA rfl ?_ | refine qS rfl ?_ | refine qL H b1 rfl ?_ | refine qT rfl ?_ | refine qF rfl ?_ | refine qI i (by omega) rfl ?_ | refine qI io (by omega) rfl ?_ | refine qP rfl ?_ | refine wQ ?_ | refine wR ?_ | refine wD ?_ | refine wN rfl ?_ | refine wS ?_
    exact WpB.ret ⟨_, rfl, rfl, Nat.le_refl _⟩

def exprsV (l : List E) : List Value := l.flatMap E.cells

theorem conj_len {rd : RO} {e : E} (he : e.At rd) : (exprsV e.conj).length = e.conj.length * 8 := by
  have h := E.conj_at he
  unfold exprsV
  generalize e.conj = l at h
  induction l with
  | nil => rfl
  | cons x l ih =>
    rw [List.flatMap_cons, List.length_append, ih fun y hy => h y (List.mem_cons_of_mem _ hy), E.cells_len (h x (List.mem_cons_self ..)), List.length_cons]
    omega

theorem conj_kid {op : Int} {tb nm : ByteArray} {ix vk vi : Int} {vt : ByteArray} {sl : Value} {n : Nat} {kid : Nat → E} {i c : Nat} (hi : i < n) (hs : (E.mk op tb nm ix vk vi vt sl n kid).size ≤ c) :
    (kid i).size ≤ c ∧ (catTo (fun i => (kid i).conj) i).length + (kid i).conj.length ≤ c := by
  have h1 := sumTo_mono (f := fun i => (kid i).size) (i := i + 1) (n := n) hi
  have h2 : ∀ m, (catTo (fun i => (kid i).conj) m).length ≤ sumTo (fun i => (kid i).size) m := fun m => by
    induction m with
    | zero => exact Nat.le_refl _
    | succ m ih =>
      have := E.conj_le (kid m)
      simp only [catTo, sumTo, List.length_append]
      omega
  have h3 := h2 (i + 1)
  simp only [catTo, sumTo, List.length_append] at h1 h3
  simp only [E.size] at hs
  omega

theorem conj16_ok {N lim : Nat} {rd : RO} : ∀ (e : E) (h : AH), Hp N lim rd h → e.At rd → e.size ≤ 1000000 → Kp TT 16 [.agg ⟨e.cells⟩] h fun v h' => Own h' h.sz 8 v e.conj.length (exprsV e.conj)
  | .nil, h, _, he, _ => he.elim
  | .mk op tb nm ix vk vi vt sl n kid, h0, H, he, hb => by
    obtain ⟨_, _, hn, ⟨a, cap, rfl, _, _, hx⟩, hk⟩ := he
    have hreach : reachBytes < 2 ^ 47 := by decide
    refine Kp.of (fi := Tryz.fi16) rfl rfl rfl ?_
    refine WpB.seq (WpB.region ?_)
    refine SpB.box H rfl rfl rfl rfl rfl rfl fun h g s1 b1 => ?_
    have hle := H.le
    have H := g.hp H
    have l1 : h0.sz < h.sz := by omega
    clear g s1
    refine SpB.assign rfl rfl rfl rfl rfl (SpB.nil ?_)
    by_cases e0 : op = 0
    · subst e0
      have hc : (E.mk 0 tb nm ix vk vi vt (.slice a n cap) n kid).conj = [] := by simp [E.conj]
      rw [hc]
      repeat first | refine qN ?_ | refine qM rfl ?_ | refine qA rfl ?_ | refine qS rfl ?_ | refine qL H b1 rfl ?_ | refine qT rfl ?_ | refine qF rfl ?_ | refine qI i (by omega) rfl ?_ | refine qI io (by omega) rfl ?_ | refine qP rfl ?_ | refine wQ ?_ | refine wR ?_ | refine wD ?_ | refine wN rfl ?_ | refine wS ?_
      refine WpB.block ?_
      repeat' first | refine qN ?_ | refine qM rfl ?_ | refine qA rfl ?_ | refine qS rfl ?_ | refine qL H b1 rfl ?_ | refine qT rfl ?_ | refine qF rfl ?_ | refine qB rfl (fun ht => ?_) fun ht => ?_ | refine qI i (by omega) rfl ?_ | refine qI io (by omega) rfl ?_ | refine qP rfl ?_ | refine wQ ?_ | refine wR ?_ | refine wD ?_ | refine wN rfl ?_ | refine wS ?_ | refine wT rfl ?_ | refine wF rfl ?_ | refine WpB.cond rfl (fun ht => ?_) fun ht => ?_
      refine WpB.ret ⟨_, rfl, Own.nil _ _ _, Nat.le_refl _⟩
    by_cases e1 : op = 18
    · subst e1
      have hc : (E.mk 18 tb nm ix vk vi vt (.slice a n cap) n kid).conj = catTo (fun i => (kid i).conj) n := by simp [E.conj]
      repeat first | refine qN ?_ | refine qM rfl ?_ | refine qA rfl ?_ | refine qS rfl ?_ | refine qL H b1 rfl ?_ | refine qT rfl ?_ | refine qF rfl ?_ | refine qI i (by omega) rfl ?_ | refine qI io (by omega) rfl ?_ | refine qP rfl ?_ | refine wQ ?_ | refine wR ?_ | refine wD ?_ | refine wN rfl ?_ | refine wS ?_
      refine WpB.block ?_
      repeat' first | refine qN ?_ | refine qM rfl ?_ | refine qA rfl ?_ | refine qS rfl ?_ | refine qL H b1 rfl ?_ | refine qT rfl ?_ | refine qF rfl ?_ | refine qB rfl (fun ht => ?_) fun ht => ?_ | refine qI i (by omega) rfl ?_ | refine qI io (by omega) rfl ?_ | refine qP rfl ?_ | refine wQ ?_ | refine wR ?_ | refine wD ?_ | refine wN rfl ?_ | refine wS ?_ | refine wT rfl ?_ | refine wF rfl ?_ | refine WpB.cond rfl (fun ht => ?_) fun ht => ?_
      refine WpB.block ?_
      refine WpB.loopS (σ := Nat × Value) (fun s => n - s.1) (fun s => [(15, .int .i64 (s.1 : Int)), (14, .int .i64 (n : Int)), (13, .slice a n cap), (3, s.2)])
        (fun s h => Hp N lim rd h ∧ h0.sz < h.sz ∧ s.1 ≤ n ∧ Own h (h0.sz + 1) 8 s.2 (catTo (fun i => (kid i).conj) s.1).length (exprsV (catTo (fun i => (kid i).conj) s.1))) (0, .slice none 0 0)
        ⟨H, l1, Nat.zero_le _, Own.nil _ _ _⟩ (by repeat first | exact sub_nil | refine sub_cons rfl ?_) ?_
      rintro ⟨i, v⟩ h ⟨H, l1, hi, o1⟩
      simp only at hi o1
      repeat first | refine qN ?_ | refine qM rfl ?_ | refine qA rfl ?_ | refine qS rfl ?_ | refine qL H b1 rfl ?_ | refine qT rfl ?_ | refine qF rfl ?_ | refine qI i (by omega) rfl ?_ | refine qI io (by omega) rfl ?_ | refine qP rfl ?_ | refine wQ ?_ | refine wR ?_ | refine wD ?_ | refine wN rfl ?_ | refine wS ?_
      refine WpB.cond rfl (fun ht => ?_) fun ht => ?_
      · have hlt : i < n := by simpa using ht
        obtain ⟨hkid1, hkid⟩ := conj_kid hlt hb
        obtain ⟨b, off, rfl, hc'⟩ := hx i hlt
        cases hak' : kid i with
        | nil => exact absurd (hk i hlt) (by rw [hak']; exact id)
        | mk op2 tb2 nm2 ix2 vk2 vi2 vt2 sl2 n2 kid2 =>
          have hlk := conj_len (hk i hlt)
          have hcall := fun (h : AH) (H : Hp N lim rd h) => conj16_ok (kid i) h H (hk i hlt) (by omega)
          rw [hak'] at hc'
          simp only [hak'] at hcall
          refine WpB.skip ?_
          refine WpB.seq (WpB.block ?_)
          repeat first | refine WpB.seq ?_ | refine WpB.region ?_
          refine SpB.indexN hlt rfl rfl rfl rfl rfl rfl rfl rfl rfl ?_
          refine SpB.loadR H hc' rfl rfl rfl rfl rfl rfl rfl ?_
          refine SpB.alloc H rfl rfl rfl rfl rfl fun h2 g s2 b2 => ?_
          have H := g.hp H
          refine SpB.storeO H b2 (by omega) (by omega) rfl rfl rfl rfl rfl rfl rfl rfl rfl fun h3 g3 s3 b3 f3 => ?_
          have H := g3.hpL (by omega) H
          have o1 := o1.grow (g.trans g3) (by simp)
          repeat first | refine qN ?_ | refine qM rfl ?_ | refine qA rfl ?_ | refine qS rfl ?_ | refine qL H b1 rfl ?_ | refine qT rfl ?_ | refine qF rfl ?_ | refine qI i (by omega) rfl ?_ | refine qI io (by omega) rfl ?_ | refine qP rfl ?_ | refine wQ ?_ | refine wR ?_ | refine wD ?_ | refine wN rfl ?_ | refine wS ?_
          refine SpB.loadO H b3 rfl rfl rfl rfl rfl rfl ?_
          refine SpB.callK Tryz.T1OK H (by omega) (hcall h3 H) rfl rfl rfl rfl rfl ?_
          intro v2 h4 o2 g
          have H := g.hp H
          have l2 := g.le
          have o1 := o1.grow g (Nat.le_refl _)
          rw [← hak'] at o2
          refine SpB.append H o1 o2.src hlk (by omega) (by omega) (show _ * 104 ≤ _ by omega) rfl rfl rfl rfl rfl rfl rfl rfl rfl rfl rfl rfl rfl rfl ?_
          intro v3 h5 acc o3 g3
          have H := g3.hpL (by omega) H
          have l3 := g3.le
          repeat first | refine qN ?_ | refine qM rfl ?_ | refine qA rfl ?_ | refine qS rfl ?_ | refine qL H b1 rfl ?_ | refine qT rfl ?_ | refine qF rfl ?_ | refine qI i (by omega) rfl ?_ | refine qI io (by omega) rfl ?_ | refine qP rfl ?_ | refine wQ ?_ | refine wR ?_ | refine wD ?_ | refine wN rfl ?_ | refine wS ?_
          refine ⟨(i + 1, v3), by show n - (i + 1) < n - i; omega, (by repeat first | exact sub_nil | refine sub_cons rfl ?_), ⟨H, by omega, hlt, ?_⟩, rfl⟩
          show Own h5 (h0.sz + 1) 8 v3 (catTo (fun i => (kid i).conj) i ++ (kid i).conj).length (exprsV (catTo (fun i => (kid i).conj) i ++ (kid i).conj))
          rw [List.length_append, exprsV, List.flatMap_append]
          exact o3
      · refine WpB.exit ?_
        have : ¬ i < n := by simpa using ht
        obtain rfl : i = n := by omega
        repeat first | refine qN ?_ | refine qM rfl ?_ | refine qA rfl ?_ | refine qS rfl ?_ | refine qL H b1 rfl ?_ | refine qT rfl ?_ | refine qF rfl ?_ | refine qI i (by omega) rfl ?_ | refine qI io (by omega) rfl ?_ | refine qP rfl ?_ | refine wQ ?_ | refine wR ?_ | refine wD ?_ | refine wN rfl ?_ | refine wS ?_
        refine WpB.ret ⟨_, res1 rfl o1.one, ?_, Nat.le_refl _⟩
        rw [hc]
        exact o1.low (by omega)
    · have hc : (E.mk op tb nm ix vk vi vt (.slice a n cap) n kid).conj = [.mk op tb nm ix vk vi vt (.slice a n cap) n kid] := by simp [E.conj, e0, e1]
      rw [hc]
      repeat first | refine qN ?_ | refine qM rfl ?_ | refine qA rfl ?_ | refine qS rfl ?_ | refine qL H b1 rfl ?_ | refine qT rfl ?_ | refine qF rfl ?_ | refine qI i (by omega) rfl ?_ | refine qI io (by omega) rfl ?_ | refine qP rfl ?_ | refine wQ ?_ | refine wR ?_ | refine wD ?_ | refine wN rfl ?_ | refine wS ?_
      refine WpB.block ?_
      repeat first | refine WpB.seq ?_ | refine WpB.region ?_
      refine SpB.boolF (by simp [e0]) rfl rfl rfl rfl rfl ?_
      repeat first | refine qN ?_ | refine qM rfl ?_ | refine qA rfl ?_ | refine qS rfl ?_ | refine qL H b1 rfl ?_ | refine qT rfl ?_ | refine qF rfl ?_ | refine qI i (by omega) rfl ?_ | refine qI io (by omega) rfl ?_ | refine qP rfl ?_ | refine wQ ?_ | refine wR ?_ | refine wD ?_ | refine wN rfl ?_ | refine wS ?_
      refine WpB.condF rfl ?_
      repeat first | refine WpB.seq ?_ | refine WpB.region ?_
      refine SpB.boolF (by simp [e1]) rfl rfl rfl rfl rfl ?_
      repeat' first | refine qN ?_ | refine qM rfl ?_ | refine qA rfl ?_ | refine qS rfl ?_ | refine qL H b1 rfl ?_ | refine qT rfl ?_ | refine qF rfl ?_ | refine qB rfl (fun ht => ?_) fun ht => ?_ | refine qI i (by omega) rfl ?_ | refine qI io (by omega) rfl ?_ | refine qP rfl ?_ | refine wQ ?_ | refine wR ?_ | refine wD ?_ | refine wN rfl ?_ | refine wS ?_ | refine wT rfl ?_ | refine wF rfl ?_ | refine WpB.cond rfl (fun ht => ?_) fun ht => ?_
      refine SpB.newS H rfl rfl rfl rfl rfl fun h' g s2 b2 => ?_
      repeat first | refine qN ?_ | refine qM rfl ?_ | refine qA rfl ?_ | refine qS rfl ?_ | refine qL H b1 rfl ?_ | refine qT rfl ?_ | refine qF rfl ?_ | refine qI i (by omega) rfl ?_ | refine qI io (by omega) rfl ?_ | refine qP rfl ?_ | refine wQ ?_ | refine wR ?_ | refine wD ?_ | refine wN rfl ?_ | refine wS ?_
      refine WpB.ret ⟨_, rfl, .inr ⟨h.sz, 1, by omega, by omega, by rw [g.n, H.n]; rfl, b2, rfl, .inr ⟨rfl, by show 1 < unk; decide⟩⟩, Nat.le_refl _⟩

theorem conj17_ok {N lim : Nat} {rd : RO} : ∀ (e : E) (h : AH), Hp N lim rd h → e.At rd → e.pairs → e.size ≤ 1000000 → Kp TT 17 [.agg ⟨e.cells⟩] h fun v h' => Own h' h.sz 8 v e.conj.length (exprsV e.conj)
  | .nil, h, _, he, _, _ => he.elim
  | .mk op tb nm ix vk vi vt sl n kid, h0, H, he, hp, hb => by
    obtain ⟨_, _, hn, ⟨a, cap, rfl, _, _, hx⟩, hk⟩ := he
    obtain ⟨hp1, hp2⟩ := hp
    have hreach : reachBytes < 2 ^ 47 := by decide
    refine Kp.of (fi := Tryz.fi17) rfl rfl rfl ?_
    refine WpB.seq (WpB.region ?_)
    refine SpB.box H rfl rfl rfl rfl rfl rfl fun h g s1 b1 => ?_
    have hle := H.le
    have H := g.hp H
    have l1 : h0.sz < h.sz := by omega
    clear g s1
    refine SpB.assign rfl rfl rfl rfl rfl (SpB.nil ?_)
    by_cases e0 : op = 0
    · subst e0
      have hc : (E.mk 0 tb nm ix vk vi vt (.slice a n cap) n kid).conj = [] := by simp [E.conj]
      rw [hc]
      repeat' first | refine qN ?_ | refine qM rfl ?_ | refine qA rfl ?_ | refine qS rfl ?_ | refine qL H b1 rfl ?_ | refine qT rfl ?_ | refine qF rfl ?_ | refine qB rfl (fun ht => ?_) fun ht => ?_ | refine qI i (by omega) rfl ?_ | refine qI io (by omega) rfl ?_ | refine qP rfl ?_ | refine wQ ?_ | refine wR ?_ | refine wD ?_ | refine wN rfl ?_ | refine wS ?_ | refine wT rfl ?_ | refine wF rfl ?_ | refine WpB.cond rfl (fun ht => ?_) fun ht => ?_
      refine WpB.ret ⟨_, rfl, Own.nil _ _ _, Nat.le_refl _⟩
    by_cases e1 : op = 18
    · obtain rfl := hp1 e1
      subst e1
      have hc : (E.mk 18 tb nm ix vk vi vt (.slice a 2 cap) 2 kid).conj = catTo (fun i => (kid i).conj) 2 := by simp [E.conj]
      obtain ⟨k0, m0⟩ := conj_kid (i := 0) (by omega) hb
      obtain ⟨k1, m1⟩ := conj_kid (i := 1) (by omega) hb
      obtain ⟨b, off, rfl, hc0⟩ := hx 0 (by omega)
      obtain ⟨_, _, ha1, hc1⟩ := hx 1 (by omega)
      injection ha1 with ha1
      injection ha1 with ha1 ha2
      subst ha1 ha2
      repeat' first | refine qN ?_ | refine qM rfl ?_ | refine qA rfl ?_ | refine qS rfl ?_ | refine qL H b1 rfl ?_ | refine qT rfl ?_ | refine qF rfl ?_ | refine qB rfl (fun ht => ?_) fun ht => ?_ | refine qI i (by omega) rfl ?_ | refine qI io (by omega) rfl ?_ | refine qP rfl ?_ | refine wQ ?_ | refine wR ?_ | refine wD ?_ | refine wN rfl ?_ | refine wS ?_ | refine wT rfl ?_ | refine wF rfl ?_ | refine WpB.cond rfl (fun ht => ?_) fun ht => ?_
      refine SpB.newS H rfl rfl rfl rfl rfl fun h2 g s2 b2 => ?_
      have l2 : h.sz < h2.sz := by omega
      have l0 := l1
      have H := g.hp H
      have b1 := g.keep l1 b1
      have l1 := g.lt l1
      repeat first | refine qN ?_ | refine qM rfl ?_ | refine qA rfl ?_ | refine qS rfl ?_ | refine qL H b1 rfl ?_ | refine qT rfl ?_ | refine qF rfl ?_ | refine qI i (by omega) rfl ?_ | refine qI io (by omega) rfl ?_ | refine qP rfl ?_ | refine wQ ?_ | refine wR ?_ | refine wD ?_ | refine wN rfl ?_ | refine wS ?_
      refine SpB.loadR H hc0 rfl rfl rfl rfl rfl rfl rfl ?_
      refine SpB.callK Tryz.T1OK H (by omega) (conj17_ok (kid 0) h2 H (hk 0 (by omega)) (hp2 0 (by omega)) (by omega)) rfl rfl rfl rfl rfl ?_
      intro v3 h3 o3 g
      have H := g.hp H
      have b1 := g.keep l1 b1
      have l1 := g.lt l1
      have b2 := g.keep l2 b2
      have l2 := g.lt l2
      refine SpB.appendX (st := 28) (xt := 28) (lo := h0.sz + 1) (k := h.sz) H (by omega) l2 b2 rfl (by decide) o3.src (conj_len (hk 0 (by omega))) (by omega) (by omega) (show (0 + (kid 0).conj.length) * 104 ≤ 70368744177664 by omega) rfl rfl rfl rfl rfl rfl rfl rfl rfl rfl rfl rfl rfl rfl ?_
      intro v4 h4 rd4 o4 g4
      have H := g4.hp H
      have b1 := g4.keep l1 b1
      have l4 := g4.le
      repeat first | refine qN ?_ | refine qM rfl ?_ | refine qA rfl ?_ | refine qS rfl ?_ | refine qL H b1 rfl ?_ | refine qT rfl ?_ | refine qF rfl ?_ | refine qI i (by omega) rfl ?_ | refine qI io (by omega) rfl ?_ | refine qP rfl ?_ | refine wQ ?_ | refine wR ?_ | refine wD ?_ | refine wN rfl ?_ | refine wS ?_
      refine SpB.loadR H hc1 rfl rfl rfl rfl rfl rfl rfl ?_
      refine SpB.callK Tryz.T1OK H (by omega) (conj17_ok (kid 1) h4 H (hk 1 (by omega)) (hp2 1 (by omega)) (by omega)) rfl rfl rfl rfl rfl ?_
      intro v5 h5 o5 g
      have H := g.hp H
      have l5 := g.le
      have o4 := o4.grow g (Nat.le_refl _)
      refine SpB.append (st := 28) (xt := 28) H o4 o5.src (conj_len (hk 1 (by omega))) (by omega) (by omega) (show (0 + (kid 0).conj.length + (kid 1).conj.length) * 104 ≤ 70368744177664 by simp only [catTo, List.length_append, List.length_nil] at m1; omega) rfl rfl rfl rfl rfl rfl rfl rfl rfl rfl rfl rfl rfl rfl ?_
      intro v6 h6 acc6 o6 g6
      repeat first | refine SpB.nil ?_ | refine SpB.assign rfl rfl rfl rfl rfl ?_
      refine draw_intro (ws := [false, false, false, false, false, false, false, false, false, false, false, false, true, false]) (by repeat first | exact quiets.nil | refine quiets.q rfl (fun h => by cases h) ?_ | refine quiets.w ?_) (by kernel_rfl) ?_
      refine WpB.ret ⟨_, res1 rfl o6.one, ?_, Nat.le_refl _⟩
      rw [hc]
      show Own h6 h0.sz 8 v6 (([] ++ (kid 0).conj) ++ (kid 1).conj).length (exprsV (([] ++ (kid 0).conj) ++ (kid 1).conj))
      rw [List.nil_append, List.length_append, exprsV, List.flatMap_append]
      have o6 := o6.low (lo' := h0.sz) (by omega)
      simpa [exprsV, reps] using o6
    · have hc : (E.mk op tb nm ix vk vi vt (.slice a n cap) n kid).conj = [.mk op tb nm ix vk vi vt (.slice a n cap) n kid] := by simp [E.conj, e0, e1]
      rw [hc]
      repeat first | refine qN ?_ | refine qM rfl ?_ | refine qA rfl ?_ | refine qS rfl ?_ | refine qL H b1 rfl ?_ | refine qT rfl ?_ | refine qF rfl ?_ | refine qI i (by omega) rfl ?_ | refine qI io (by omega) rfl ?_ | refine qP rfl ?_ | refine wQ ?_ | refine wR ?_ | refine wD ?_ | refine wN rfl ?_ | refine wS ?_
      refine WpB.cond rfl (fun ht => by simp at ht; exact absurd ht e0) fun _ => ?_
      repeat first | refine qN ?_ | refine qM rfl ?_ | refine qA rfl ?_ | refine qS rfl ?_ | refine qL H b1 rfl ?_ | refine qT rfl ?_ | refine qF rfl ?_ | refine qI i (by omega) rfl ?_ | refine qI io (by omega) rfl ?_ | refine qP rfl ?_ | refine wQ ?_ | refine wR ?_ | refine wD ?_ | refine wN rfl ?_ | refine wS ?_
      refine WpB.cond rfl (fun ht => ?_) fun ht => by simp at ht; exact absurd ht e1
      repeat first | refine qN ?_ | refine qM rfl ?_ | refine qA rfl ?_ | refine qS rfl ?_ | refine qL H b1 rfl ?_ | refine qT rfl ?_ | refine qF rfl ?_ | refine qI i (by omega) rfl ?_ | refine qI io (by omega) rfl ?_ | refine qP rfl ?_ | refine wQ ?_ | refine wR ?_ | refine wD ?_ | refine wN rfl ?_ | refine wS ?_
      refine SpB.newS H rfl rfl rfl rfl rfl fun h' g s2 b2 => ?_
      repeat first | refine qN ?_ | refine qM rfl ?_ | refine qA rfl ?_ | refine qS rfl ?_ | refine qL H b1 rfl ?_ | refine qT rfl ?_ | refine qF rfl ?_ | refine qI i (by omega) rfl ?_ | refine qI io (by omega) rfl ?_ | refine qP rfl ?_ | refine wQ ?_ | refine wR ?_ | refine wD ?_ | refine wN rfl ?_ | refine wS ?_
      refine WpB.ret ⟨_, rfl, .inr ⟨h.sz, 1, by omega, by omega, by rw [g.n, H.n]; rfl, b2, rfl, .inr ⟨rfl, by show 1 < unk; decide⟩⟩, Nat.le_refl _⟩

end Go.Proofs.YtkjkcoemloakhaaGreat
end

section
set_option linter.unusedVariables false
namespace Go.Proofs.YtkjkcoemloakhaaGreat
open Go Go.Vae
set_option maxRecDepth 100000

def anyB : Value → AH → Prop := fun v _ => ∃ b, v = .bool b

theorem fine_ok {N lim : Nat} {rd : RO} : ∀ (e : E) (h : AH) (d : Nat), Hp N lim rd h → e.At rd → d ≤ 1000 → Kp TT 87 [.agg ⟨e.cells⟩, .int .i64 (d : Int)] h anyB
  | .nil, h, _, _, he, _ => he.elim
  | .mk op tb nm ix vk vi vt sl n kid, h0, d, H, he, hd => by
    obtain ⟨_, ⟨ht1, ht2, ht3⟩, hn, ⟨a, cap, rfl, _, _, hx⟩, hk⟩ := he
    have hreach : reachBytes < 2 ^ 47 := by decide
    refine Kp.of (fi := Tryz.fi87) rfl rfl rfl ?_
    refine WpB.seq (WpB.region ?_)
    refine SpB.box H rfl rfl rfl rfl rfl rfl fun h g s1 b1 => ?_
    have hle := H.le
    have H := g.hp H
    have l1 : h0.sz < h.sz := by omega
    clear g s1
    refine SpB.assign rfl rfl rfl rfl rfl (SpB.nil ?_)
    have hb : ∀ b, (∃ b', Value.bool b = .bool b') ∧ h0.sz ≤ h0.sz := fun b => ⟨⟨b, rfl⟩, Nat.le_refl _⟩
    refine WpB.cut [(2, .pointer (some ⟨N + h0.sz, 0, none⟩)), (1, .int .i64 (d : Int))] (fun h' => h' = h ∧ d ≠ 0) ?_ ?_
    · repeat first | refine qN ?_ | refine qM rfl ?_ | refine qA rfl ?_ | refine qS rfl ?_ | refine qL H b1 rfl ?_ | refine qT rfl ?_ | refine qF rfl ?_ | refine qI i (by omega) rfl ?_ | refine qI io (by omega) rfl ?_ | refine qP rfl ?_ | refine wQ ?_ | refine wR ?_ | refine wD ?_ | refine wN rfl ?_ | refine wS ?_
      refine qB rfl (fun c1 => ?_) fun c1 => ?_
      · repeat' first | refine qN ?_ | refine qM rfl ?_ | refine qA rfl ?_ | refine qS rfl ?_ | refine qL H b1 rfl ?_ | refine qT rfl ?_ | refine qF rfl ?_ | refine qB rfl (fun ht => ?_) fun ht => ?_ | refine qI i (by omega) rfl ?_ | refine qI io (by omega) rfl ?_ | refine qP rfl ?_ | refine wQ ?_ | refine wR ?_ | refine wD ?_ | refine wN rfl ?_ | refine wS ?_ | refine wT rfl ?_ | refine wF rfl ?_ | refine WpB.cond rfl (fun ht => ?_) fun ht => ?_
        exact WpB.ret ⟨_, rfl, hb _⟩
      have c1 : d ≠ 0 := by simpa using c1
      repeat first | refine qN ?_ | refine qM rfl ?_ | refine qA rfl ?_ | refine qS rfl ?_ | refine qL H b1 rfl ?_ | refine qT rfl ?_ | refine qF rfl ?_ | refine qI i (by omega) rfl ?_ | refine qI io (by omega) rfl ?_ | refine qP rfl ?_ | refine wQ ?_ | refine wR ?_ | refine wD ?_ | refine wN rfl ?_ | refine wS ?_
      refine qB rfl (fun c2 => ?_) fun c2 => ?_
      · repeat' first | refine qN ?_ | refine qM rfl ?_ | refine qA rfl ?_ | refine qS rfl ?_ | refine qL H b1 rfl ?_ | refine qT rfl ?_ | refine qF rfl ?_ | refine qB rfl (fun ht => ?_) fun ht => ?_ | refine qI i (by omega) rfl ?_ | refine qI io (by omega) rfl ?_ | refine qP rfl ?_ | refine wQ ?_ | refine wR ?_ | refine wD ?_ | refine wN rfl ?_ | refine wS ?_ | refine wT rfl ?_ | refine wF rfl ?_ | refine WpB.cond rfl (fun ht => ?_) fun ht => ?_
        exact WpB.ret ⟨_, rfl, hb _⟩
      repeat first | refine qN ?_ | refine qM rfl ?_ | refine qA rfl ?_ | refine qS rfl ?_ | refine qL H b1 rfl ?_ | refine qT rfl ?_ | refine qF rfl ?_ | refine qI i (by omega) rfl ?_ | refine qI io (by omega) rfl ?_ | refine qP rfl ?_ | refine wQ ?_ | refine wR ?_ | refine wD ?_ | refine wN rfl ?_ | refine wS ?_
      refine WpB.cond rfl (fun ht => ?_) fun ht => ?_
      · repeat' first | refine qN ?_ | refine qM rfl ?_ | refine qA rfl ?_ | refine qS rfl ?_ | refine qL H b1 rfl ?_ | refine qT rfl ?_ | refine qF rfl ?_ | refine qB rfl (fun ht => ?_) fun ht => ?_ | refine qI i (by omega) rfl ?_ | refine qI io (by omega) rfl ?_ | refine qP rfl ?_ | refine wQ ?_ | refine wR ?_ | refine wD ?_ | refine wN rfl ?_ | refine wS ?_ | refine wT rfl ?_ | refine wF rfl ?_ | refine WpB.cond rfl (fun ht => ?_) fun ht => ?_
        exact WpB.ret ⟨_, rfl, hb _⟩
      · refine WpB.skip ?_
        exact ⟨(by repeat first | exact sub_nil | refine sub_cons rfl ?_), ⟨rfl, c1⟩, rfl⟩
    · rintro _ ⟨rfl, c1⟩
      repeat first | refine qN ?_ | refine qM rfl ?_ | refine qA rfl ?_ | refine qS rfl ?_ | refine qL H b1 rfl ?_ | refine qT rfl ?_ | refine qF rfl ?_ | refine qI i (by omega) rfl ?_ | refine qI io (by omega) rfl ?_ | refine qP rfl ?_ | refine wQ ?_ | refine wR ?_ | refine wD ?_ | refine wN rfl ?_ | refine wS ?_
      refine WpB.block ?_
      refine WpB.loopC n (fun i => [(5, .int .i64 (i : Int)), (2, .pointer (some ⟨N + h0.sz, 0, none⟩)), (1, .int .i64 (d : Int))]) (fun i h => Hp N lim rd h ∧ h.blk h0.sz = some (.cells (E.mk op tb nm ix vk vi vt (.slice a n cap) n kid).cells) ∧ h0.sz < h.sz)
        ⟨H, b1, l1⟩ (by repeat first | exact sub_nil | refine sub_cons rfl ?_) ?_
      rintro i h hi ⟨H, b1, l1⟩
      repeat first | refine qN ?_ | refine qM rfl ?_ | refine qA rfl ?_ | refine qS rfl ?_ | refine qL H b1 rfl ?_ | refine qT rfl ?_ | refine qF rfl ?_ | refine qI i (by omega) rfl ?_ | refine qI io (by omega) rfl ?_ | refine qP rfl ?_ | refine wQ ?_ | refine wR ?_ | refine wD ?_ | refine wN rfl ?_ | refine wS ?_
      refine WpB.cond rfl (fun ht => ?_) fun ht => ?_
      · have hlt : i < n := by simpa using ht
        obtain ⟨b, off, rfl, hc⟩ := hx i hlt
        refine WpB.skip ?_
        refine WpB.seq (WpB.block ?_)
        repeat first | refine qN ?_ | refine qM rfl ?_ | refine qA rfl ?_ | refine qS rfl ?_ | refine qL H b1 rfl ?_ | refine qT rfl ?_ | refine qF rfl ?_ | refine qI i (by omega) rfl ?_ | refine qI io (by omega) rfl ?_ | refine qP rfl ?_ | refine wQ ?_ | refine wR ?_ | refine wD ?_ | refine wN rfl ?_ | refine wS ?_
        refine SpB.indexN hlt rfl rfl rfl rfl rfl rfl rfl rfl rfl ?_
        refine SpB.loadR H hc rfl rfl rfl rfl rfl rfl rfl ?_
        repeat first | refine qN ?_ | refine qM rfl ?_ | refine qA rfl ?_ | refine qS rfl ?_ | refine qL H b1 rfl ?_ | refine qT rfl ?_ | refine qF rfl ?_ | refine qI i (by omega) rfl ?_ | refine qI io (by omega) rfl ?_ | refine qP rfl ?_ | refine wQ ?_ | refine wR ?_ | refine wD ?_ | refine wN rfl ?_ | refine wS ?_
        have w3 : IntKind.i64.wrap ((d : Int) - 1) = ((d - 1 : Nat) : Int) := by rw [wrap_small (by omega) (by omega)]; omega
        have hcall := fine_ok (kid i) h (d - 1) H (hk i hlt) (by omega)
        rw [← w3] at hcall
        refine SpB.callK Tryz.T1OK H (by omega) hcall rfl rfl rfl rfl rfl ?_
        rintro v h ⟨r, rfl⟩ g
        have H := g.hp H
        have b1 := g.keep l1 b1
        have l1 := g.lt l1
        repeat first | refine qN ?_ | refine qM rfl ?_ | refine qA rfl ?_ | refine qS rfl ?_ | refine qL H b1 rfl ?_ | refine qT rfl ?_ | refine qF rfl ?_ | refine qI i (by omega) rfl ?_ | refine qI io (by omega) rfl ?_ | refine qP rfl ?_ | refine wQ ?_ | refine wR ?_ | refine wD ?_ | refine wN rfl ?_ | refine wS ?_
        refine WpB.cond rfl (fun ht2 => ?_) fun ht2 => ?_
        · repeat first | refine qN ?_ | refine qM rfl ?_ | refine qA rfl ?_ | refine qS rfl ?_ | refine qL H b1 rfl ?_ | refine qT rfl ?_ | refine qF rfl ?_ | refine qI i (by omega) rfl ?_ | refine qI io (by omega) rfl ?_ | refine qP rfl ?_ | refine wQ ?_ | refine wR ?_ | refine wD ?_ | refine wN rfl ?_ | refine wS ?_
          exact WpB.ret ⟨_, rfl, hb _⟩
        · repeat first | refine qN ?_ | refine qM rfl ?_ | refine qA rfl ?_ | refine qS rfl ?_ | refine qL H b1 rfl ?_ | refine qT rfl ?_ | refine qF rfl ?_ | refine qI i (by omega) rfl ?_ | refine qI io (by omega) rfl ?_ | refine qP rfl ?_ | refine wQ ?_ | refine wR ?_ | refine wD ?_ | refine wN rfl ?_ | refine wS ?_
          exact ⟨hlt, (by repeat first | exact sub_nil | refine sub_cons rfl ?_), ⟨H, b1, l1⟩, rfl⟩
      · refine WpB.exit ?_
        repeat first | refine qN ?_ | refine qM rfl ?_ | refine qA rfl ?_ | refine qS rfl ?_ | refine qL H b1 rfl ?_ | refine qT rfl ?_ | refine qF rfl ?_ | refine qI i (by omega) rfl ?_ | refine qI io (by omega) rfl ?_ | refine qP rfl ?_ | refine wQ ?_ | refine wR ?_ | refine wD ?_ | refine wN rfl ?_ | refine wS ?_
        exact WpB.ret ⟨_, rfl, hb _⟩

theorem few51_ok {N lim : Nat} {rd : RO} (n : Nat) (h0 : AH) (H : Hp N lim rd h0) : Kp TT 51 [.int .i64 (n : Int), .slice none 0 0] h0 fun v _ => ∃ b, v = .bool b ∧ (b = true → n ≤ 20) := by
  have b1 : True := trivial
  refine Kp.of (fi := Tryz.fi51) rfl rfl rfl ?_
  repeat first | refine qN ?_ | refine qM rfl ?_ | refine qA rfl ?_ | refine qS rfl ?_ | refine qL H b1 rfl ?_ | refine qT rfl ?_ | refine qF rfl ?_ | refine qI i (by omega) rfl ?_ | refine qI io (by omega) rfl ?_ | refine qP rfl ?_ | refine wQ ?_ | refine wR ?_ | refine wD ?_ | refine wN rfl ?_ | refine wS ?_
  refine WpB.block ?_
  refine WpB.loopC 0 (fun i => [(5, .int .i64 (i : Int)), (0, .int .i64 (n : Int)), (1, .slice none 0 0)]) (fun i h => h = h0) rfl (by repeat first | exact sub_nil | refine sub_cons rfl ?_) ?_
  rintro i h hi rfl
  obtain rfl : i = 0 := by omega
  repeat first | refine qN ?_ | refine qM rfl ?_ | refine qA rfl ?_ | refine qS rfl ?_ | refine qL H b1 rfl ?_ | refine qT rfl ?_ | refine qF rfl ?_ | refine qI i (by omega) rfl ?_ | refine qI io (by omega) rfl ?_ | refine qP rfl ?_ | refine wQ ?_ | refine wR ?_ | refine wD ?_ | refine wN rfl ?_ | refine wS ?_
  refine WpB.condF rfl ?_
  refine WpB.exit ?_
  repeat first | refine qN ?_ | refine qM rfl ?_ | refine qA rfl ?_ | refine qS rfl ?_ | refine qL H b1 rfl ?_ | refine qT rfl ?_ | refine qF rfl ?_ | refine qI i (by omega) rfl ?_ | refine qI io (by omega) rfl ?_ | refine qP rfl ?_ | refine wQ ?_ | refine wR ?_ | refine wD ?_ | refine wN rfl ?_ | refine wS ?_
  refine qB rfl (fun c1 => ?_) fun c1 => ?_
  · have c1 : n ≤ 20 := by simp at c1; omega
    repeat first | refine qN ?_ | refine qM rfl ?_ | refine qA rfl ?_ | refine qS rfl ?_ | refine qL H b1 rfl ?_ | refine qT rfl ?_ | refine qF rfl ?_ | refine qI i (by omega) rfl ?_ | refine qI io (by omega) rfl ?_ | refine qP rfl ?_ | refine wQ ?_ | refine wR ?_ | refine wD ?_ | refine wN rfl ?_ | refine wS ?_
    exact WpB.ret ⟨_, rfl, ⟨_, rfl, fun _ => c1⟩, Nat.le_refl _⟩
  · repeat first | refine qN ?_ | refine qM rfl ?_ | refine qA rfl ?_ | refine qS rfl ?_ | refine qL H b1 rfl ?_ | refine qT rfl ?_ | refine qF rfl ?_ | refine qI i (by omega) rfl ?_ | refine qI io (by omega) rfl ?_ | refine qP rfl ?_ | refine wQ ?_ | refine wR ?_ | refine wD ?_ | refine wN rfl ?_ | refine wS ?_
    exact WpB.ret ⟨_, rfl, ⟨_, rfl, fun h => by cases h⟩, Nat.le_refl _⟩

theorem smallOne_ok {N lim : Nat} {rd : RO} (nm : ByteArray) (cols : Sl Col) (chk : Sl E) (r0 : Value) (rest : List Value) (h0 : AH) (k : Nat) (H : Hp N lim rd h0) (hk : k < h0.sz) (hb : h0.blk k = some (.cells (.int .i64 0 :: .string nm :: cols.v :: .slice none 0 0 :: .slice none 0 0 :: chk.v :: r0 :: rest)))
    (hcols : cols.At rd 6 Col.cells Col.ok) (hchk : chk.At rd 8 E.cells (E.At rd)) : Kp TT 50 [.slice (some ⟨N + k, 0, none⟩) 1 1] h0 fun v _ => ∃ b, v = .bool b ∧ (b = true → cols.n ≤ 20) := by
  obtain ⟨cv, cn, cx⟩ := cols
  obtain ⟨ev, en, ex⟩ := chk
  obtain ⟨hn1, ⟨ca, ccap, hcv, _, _, hcx⟩, hco⟩ := hcols
  obtain ⟨hn2, ⟨ea, ecap, hev, _, _, hex⟩, heo⟩ := hchk
  simp only at hcv hev hcx hex hco heo hn1 hn2
  subst hcv hev
  simp only at hb
  have hreach : reachBytes < 2 ^ 47 := by decide
  have hle := H.le
  have b1 := hb
  refine Kp.of (fi := Tryz.fi50) rfl rfl rfl ?_
  have hB : ∀ b, b = false → (∃ b', Value.bool b = .bool b' ∧ (b' = true → cn ≤ 20)) ∧ h0.sz ≤ h0.sz := fun b hb => ⟨⟨b, rfl, fun h => by rw [hb] at h; cases h⟩, Nat.le_refl _⟩
  repeat first | refine qN ?_ | refine qM rfl ?_ | refine qA rfl ?_ | refine qS rfl ?_ | refine qL H b1 rfl ?_ | refine qT rfl ?_ | refine qF rfl ?_ | refine qI i (by omega) rfl ?_ | refine qI io (by omega) rfl ?_ | refine qP rfl ?_ | refine wQ ?_ | refine wR ?_ | refine wD ?_ | refine wN rfl ?_ | refine wS ?_
  refine WpB.block ?_
  refine WpB.loopC 1 (fun i => [(3, .int .i64 (i : Int)), (0, .slice (some ⟨N + k, 0, none⟩) 1 1)]) (fun i h => Hp N lim rd h ∧ Grow h0 h0.sz h ∧ (i = 1 → cn ≤ 20)) ⟨H, Grow.refl H.wf _, fun h => by cases h⟩ (by repeat first | exact sub_nil | refine sub_cons rfl ?_) ?_
  rintro i h hi ⟨H, g0, hj⟩
  have b1 := g0.keep hk hb
  have l1 := g0.lt hk
  have l0 := g0.le
  repeat first | refine qN ?_ | refine qM rfl ?_ | refine qA rfl ?_ | refine qS rfl ?_ | refine qL H b1 rfl ?_ | refine qT rfl ?_ | refine qF rfl ?_ | refine qI i (by omega) rfl ?_ | refine qI io (by omega) rfl ?_ | refine qP rfl ?_ | refine wQ ?_ | refine wR ?_ | refine wD ?_ | refine wN rfl ?_ | refine wS ?_
  refine WpB.cond rfl (fun ht => ?_) fun ht => ?_
  · obtain rfl : i = 0 := by simp at ht; omega
    refine WpB.skip ?_
    refine WpB.seq (WpB.block ?_)
    repeat first | refine qN ?_ | refine qM rfl ?_ | refine qA rfl ?_ | refine qS rfl ?_ | refine qL H b1 rfl ?_ | refine qT rfl ?_ | refine qF rfl ?_ | refine qI i (by omega) rfl ?_ | refine qI io (by omega) rfl ?_ | refine qP rfl ?_ | refine wQ ?_ | refine wR ?_ | refine wD ?_ | refine wN rfl ?_ | refine wS ?_
    refine SpB.alloc H rfl rfl rfl rfl rfl fun h2 g s2 b2 => ?_
    have H := g.hp H
    have b1 := g.keep l1 b1
    have g0 := g0.trans g
    rw [show Nat.min h0.sz h.sz = h0.sz from Nat.min_eq_left l0] at g0
    refine SpB.storeO H b2 (by omega) (by omega) rfl rfl rfl rfl rfl rfl rfl rfl rfl fun h3 g3 s3 b3 f3 => ?_
    have H := g3.hpL (by omega) H
    have b2 := b3
    have b1 := (f3 k (by omega)).trans b1
    have l2 : h.sz < h3.sz := by omega
    have l1 : k < h3.sz := by omega
    have g0 := g0.trans g3
    rw [show Nat.min h0.sz h.sz = h0.sz from Nat.min_eq_left l0] at g0
    clear g g3 s2 s3 b3 f3
    repeat first | refine qN ?_ | refine qM rfl ?_ | refine qA rfl ?_ | refine qS rfl ?_ | refine qL H b1 rfl ?_ | refine qL H b2 rfl ?_ | refine qT rfl ?_ | refine qF rfl ?_ | refine qI i (by omega) rfl ?_ | refine qI io (by omega) rfl ?_ | refine qP rfl ?_ | refine wQ ?_ | refine wR ?_ | refine wD ?_ | refine wN rfl ?_ | refine wS ?_
    repeat first | refine qN ?_ | refine qM rfl ?_ | refine qA rfl ?_ | refine qS rfl ?_ | refine qL H b1 rfl ?_ | refine qL H b2 rfl ?_ | refine qT rfl ?_ | refine qF rfl ?_ | refine qI i (by omega) rfl ?_ | refine qI io (by omega) rfl ?_ | refine qP rfl ?_ | refine wQ ?_ | refine wR ?_ | refine wD ?_ | refine wN rfl ?_ | refine wS ?_
    refine qB rfl (fun c1 => ?_) fun c1 => ?_
    · repeat' first | refine qN ?_ | refine qM rfl ?_ | refine qA rfl ?_ | refine qS rfl ?_ | refine qL H b1 rfl ?_ | refine qL H b2 rfl ?_ | refine qT rfl ?_ | refine qF rfl ?_ | refine qB rfl (fun ht => ?_) fun ht => ?_ | refine qI i (by omega) rfl ?_ | refine qI io (by omega) rfl ?_ | refine qP rfl ?_ | refine wQ ?_ | refine wR ?_ | refine wD ?_ | refine wN rfl ?_ | refine wS ?_ | refine wT rfl ?_ | refine wF rfl ?_ | refine WpB.cond rfl (fun ht => ?_) fun ht => ?_
      exact WpB.ret ⟨_, rfl, hB _ rfl⟩
    repeat first | refine qN ?_ | refine qM rfl ?_ | refine qA rfl ?_ | refine qS rfl ?_ | refine qL H b1 rfl ?_ | refine qL H b2 rfl ?_ | refine qT rfl ?_ | refine qF rfl ?_ | refine qI i (by omega) rfl ?_ | refine qI io (by omega) rfl ?_ | refine qP rfl ?_ | refine wQ ?_ | refine wR ?_ | refine wD ?_ | refine wN rfl ?_ | refine wS ?_
    refine qB rfl (fun c2 => ?_) fun c2 => ?_
    · repeat' first | refine qN ?_ | refine qM rfl ?_ | refine qA rfl ?_ | refine qS rfl ?_ | refine qL H b1 rfl ?_ | refine qL H b2 rfl ?_ | refine qT rfl ?_ | refine qF rfl ?_ | refine qB rfl (fun ht => ?_) fun ht => ?_ | refine qI i (by omega) rfl ?_ | refine qI io (by omega) rfl ?_ | refine qP rfl ?_ | refine wQ ?_ | refine wR ?_ | refine wD ?_ | refine wN rfl ?_ | refine wS ?_ | refine wT rfl ?_ | refine wF rfl ?_ | refine WpB.cond rfl (fun ht => ?_) fun ht => ?_
      exact WpB.ret ⟨_, rfl, hB _ rfl⟩
    have c2 : cn ≤ 20 := by simp at c2; omega
    repeat first | refine qN ?_ | refine qM rfl ?_ | refine qA rfl ?_ | refine qS rfl ?_ | refine qL H b1 rfl ?_ | refine qL H b2 rfl ?_ | refine qT rfl ?_ | refine qF rfl ?_ | refine qI i (by omega) rfl ?_ | refine qI io (by omega) rfl ?_ | refine qP rfl ?_ | refine wQ ?_ | refine wR ?_ | refine wD ?_ | refine wN rfl ?_ | refine wS ?_
    refine WpB.cond rfl (fun ht2 => ?_) fun ht2 => ?_
    · repeat' first | refine qN ?_ | refine qM rfl ?_ | refine qA rfl ?_ | refine qS rfl ?_ | refine qL H b1 rfl ?_ | refine qL H b2 rfl ?_ | refine qT rfl ?_ | refine qF rfl ?_ | refine qB rfl (fun ht => ?_) fun ht => ?_ | refine qI i (by omega) rfl ?_ | refine qI io (by omega) rfl ?_ | refine qP rfl ?_ | refine wQ ?_ | refine wR ?_ | refine wD ?_ | refine wN rfl ?_ | refine wS ?_ | refine wT rfl ?_ | refine wF rfl ?_ | refine WpB.cond rfl (fun ht => ?_) fun ht => ?_
      exact WpB.ret ⟨_, rfl, hB _ rfl⟩
    repeat first | refine qN ?_ | refine qM rfl ?_ | refine qA rfl ?_ | refine qS rfl ?_ | refine qL H b1 rfl ?_ | refine qL H b2 rfl ?_ | refine qT rfl ?_ | refine qF rfl ?_ | refine qI i (by omega) rfl ?_ | refine qI io (by omega) rfl ?_ | refine qP rfl ?_ | refine wQ ?_ | refine wR ?_ | refine wD ?_ | refine wN rfl ?_ | refine wS ?_
    refine WpB.cut1 [(4, .pointer (some ⟨N + h.sz, 0, none⟩)), (3, .int .i64 ((0 : Nat) : Int)), (0, .slice (some ⟨N + k, 0, none⟩) 1 1)] (fun h' => h' = h3) ?_ ?_
    · refine WpB.block ?_
      refine WpB.loopC cn (fun i => [(5, .int .i64 (i : Int)), (4, .pointer (some ⟨N + h.sz, 0, none⟩)), (3, .int .i64 ((0 : Nat) : Int)), (0, .slice (some ⟨N + k, 0, none⟩) 1 1)]) (fun i h' => h' = h3) rfl (by repeat first | exact sub_nil | refine sub_cons rfl ?_) ?_
      rintro i h' hi rfl
      repeat first | refine qN ?_ | refine qM rfl ?_ | refine qA rfl ?_ | refine qS rfl ?_ | refine qL H b1 rfl ?_ | refine qL H b2 rfl ?_ | refine qT rfl ?_ | refine qF rfl ?_ | refine qI i (by omega) rfl ?_ | refine qI io (by omega) rfl ?_ | refine qP rfl ?_ | refine wQ ?_ | refine wR ?_ | refine wD ?_ | refine wN rfl ?_ | refine wS ?_
      refine WpB.cond rfl (fun ht => ?_) fun ht => ?_
      · have hlt : i < cn := by simpa using ht
        obtain ⟨b, off, rfl, hc⟩ := hcx i hlt
        refine WpB.skip ?_
        refine WpB.seq (WpB.block ?_)
        repeat first | refine qN ?_ | refine qM rfl ?_ | refine qA rfl ?_ | refine qS rfl ?_ | refine qL H b1 rfl ?_ | refine qL H b2 rfl ?_ | refine qT rfl ?_ | refine qF rfl ?_ | refine qI i (by omega) rfl ?_ | refine qI io (by omega) rfl ?_ | refine qP rfl ?_ | refine wQ ?_ | refine wR ?_ | refine wD ?_ | refine wN rfl ?_ | refine wS ?_
        refine SpB.indexN hlt rfl rfl rfl rfl rfl rfl rfl rfl rfl ?_
        repeat first | refine qN ?_ | refine qM rfl ?_ | refine qA rfl ?_ | refine qS rfl ?_ | refine qL H b1 rfl ?_ | refine qL H b2 rfl ?_ | refine qT rfl ?_ | refine qF rfl ?_ | refine qI i (by omega) rfl ?_ | refine qI io (by omega) rfl ?_ | refine qP rfl ?_ | refine wQ ?_ | refine wR ?_ | refine wD ?_ | refine wN rfl ?_ | refine wS ?_
        refine SpB.load (v := .string (cx i).nm) rfl rfl rfl (loadT_cell rfl rfl ?_) rfl rfl ?_
        · obtain ⟨hc1, hc2⟩ := H.ext _ _ _ _ hc
          exact cell_at hc2 (j := 0) rfl
        repeat first | refine qN ?_ | refine qM rfl ?_ | refine qA rfl ?_ | refine qS rfl ?_ | refine qL H b1 rfl ?_ | refine qL H b2 rfl ?_ | refine qT rfl ?_ | refine qF rfl ?_ | refine qI i (by omega) rfl ?_ | refine qI io (by omega) rfl ?_ | refine qP rfl ?_ | refine wQ ?_ | refine wR ?_ | refine wD ?_ | refine wN rfl ?_ | refine wS ?_
        refine WpB.cond rfl (fun ht2 => ?_) fun ht2 => ?_
        · repeat first | refine qN ?_ | refine qM rfl ?_ | refine qA rfl ?_ | refine qS rfl ?_ | refine qL H b1 rfl ?_ | refine qL H b2 rfl ?_ | refine qT rfl ?_ | refine qF rfl ?_ | refine qI i (by omega) rfl ?_ | refine qI io (by omega) rfl ?_ | refine qP rfl ?_ | refine wQ ?_ | refine wR ?_ | refine wD ?_ | refine wN rfl ?_ | refine wS ?_
          exact WpB.ret ⟨_, rfl, hB _ rfl⟩
        · repeat first | refine qN ?_ | refine qM rfl ?_ | refine qA rfl ?_ | refine qS rfl ?_ | refine qL H b1 rfl ?_ | refine qL H b2 rfl ?_ | refine qT rfl ?_ | refine qF rfl ?_ | refine qI i (by omega) rfl ?_ | refine qI io (by omega) rfl ?_ | refine qP rfl ?_ | refine wQ ?_ | refine wR ?_ | refine wD ?_ | refine wN rfl ?_ | refine wS ?_
          exact ⟨hlt, (by repeat first | exact sub_nil | refine sub_cons rfl ?_), rfl, rfl⟩
      · refine WpB.exit ?_
        exact ⟨(by repeat first | exact sub_nil | refine sub_cons rfl ?_), rfl, rfl⟩
    rintro h3 rfl
    repeat first | refine qN ?_ | refine qM rfl ?_ | refine qA rfl ?_ | refine qS rfl ?_ | refine qL H b1 rfl ?_ | refine qL H b2 rfl ?_ | refine qT rfl ?_ | refine qF rfl ?_ | refine qI i (by omega) rfl ?_ | refine qI io (by omega) rfl ?_ | refine qP rfl ?_ | refine wQ ?_ | refine wR ?_ | refine wD ?_ | refine wN rfl ?_ | refine wS ?_
    refine WpB.cut1 [(4, .pointer (some ⟨N + h.sz, 0, none⟩)), (3, .int .i64 ((0 : Nat) : Int)), (0, .slice (some ⟨N + k, 0, none⟩) 1 1)] (fun h' => h' = h3) ?_ ?_
    · refine WpB.block ?_
      refine WpB.loopC 0 (fun i => [(6, .int .i64 (i : Int)), (4, .pointer (some ⟨N + h.sz, 0, none⟩)), (3, .int .i64 ((0 : Nat) : Int)), (0, .slice (some ⟨N + k, 0, none⟩) 1 1)]) (fun i h' => h' = h3) rfl (by repeat first | exact sub_nil | refine sub_cons rfl ?_) ?_
      rintro i h' hi rfl
      obtain rfl : i = 0 := by omega
      repeat first | refine qN ?_ | refine qM rfl ?_ | refine qA rfl ?_ | refine qS rfl ?_ | refine qL H b1 rfl ?_ | refine qL H b2 rfl ?_ | refine qT rfl ?_ | refine qF rfl ?_ | refine qI i (by omega) rfl ?_ | refine qI io (by omega) rfl ?_ | refine qP rfl ?_ | refine wQ ?_ | refine wR ?_ | refine wD ?_ | refine wN rfl ?_ | refine wS ?_
      refine WpB.condF rfl ?_
      refine WpB.exit ?_
      exact ⟨(by repeat first | exact sub_nil | refine sub_cons rfl ?_), rfl, rfl⟩
    rintro h3 rfl
    repeat first | refine qN ?_ | refine qM rfl ?_ | refine qA rfl ?_ | refine qS rfl ?_ | refine qL H b1 rfl ?_ | refine qL H b2 rfl ?_ | refine qT rfl ?_ | refine qF rfl ?_ | refine qI i (by omega) rfl ?_ | refine qI io (by omega) rfl ?_ | refine qP rfl ?_ | refine wQ ?_ | refine wR ?_ | refine wD ?_ | refine wN rfl ?_ | refine wS ?_
    refine WpB.cut1 [(4, .pointer (some ⟨N + h.sz, 0, none⟩)), (3, .int .i64 ((0 : Nat) : Int)), (0, .slice (some ⟨N + k, 0, none⟩) 1 1)] (fun h' => h' = h3) ?_ ?_
    · refine WpB.block ?_
      refine WpB.loopC 0 (fun i => [(7, .int .i64 (i : Int)), (4, .pointer (some ⟨N + h.sz, 0, none⟩)), (3, .int .i64 ((0 : Nat) : Int)), (0, .slice (some ⟨N + k, 0, none⟩) 1 1)]) (fun i h' => h' = h3) rfl (by repeat first | exact sub_nil | refine sub_cons rfl ?_) ?_
      rintro i h' hi rfl
      obtain rfl : i = 0 := by omega
      repeat first | refine qN ?_ | refine qM rfl ?_ | refine qA rfl ?_ | refine qS rfl ?_ | refine qL H b1 rfl ?_ | refine qL H b2 rfl ?_ | refine qT rfl ?_ | refine qF rfl ?_ | refine qI i (by omega) rfl ?_ | refine qI io (by omega) rfl ?_ | refine qP rfl ?_ | refine wQ ?_ | refine wR ?_ | refine wD ?_ | refine wN rfl ?_ | refine wS ?_
      refine WpB.condF rfl ?_
      refine WpB.exit ?_
      exact ⟨(by repeat first | exact sub_nil | refine sub_cons rfl ?_), rfl, rfl⟩
    rintro h3 rfl
    repeat first | refine qN ?_ | refine qM rfl ?_ | refine qA rfl ?_ | refine qS rfl ?_ | refine qL H b1 rfl ?_ | refine qL H b2 rfl ?_ | refine qT rfl ?_ | refine qF rfl ?_ | refine qI i (by omega) rfl ?_ | refine qI io (by omega) rfl ?_ | refine qP rfl ?_ | refine wQ ?_ | refine wR ?_ | refine wD ?_ | refine wN rfl ?_ | refine wS ?_
    refine WpB.block ?_
    refine WpB.loopC en (fun i => [(8, .int .i64 (i : Int)), (4, .pointer (some ⟨N + h.sz, 0, none⟩)), (3, .int .i64 ((0 : Nat) : Int)), (0, .slice (some ⟨N + k, 0, none⟩) 1 1)]) (fun i h' => Hp N lim rd h' ∧ Grow h0 h0.sz h' ∧ h'.blk h.sz = some (.cells [.slice ca cn ccap, .slice none 0 0, .slice none 0 0, .slice ea en ecap]) ∧ h.sz < h'.sz)
      ⟨H, g0, b2, l2⟩ (by repeat first | exact sub_nil | refine sub_cons rfl ?_) ?_
    rintro i h' hi ⟨H, g0, b2, l2⟩
    have l0' := g0.le
    repeat first | refine qN ?_ | refine qM rfl ?_ | refine qA rfl ?_ | refine qS rfl ?_ | refine qL H b1 rfl ?_ | refine qL H b2 rfl ?_ | refine qT rfl ?_ | refine qF rfl ?_ | refine qI i (by omega) rfl ?_ | refine qI io (by omega) rfl ?_ | refine qP rfl ?_ | refine wQ ?_ | refine wR ?_ | refine wD ?_ | refine wN rfl ?_ | refine wS ?_
    refine WpB.cond rfl (fun ht => ?_) fun ht => ?_
    · have hlt : i < en := by simpa using ht
      obtain ⟨b, off, rfl, hc⟩ := hex i hlt
      refine WpB.skip ?_
      refine WpB.seq (WpB.block ?_)
      repeat first | refine qN ?_ | refine qM rfl ?_ | refine qA rfl ?_ | refine qS rfl ?_ | refine qL H b1 rfl ?_ | refine qL H b2 rfl ?_ | refine qT rfl ?_ | refine qF rfl ?_ | refine qI i (by omega) rfl ?_ | refine qI io (by omega) rfl ?_ | refine qP rfl ?_ | refine wQ ?_ | refine wR ?_ | refine wD ?_ | refine wN rfl ?_ | refine wS ?_
      refine SpB.indexN hlt rfl rfl rfl rfl rfl rfl rfl rfl rfl ?_
      refine SpB.loadR H hc rfl rfl rfl rfl rfl rfl rfl ?_
      refine SpB.callK Tryz.T1OK H (by omega) (fine_ok (ex i) h' 4 H (heo i hlt) (by omega)) rfl rfl rfl rfl rfl ?_
      rintro v h4 ⟨r, rfl⟩ g
      have H := g.hp H
      have b2 := g.keep l2 b2
      have l2 := g.lt l2
      have g0 := g0.trans g
      rw [show Nat.min h0.sz h'.sz = h0.sz from Nat.min_eq_left l0'] at g0
      repeat first | refine qN ?_ | refine qM rfl ?_ | refine qA rfl ?_ | refine qS rfl ?_ | refine qL H b1 rfl ?_ | refine qL H b2 rfl ?_ | refine qT rfl ?_ | refine qF rfl ?_ | refine qI i (by omega) rfl ?_ | refine qI io (by omega) rfl ?_ | refine qP rfl ?_ | refine wQ ?_ | refine wR ?_ | refine wD ?_ | refine wN rfl ?_ | refine wS ?_
      refine WpB.cond rfl (fun ht2 => ?_) fun ht2 => ?_
      · repeat first | refine qN ?_ | refine qM rfl ?_ | refine qA rfl ?_ | refine qS rfl ?_ | refine qL H b1 rfl ?_ | refine qL H b2 rfl ?_ | refine qT rfl ?_ | refine qF rfl ?_ | refine qI i (by omega) rfl ?_ | refine qI io (by omega) rfl ?_ | refine qP rfl ?_ | refine wQ ?_ | refine wR ?_ | refine wD ?_ | refine wN rfl ?_ | refine wS ?_
        exact WpB.ret ⟨_, rfl, hB _ rfl⟩
      · repeat first | refine qN ?_ | refine qM rfl ?_ | refine qA rfl ?_ | refine qS rfl ?_ | refine qL H b1 rfl ?_ | refine qL H b2 rfl ?_ | refine qT rfl ?_ | refine qF rfl ?_ | refine qI i (by omega) rfl ?_ | refine qI io (by omega) rfl ?_ | refine qP rfl ?_ | refine wQ ?_ | refine wR ?_ | refine wD ?_ | refine wN rfl ?_ | refine wS ?_
        exact ⟨hlt, (by repeat first | exact sub_nil | refine sub_cons rfl ?_), ⟨H, g0, b2, l2⟩, rfl⟩
    · refine WpB.exit ?_
      repeat first | refine qN ?_ | refine qM rfl ?_ | refine qA rfl ?_ | refine qS rfl ?_ | refine qL H b1 rfl ?_ | refine qL H b2 rfl ?_ | refine qT rfl ?_ | refine qF rfl ?_ | refine qI i (by omega) rfl ?_ | refine qI io (by omega) rfl ?_ | refine qP rfl ?_ | refine wQ ?_ | refine wR ?_ | refine wD ?_ | refine wN rfl ?_ | refine wS ?_
      exact ⟨by omega, (by repeat first | exact sub_nil | refine sub_cons rfl ?_), ⟨H, g0, fun _ => c2⟩, rfl⟩
  · refine WpB.exit ?_
    obtain rfl : i = 1 := by simp at ht; omega
    repeat first | refine qN ?_ | refine qM rfl ?_ | refine qA rfl ?_ | refine qS rfl ?_ | refine qL H b1 rfl ?_ | refine qT rfl ?_ | refine qF rfl ?_ | refine qI i (by omega) rfl ?_ | refine qI io (by omega) rfl ?_ | refine qP rfl ?_ | refine wQ ?_ | refine wR ?_ | refine wD ?_ | refine wN rfl ?_ | refine wS ?_
    exact WpB.ret ⟨_, rfl, ⟨_, rfl, fun _ => hj rfl⟩, Nat.le_refl _⟩

end Go.Proofs.YtkjkcoemloakhaaGreat
end

section
set_option linter.unusedVariables false
namespace Go.Proofs.YtkjkcoemloakhaaGreat
open Go Go.Vae
set_option maxRecDepth 100000

/-- A small table. -/
def TbS (t : Tb) : Prop := t.cols.n ≤ 20 ∧ t.keys.n ≤ 10 ∧ t.fors.n ≤ 10 ∧ (∀ i, i < t.keys.n → (t.keys.x i).n ≤ 20) ∧ ∀ i, i < t.fors.n → (t.fors.x i).cols.n ≤ 20

theorem smallSchema_ok {N lim : Nat} {rd : RO} (s : Sl Tb) (h0 : AH) (H : Hp N lim rd h0) (hs : s.sch rd) : Kp TT 27 [s.v] h0 fun v _ => ∃ b, v = .bool b ∧ (b = true → s.n ≤ 12 ∧ ∀ i, i < s.n → TbS (s.x i)) := by
  obtain ⟨sv, sn, sx⟩ := s
  obtain ⟨hsn, ⟨sa, scap, hsv, _, _, hsx⟩, hso⟩ := hs
  simp only at hsv hsx hso hsn
  subst hsv
  have hreach : reachBytes < 2 ^ 47 := by decide
  have hle := H.le
  have b1 : True := trivial
  refine Kp.of (fi := Tryz.fi27) rfl rfl rfl ?_
  have hB : (∃ b', Value.bool false = .bool b' ∧ (b' = true → sn ≤ 12 ∧ ∀ i, i < sn → TbS (sx i))) ∧ h0.sz ≤ h0.sz := ⟨⟨false, rfl, fun h => by cases h⟩, Nat.le_refl _⟩
  repeat first | refine qN ?_ | refine qM rfl ?_ | refine qA rfl ?_ | refine qS rfl ?_ | refine qL H b1 rfl ?_ | refine qT rfl ?_ | refine qF rfl ?_ | refine qI i (by omega) rfl ?_ | refine qI io (by omega) rfl ?_ | refine qP rfl ?_ | refine wQ ?_ | refine wR ?_ | refine wD ?_ | refine wN rfl ?_ | refine wS ?_
  refine WpB.block ?_
  refine WpB.loopC sn (fun i => [(3, .int .i64 (i : Int)), (0, .slice sa sn scap)]) (fun i h => Hp N lim rd h ∧ h0.sz ≤ h.sz ∧ ∀ j, j < i → TbS (sx j)) ⟨H, Nat.le_refl _, fun j hj => absurd hj (Nat.not_lt_zero _)⟩ (by repeat first | exact sub_nil | refine sub_cons rfl ?_) ?_
  rintro io h hi ⟨H, l0, hj⟩
  repeat first | refine qN ?_ | refine qM rfl ?_ | refine qA rfl ?_ | refine qS rfl ?_ | refine qL H b1 rfl ?_ | refine qT rfl ?_ | refine qF rfl ?_ | refine qI i (by omega) rfl ?_ | refine qI io (by omega) rfl ?_ | refine qP rfl ?_ | refine wQ ?_ | refine wR ?_ | refine wD ?_ | refine wN rfl ?_ | refine wS ?_
  refine WpB.cond rfl (fun ht => ?_) fun ht => ?_
  · have hlt : io < sn := by simpa using ht
    obtain ⟨b, off, rfl, hc⟩ := hsx io hlt
    have hat := hso io hlt
    cases hti : sx io with
    | mk nm cols keys fors chk =>
      obtain ⟨cv, cn, cx⟩ := cols
      obtain ⟨kv, kn, kx⟩ := keys
      obtain ⟨fv, fn, fx⟩ := fors
      obtain ⟨ev, en, ex⟩ := chk
      rw [hti] at hat hc
      have hcols := hat.cols
      have hchk := hat.chk
      obtain ⟨hn1, ⟨ca, ccap, hcv, _, _, hcx⟩, hco⟩ := hat.cols
      obtain ⟨hn2, ⟨ka, kcap, hkv, _, _, hkx⟩, hko⟩ := hat.keys
      obtain ⟨hn3, ⟨fa, fcap, hfv, _, _, hfx⟩, hfo⟩ := hat.fors
      obtain ⟨hn4, ⟨ea, ecap, hev, _, _, hex⟩, heo⟩ := hat.chk
      simp only at hcv hkv hfv hev hcx hkx hfx hex hco hko hfo heo hn1 hn2 hn3 hn4 hcols hchk
      subst hcv hkv hfv hev
      refine WpB.skip ?_
      refine WpB.seq (WpB.block ?_)
      repeat first | refine qN ?_ | refine qM rfl ?_ | refine qA rfl ?_ | refine qS rfl ?_ | refine qT rfl ?_ | refine qF rfl ?_ | refine qI i (by omega) rfl ?_ | refine qI io (by omega) rfl ?_ | refine qP rfl ?_ | refine wQ ?_ | refine wR ?_ | refine wD ?_ | refine wN rfl ?_ | refine wS ?_
      refine SpB.indexN hlt rfl rfl rfl rfl rfl rfl rfl rfl rfl ?_
      refine SpB.loadR H hc rfl rfl rfl rfl rfl rfl rfl ?_
      refine SpB.alloc H rfl rfl rfl rfl rfl fun h2 g s2 b2 => ?_
      have H := g.hp H
      refine SpB.storeO H b2 (by omega) (by omega) rfl rfl rfl rfl rfl rfl rfl rfl rfl fun h3 g3 s3 b3 f3 => ?_
      have H := g3.hpL (by omega) H
      have b1 : h3.blk h.sz = some (.cells (Tb.mk nm ⟨.slice ca cn ccap, cn, cx⟩ ⟨.slice ka kn kcap, kn, kx⟩ ⟨.slice fa fn fcap, fn, fx⟩ ⟨.slice ea en ecap, en, ex⟩).cells) := b3
      have l1 : h.sz < h3.sz := by omega
      clear g g3 s2 s3 b3 f3 b2
      repeat first | refine qN ?_ | refine qM rfl ?_ | refine qA rfl ?_ | refine qS rfl ?_ | refine qL H b1 rfl ?_ | refine qT rfl ?_ | refine qF rfl ?_ | refine qI i (by omega) rfl ?_ | refine qI io (by omega) rfl ?_ | refine qP rfl ?_ | refine wQ ?_ | refine wR ?_ | refine wD ?_ | refine wN rfl ?_ | refine wS ?_
      refine qB rfl (fun c1 => ?_) fun c1 => ?_
      · repeat' first | refine qN ?_ | refine qM rfl ?_ | refine qA rfl ?_ | refine qS rfl ?_ | refine qL H b1 rfl ?_ | refine qT rfl ?_ | refine qF rfl ?_ | refine qB rfl (fun ht => ?_) fun ht => ?_ | refine qI i (by omega) rfl ?_ | refine qI io (by omega) rfl ?_ | refine qP rfl ?_ | refine wQ ?_ | refine wR ?_ | refine wD ?_ | refine wN rfl ?_ | refine wS ?_ | refine wT rfl ?_ | refine wF rfl ?_ | refine WpB.cond rfl (fun ht => ?_) fun ht => ?_
        exact WpB.ret ⟨_, rfl, hB⟩
      have c1 : kn ≤ 10 := by simp at c1; omega
      repeat first | refine qN ?_ | refine qM rfl ?_ | refine qA rfl ?_ | refine qS rfl ?_ | refine qL H b1 rfl ?_ | refine qT rfl ?_ | refine qF rfl ?_ | refine qI i (by omega) rfl ?_ | refine qI io (by omega) rfl ?_ | refine qP rfl ?_ | refine wQ ?_ | refine wR ?_ | refine wD ?_ | refine wN rfl ?_ | refine wS ?_
      refine qB rfl (fun c2 => ?_) fun c2 => ?_
      · repeat' first | refine qN ?_ | refine qM rfl ?_ | refine qA rfl ?_ | refine qS rfl ?_ | refine qL H b1 rfl ?_ | refine qT rfl ?_ | refine qF rfl ?_ | refine qB rfl (fun ht => ?_) fun ht => ?_ | refine qI i (by omega) rfl ?_ | refine qI io (by omega) rfl ?_ | refine qP rfl ?_ | refine wQ ?_ | refine wR ?_ | refine wD ?_ | refine wN rfl ?_ | refine wS ?_ | refine wT rfl ?_ | refine wF rfl ?_ | refine WpB.cond rfl (fun ht => ?_) fun ht => ?_
        exact WpB.ret ⟨_, rfl, hB⟩
      have c2 : fn ≤ 10 := by simp at c2; omega
      repeat first | refine qN ?_ | refine qM rfl ?_ | refine qA rfl ?_ | refine qS rfl ?_ | refine qL H b1 rfl ?_ | refine qT rfl ?_ | refine qF rfl ?_ | refine qI i (by omega) rfl ?_ | refine qI io (by omega) rfl ?_ | refine qP rfl ?_ | refine wQ ?_ | refine wR ?_ | refine wD ?_ | refine wN rfl ?_ | refine wS ?_
      refine SpB.newS H rfl rfl rfl rfl rfl fun h4 g s4 b4 => ?_
      have H := g.hp H
      have b1 := g.keep l1 b1
      have l1 := g.lt l1
      refine SpB.callK Tryz.T1OK H (by omega) (smallOne_ok nm ⟨.slice ca cn ccap, cn, cx⟩ ⟨.slice ea en ecap, en, ex⟩ _ _ h4 h3.sz H (by omega) b4 hcols hchk) rfl rfl rfl rfl rfl ?_
      rintro v h5 ⟨r, rfl, hr⟩ g
      have H := g.hp H
      have b1 := g.keep l1 b1
      have l1 := g.lt l1
      repeat first | refine qN ?_ | refine qM rfl ?_ | refine qA rfl ?_ | refine qS rfl ?_ | refine qL H b1 rfl ?_ | refine qT rfl ?_ | refine qF rfl ?_ | refine qI i (by omega) rfl ?_ | refine qI io (by omega) rfl ?_ | refine qP rfl ?_ | refine wQ ?_ | refine wR ?_ | refine wD ?_ | refine wN rfl ?_ | refine wS ?_
      refine WpB.cond rfl (fun ht => ?_) fun ht => ?_
      · repeat' first | refine qN ?_ | refine qM rfl ?_ | refine qA rfl ?_ | refine qS rfl ?_ | refine qL H b1 rfl ?_ | refine qT rfl ?_ | refine qF rfl ?_ | refine qB rfl (fun ht => ?_) fun ht => ?_ | refine qI i (by omega) rfl ?_ | refine qI io (by omega) rfl ?_ | refine qP rfl ?_ | refine wQ ?_ | refine wR ?_ | refine wD ?_ | refine wN rfl ?_ | refine wS ?_ | refine wT rfl ?_ | refine wF rfl ?_ | refine WpB.cond rfl (fun ht => ?_) fun ht => ?_
        exact WpB.ret ⟨_, rfl, hB⟩
      have c3 : cn ≤ 20 := hr (by simpa using ht)
      have l5 : h0.sz ≤ h5.sz := by omega
      repeat first | refine qN ?_ | refine qM rfl ?_ | refine qA rfl ?_ | refine qS rfl ?_ | refine qL H b1 rfl ?_ | refine qT rfl ?_ | refine qF rfl ?_ | refine qI i (by omega) rfl ?_ | refine qI io (by omega) rfl ?_ | refine qP rfl ?_ | refine wQ ?_ | refine wR ?_ | refine wD ?_ | refine wN rfl ?_ | refine wS ?_
      refine WpB.cut1 [(4, .pointer (some ⟨N + h.sz, 0, none⟩)), (3, .int .i64 (io : Int)), (0, .slice (some ⟨b, off, none⟩) sn scap)] (fun h' => Hp N lim rd h' ∧ h'.blk h.sz = some (.cells (Tb.mk nm ⟨.slice ca cn ccap, cn, cx⟩ ⟨.slice ka kn kcap, kn, kx⟩ ⟨.slice fa fn fcap, fn, fx⟩ ⟨.slice ea en ecap, en, ex⟩).cells) ∧ h.sz < h'.sz ∧ ∀ j, j < kn → (kx j).n ≤ 20) ?_ ?_
      · refine WpB.block ?_
        refine WpB.loopC kn (fun i => [(5, .int .i64 (i : Int)), (4, .pointer (some ⟨N + h.sz, 0, none⟩)), (3, .int .i64 (io : Int)), (0, .slice (some ⟨b, off, none⟩) sn scap)]) (fun i h' => Hp N lim rd h' ∧ h'.blk h.sz = some (.cells (Tb.mk nm ⟨.slice ca cn ccap, cn, cx⟩ ⟨.slice ka kn kcap, kn, kx⟩ ⟨.slice fa fn fcap, fn, fx⟩ ⟨.slice ea en ecap, en, ex⟩).cells) ∧ h.sz < h'.sz ∧ ∀ j, j < i → (kx j).n ≤ 20)
          ⟨H, b1, l1, fun j hj => absurd hj (Nat.not_lt_zero _)⟩ (by repeat first | exact sub_nil | refine sub_cons rfl ?_) ?_
        clear H b1 l1 ht hc
        rintro i h' hi' ⟨H, b1, l1, hj'⟩
        repeat first | refine qN ?_ | refine qM rfl ?_ | refine qA rfl ?_ | refine qS rfl ?_ | refine qL H b1 rfl ?_ | refine qT rfl ?_ | refine qF rfl ?_ | refine qI i (by omega) rfl ?_ | refine qI io (by omega) rfl ?_ | refine qP rfl ?_ | refine wQ ?_ | refine wR ?_ | refine wD ?_ | refine wN rfl ?_ | refine wS ?_
        refine WpB.cond rfl (fun ht => ?_) fun ht => ?_
        · have hlt : i < kn := by simpa using ht
          obtain ⟨b', off', rfl, hc⟩ := hkx i hlt
          obtain ⟨_, ⟨la, lcap, hlv, _, _, _⟩, _⟩ := hko i hlt
          simp only [slC, hlv] at hc
          refine WpB.skip ?_
          refine WpB.seq (WpB.block ?_)
          repeat first | refine qN ?_ | refine qM rfl ?_ | refine qA rfl ?_ | refine qS rfl ?_ | refine qL H b1 rfl ?_ | refine qT rfl ?_ | refine qF rfl ?_ | refine qI i (by omega) rfl ?_ | refine qI io (by omega) rfl ?_ | refine qP rfl ?_ | refine wQ ?_ | refine wR ?_ | refine wD ?_ | refine wN rfl ?_ | refine wS ?_
          refine SpB.indexN hlt rfl rfl rfl rfl rfl rfl rfl rfl rfl ?_
          refine SpB.loadRC H hc rfl rfl rfl rfl rfl rfl rfl ?_
          repeat first | refine qN ?_ | refine qM rfl ?_ | refine qA rfl ?_ | refine qS rfl ?_ | refine qL H b1 rfl ?_ | refine qT rfl ?_ | refine qF rfl ?_ | refine qI i (by omega) rfl ?_ | refine qI io (by omega) rfl ?_ | refine qP rfl ?_ | refine wQ ?_ | refine wR ?_ | refine wD ?_ | refine wN rfl ?_ | refine wS ?_
          refine SpB.callK Tryz.T1OK H (by omega) (few51_ok (kx i).n h' H) rfl rfl rfl rfl rfl ?_
          rintro v h6 ⟨r, rfl, hr⟩ g
          have H := g.hp H
          have b1 := g.keep l1 b1
          have l1 := g.lt l1
          repeat first | refine qN ?_ | refine qM rfl ?_ | refine qA rfl ?_ | refine qS rfl ?_ | refine qL H b1 rfl ?_ | refine qT rfl ?_ | refine qF rfl ?_ | refine qI i (by omega) rfl ?_ | refine qI io (by omega) rfl ?_ | refine qP rfl ?_ | refine wQ ?_ | refine wR ?_ | refine wD ?_ | refine wN rfl ?_ | refine wS ?_
          refine WpB.cond rfl (fun ht2 => ?_) fun ht2 => ?_
          · repeat first | refine qN ?_ | refine qM rfl ?_ | refine qA rfl ?_ | refine qS rfl ?_ | refine qL H b1 rfl ?_ | refine qT rfl ?_ | refine qF rfl ?_ | refine qI i (by omega) rfl ?_ | refine qI io (by omega) rfl ?_ | refine qP rfl ?_ | refine wQ ?_ | refine wR ?_ | refine wD ?_ | refine wN rfl ?_ | refine wS ?_
            exact WpB.ret ⟨_, rfl, hB⟩
          · repeat first | refine qN ?_ | refine qM rfl ?_ | refine qA rfl ?_ | refine qS rfl ?_ | refine qL H b1 rfl ?_ | refine qT rfl ?_ | refine qF rfl ?_ | refine qI i (by omega) rfl ?_ | refine qI io (by omega) rfl ?_ | refine qP rfl ?_ | refine wQ ?_ | refine wR ?_ | refine wD ?_ | refine wN rfl ?_ | refine wS ?_
            refine ⟨hlt, (by repeat first | exact sub_nil | refine sub_cons rfl ?_), ⟨H, b1, l1, fun j hj1 => ?_⟩, rfl⟩
            by_cases e : j = i
            · subst e; exact hr (by simpa using ht2)
            · exact hj' j (by omega)
        · refine WpB.exit ?_
          have : ¬ i < kn := by simpa using ht
          exact ⟨(by repeat first | exact sub_nil | refine sub_cons rfl ?_), ⟨H, b1, l1, fun j hj1 => hj' j (by omega)⟩, rfl⟩
      rintro h6 ⟨H, b1, l1, c4⟩
      repeat first | refine qN ?_ | refine qM rfl ?_ | refine qA rfl ?_ | refine qS rfl ?_ | refine qL H b1 rfl ?_ | refine qT rfl ?_ | refine qF rfl ?_ | refine qI i (by omega) rfl ?_ | refine qI io (by omega) rfl ?_ | refine qP rfl ?_ | refine wQ ?_ | refine wR ?_ | refine wD ?_ | refine wN rfl ?_ | refine wS ?_
      refine WpB.block ?_
      refine WpB.loopC fn (fun i => [(6, .int .i64 (i : Int)), (4, .pointer (some ⟨N + h.sz, 0, none⟩)), (3, .int .i64 (io : Int)), (0, .slice (some ⟨b, off, none⟩) sn scap)]) (fun i h' => Hp N lim rd h' ∧ h'.blk h.sz = some (.cells (Tb.mk nm ⟨.slice ca cn ccap, cn, cx⟩ ⟨.slice ka kn kcap, kn, kx⟩ ⟨.slice fa fn fcap, fn, fx⟩ ⟨.slice ea en ecap, en, ex⟩).cells) ∧ h.sz < h'.sz ∧ ∀ j, j < i → (fx j).cols.n ≤ 20)
        ⟨H, b1, l1, fun j hj => absurd hj (Nat.not_lt_zero _)⟩ (by repeat first | exact sub_nil | refine sub_cons rfl ?_) ?_
      clear H b1 l1 ht hc
      rintro i h' hi' ⟨H, b1, l1, hj'⟩
      repeat first | refine qN ?_ | refine qM rfl ?_ | refine qA rfl ?_ | refine qS rfl ?_ | refine qL H b1 rfl ?_ | refine qT rfl ?_ | refine qF rfl ?_ | refine qI i (by omega) rfl ?_ | refine qI io (by omega) rfl ?_ | refine qP rfl ?_ | refine wQ ?_ | refine wR ?_ | refine wD ?_ | refine wN rfl ?_ | refine wS ?_
      refine WpB.cond rfl (fun ht => ?_) fun ht => ?_
      · have hlt2 : i < fn := by simpa using ht
        obtain ⟨b', off', rfl, hc⟩ := hfx i hlt2
        obtain ⟨⟨_, ⟨la, lcap, hlv, _, _, _⟩, _⟩, _⟩ := hfo i hlt2
        simp only [Fo.cells, hlv] at hc
        refine WpB.skip ?_
        refine WpB.seq (WpB.block ?_)
        repeat first | refine qN ?_ | refine qM rfl ?_ | refine qA rfl ?_ | refine qS rfl ?_ | refine qL H b1 rfl ?_ | refine qT rfl ?_ | refine qF rfl ?_ | refine qI i (by omega) rfl ?_ | refine qI io (by omega) rfl ?_ | refine qP rfl ?_ | refine wQ ?_ | refine wR ?_ | refine wD ?_ | refine wN rfl ?_ | refine wS ?_
        refine SpB.indexN hlt2 rfl rfl rfl rfl rfl rfl rfl rfl rfl ?_
        repeat first | refine qN ?_ | refine qM rfl ?_ | refine qA rfl ?_ | refine qS rfl ?_ | refine qL H b1 rfl ?_ | refine qT rfl ?_ | refine qF rfl ?_ | refine qI i (by omega) rfl ?_ | refine qI io (by omega) rfl ?_ | refine qP rfl ?_ | refine wQ ?_ | refine wR ?_ | refine wD ?_ | refine wN rfl ?_ | refine wS ?_
        refine SpB.load (v := .slice la (fx i).cols.n lcap) rfl rfl rfl (loadT_cell rfl rfl ?_) rfl rfl ?_
        · exact cell_at (H.ext _ _ _ _ hc).2 (j := 0) rfl
        repeat first | refine qN ?_ | refine qM rfl ?_ | refine qA rfl ?_ | refine qS rfl ?_ | refine qL H b1 rfl ?_ | refine qT rfl ?_ | refine qF rfl ?_ | refine qI i (by omega) rfl ?_ | refine qI io (by omega) rfl ?_ | refine qP rfl ?_ | refine wQ ?_ | refine wR ?_ | refine wD ?_ | refine wN rfl ?_ | refine wS ?_
        refine SpB.callK Tryz.T1OK H (by omega) (few51_ok (fx i).cols.n h' H) rfl rfl rfl rfl rfl ?_
        rintro v h7 ⟨r, rfl, hr⟩ g
        have H := g.hp H
        have b1 := g.keep l1 b1
        have l1 := g.lt l1
        repeat first | refine qN ?_ | refine qM rfl ?_ | refine qA rfl ?_ | refine qS rfl ?_ | refine qL H b1 rfl ?_ | refine qT rfl ?_ | refine qF rfl ?_ | refine qI i (by omega) rfl ?_ | refine qI io (by omega) rfl ?_ | refine qP rfl ?_ | refine wQ ?_ | refine wR ?_ | refine wD ?_ | refine wN rfl ?_ | refine wS ?_
        refine WpB.cond rfl (fun ht2 => ?_) fun ht2 => ?_
        · repeat first | refine qN ?_ | refine qM rfl ?_ | refine qA rfl ?_ | refine qS rfl ?_ | refine qL H b1 rfl ?_ | refine qT rfl ?_ | refine qF rfl ?_ | refine qI i (by omega) rfl ?_ | refine qI io (by omega) rfl ?_ | refine qP rfl ?_ | refine wQ ?_ | refine wR ?_ | refine wD ?_ | refine wN rfl ?_ | refine wS ?_
          exact WpB.ret ⟨_, rfl, hB⟩
        · repeat first | refine qN ?_ | refine qM rfl ?_ | refine qA rfl ?_ | refine qS rfl ?_ | refine qL H b1 rfl ?_ | refine qT rfl ?_ | refine qF rfl ?_ | refine qI i (by omega) rfl ?_ | refine qI io (by omega) rfl ?_ | refine qP rfl ?_ | refine wQ ?_ | refine wR ?_ | refine wD ?_ | refine wN rfl ?_ | refine wS ?_
          refine ⟨hlt2, (by repeat first | exact sub_nil | refine sub_cons rfl ?_), ⟨H, b1, l1, fun j hj1 => ?_⟩, rfl⟩
          by_cases e : j = i
          · subst e; exact hr (by simpa using ht2)
          · exact hj' j (by omega)
      · refine WpB.exit ?_
        have : ¬ i < fn := by simpa using ht
        repeat first | refine qN ?_ | refine qM rfl ?_ | refine qA rfl ?_ | refine qS rfl ?_ | refine qL H b1 rfl ?_ | refine qT rfl ?_ | refine qF rfl ?_ | refine qI i (by omega) rfl ?_ | refine qI io (by omega) rfl ?_ | refine qP rfl ?_ | refine wQ ?_ | refine wR ?_ | refine wD ?_ | refine wN rfl ?_ | refine wS ?_
        refine ⟨hlt, (by repeat first | exact sub_nil | refine sub_cons rfl ?_), ⟨H, by omega, fun j hj1 => ?_⟩, rfl⟩
        by_cases e : j = io
        · subst e
          rw [hti]
          exact ⟨c3, c1, c2, c4, fun j (hj2 : j < fn) => hj' j (by omega)⟩
        · exact hj j (by omega)
  · refine WpB.exit ?_
    have : ¬ io < sn := by simpa using ht
    repeat first | refine qN ?_ | refine qM rfl ?_ | refine qA rfl ?_ | refine qS rfl ?_ | refine qL H b1 rfl ?_ | refine qT rfl ?_ | refine qF rfl ?_ | refine qI i (by omega) rfl ?_ | refine qI io (by omega) rfl ?_ | refine qP rfl ?_ | refine wQ ?_ | refine wR ?_ | refine wD ?_ | refine wN rfl ?_ | refine wS ?_
    refine WpB.ret ⟨_, rfl, ⟨_, rfl, fun h => ⟨(show sn ≤ 12 by simp at h; omega), fun j (hj1 : j < sn) => hj j (by omega)⟩⟩, Nat.le_refl _⟩

end Go.Proofs.YtkjkcoemloakhaaGreat
end

section
set_option linter.unusedVariables false
set_option linter.unusedSimpArgs false
namespace Go.Vae
open Go

/-- A bound statement: of it only the condition, the sources' tables and the variables are told. -/
structure Bd where
  kd : Int
  tn : ByteArray
  c0 : Value
  c1 : Value
  c2 : Value
  c3 : Value
  vals : Value
  sets : Value
  items : Value
  frm : Sl (ByteArray × ByteArray)
  op : Int
  tb : ByteArray
  nm : ByteArray
  ix : Int
  vk : Int
  vi : Int
  vt : ByteArray
  sl : Value
  en : Nat
  kid : Nat → E
  grp : Value
  ord : Value
  lim : Int
  name : ByteArray
  table : Int
  tabs : Sl Int
  vars : Value
  rows : Value

def Bd.wh (b : Bd) : E := .mk b.op b.tb b.nm b.ix b.vk b.vi b.vt b.sl b.en b.kid

def Bd.cells (b : Bd) : List Value := [.int .i64 b.kd, .string b.tn, b.c0, b.c1, b.c2, b.c3, b.vals, b.sets, b.items, b.frm.v, .int .i64 b.op, .string b.tb, .string b.nm, .int .i64 b.ix, .int .i64 b.vk, .int .i64 b.vi, .string b.vt, b.sl, b.grp, b.ord, .int .i64 b.lim, .string b.name,
  .int .i64 b.table, b.tabs.v, b.vars, b.rows]

/-- Each source's table is there. -/
def tabsIn (s : Sl Tb) (t : Sl Int) : Prop := ∀ i, i < t.n → 0 ≤ t.x i ∧ t.x i < (s.n : Int)

def ncols (s : Sl Tb) (t : Sl Int) (i : Nat) : Nat := (s.x (t.x i).toNat).cols.n

/-- The first variable of a source. -/
def offs (s : Sl Tb) (t : Sl Int) (i : Nat) : Nat := sumTo (ncols s t) i

def ownAt (s : Sl Tb) (t : Sl Int) (v : Int) (i : Nat) : Bool := decide ((offs s t i : Int) ≤ v) && decide (v < (offs s t i : Int) + (ncols s t i : Int))

/-- The least number below n with a property, or n. -/
def leastTo (p : Nat → Bool) : Nat → Nat → Nat
  | 0, i => i
  | k + 1, i => if p i then i else leastTo p k (i + 1)

/-- The source of a variable, or -1. -/
def owner (s : Sl Tb) (t : Sl Int) (v : Int) : Int :=
  match (List.range t.n).find? (ownAt s t v) with
  | some i => (i : Int)
  | none => -1

def hasI (l : Sl Int) (n : Int) : Bool := (List.range l.n).any fun i => l.x i == n

def E.within (s : Sl Tb) (t : Sl Int) (l : Sl Int) : E → Bool
  | .nil => true
  | .mk op _ _ ix _ _ _ _ n kid => !((op == 2) && !(hasI l (owner s t ix))) && (List.range n).all fun i => (kid i).within s t l

theorem any_false {f : Nat → Bool} {n : Nat} (h : ∀ i, i < n → f i = false) : (List.range n).any f = false := by
  rw [List.any_eq_false]
  intro i hi
  rw [h i (List.mem_range.1 hi)]
  simp

theorem any_true {f : Nat → Bool} {n i : Nat} (hi : i < n) (h : f i = true) : (List.range n).any f = true := List.any_eq_true.2 ⟨i, List.mem_range.2 hi, h⟩

theorem find_none {f : Nat → Bool} {n : Nat} (h : ∀ i, i < n → f i = false) : (List.range n).find? f = none := by
  rw [List.find?_eq_none]
  intro i hi
  rw [h i (List.mem_range.1 hi)]
  simp

theorem find_some {f : Nat → Bool} : ∀ {n i : Nat}, i < n → f i = true → (∀ j, j < i → f j = false) → (List.range n).find? f = some i
  | 0, i, hi, _, _ => absurd hi (Nat.not_lt_zero _)
  | n + 1, i, hi, h, hj => by
    rw [List.range_succ, List.find?_append]
    by_cases e : i < n
    · rw [find_some e h hj]; rfl
    · obtain rfl : i = n := by omega
      rw [find_none hj]
      simp [h]

end Go.Vae
end

section
set_option linter.unusedVariables false
namespace Go.Proofs.YtkjkcoemloakhaaGreat
open Go Go.Vae
set_option maxRecDepth 100000

theorem has_ok {N lim : Nat} {rd : RO} (l : Sl Int) (m : Int) (h0 : AH) (H : Hp N lim rd h0) (hl : l.ints rd) : Kp TT 45 [l.v, .int .i64 m] h0 fun v _ => v = .bool (hasI l m) := by
  obtain ⟨lv, ln, lx⟩ := l
  obtain ⟨hn, ⟨a, cap, hv, _, _, hx⟩, _⟩ := hl
  simp only at hv hn hx
  subst hv
  have hreach : reachBytes < 2 ^ 47 := by decide
  have b1 : True := trivial
  refine Kp.of (fi := Tryz.fi45) rfl rfl rfl ?_
  repeat first | refine qN ?_ | refine qM rfl ?_ | refine qA rfl ?_ | refine qS rfl ?_ | refine qL H b1 rfl ?_ | refine qT rfl ?_ | refine qF rfl ?_ | refine qI i (by omega) rfl ?_ | refine qI io (by omega) rfl ?_ | refine qP rfl ?_ | refine wQ ?_ | refine wR ?_ | refine wD ?_ | refine wN rfl ?_ | refine wS ?_
  refine WpB.block ?_
  refine WpB.loopC ln (fun i => [(5, .int .i64 (i : Int)), (1, .int .i64 m), (0, .slice a ln cap)]) (fun i h => h = h0 ∧ ∀ j, j < i → (lx j == m) = false) ⟨rfl, fun j hj => absurd hj (Nat.not_lt_zero _)⟩ (by repeat first | exact sub_nil | refine sub_cons rfl ?_) ?_
  rintro i h hi ⟨rfl, hj⟩
  repeat first | refine qN ?_ | refine qM rfl ?_ | refine qA rfl ?_ | refine qS rfl ?_ | refine qL H b1 rfl ?_ | refine qT rfl ?_ | refine qF rfl ?_ | refine qI i (by omega) rfl ?_ | refine qI io (by omega) rfl ?_ | refine qP rfl ?_ | refine wQ ?_ | refine wR ?_ | refine wD ?_ | refine wN rfl ?_ | refine wS ?_
  refine WpB.cond rfl (fun ht => ?_) fun ht => ?_
  · have hlt : i < ln := by simpa using ht
    obtain ⟨b, off, rfl, hc⟩ := hx i hlt
    refine WpB.skip ?_
    refine WpB.seq (WpB.block ?_)
    repeat first | refine qN ?_ | refine qM rfl ?_ | refine qA rfl ?_ | refine qS rfl ?_ | refine qL H b1 rfl ?_ | refine qT rfl ?_ | refine qF rfl ?_ | refine qI i (by omega) rfl ?_ | refine qI io (by omega) rfl ?_ | refine qP rfl ?_ | refine wQ ?_ | refine wR ?_ | refine wD ?_ | refine wN rfl ?_ | refine wS ?_
    refine SpB.indexN hlt rfl rfl rfl rfl rfl rfl rfl rfl rfl ?_
    refine SpB.loadRC H hc rfl rfl rfl rfl rfl rfl rfl ?_
    repeat first | refine qN ?_ | refine qM rfl ?_ | refine qA rfl ?_ | refine qS rfl ?_ | refine qL H b1 rfl ?_ | refine qT rfl ?_ | refine qF rfl ?_ | refine qI i (by omega) rfl ?_ | refine qI io (by omega) rfl ?_ | refine qP rfl ?_ | refine wQ ?_ | refine wR ?_ | refine wD ?_ | refine wN rfl ?_ | refine wS ?_
    refine WpB.cond rfl (fun ht2 => ?_) fun ht2 => ?_
    · repeat first | refine qN ?_ | refine qM rfl ?_ | refine qA rfl ?_ | refine qS rfl ?_ | refine qL H b1 rfl ?_ | refine qT rfl ?_ | refine qF rfl ?_ | refine qI i (by omega) rfl ?_ | refine qI io (by omega) rfl ?_ | refine qP rfl ?_ | refine wQ ?_ | refine wR ?_ | refine wD ?_ | refine wN rfl ?_ | refine wS ?_
      refine WpB.ret ⟨_, rfl, ?_, Nat.le_refl _⟩
      rw [show hasI ⟨.slice (some ⟨b, off, none⟩) ln cap, ln, lx⟩ m = true from any_true (f := fun i => lx i == m) hlt (by simpa using ht2)]
    · repeat first | refine qN ?_ | refine qM rfl ?_ | refine qA rfl ?_ | refine qS rfl ?_ | refine qL H b1 rfl ?_ | refine qT rfl ?_ | refine qF rfl ?_ | refine qI i (by omega) rfl ?_ | refine qI io (by omega) rfl ?_ | refine qP rfl ?_ | refine wQ ?_ | refine wR ?_ | refine wD ?_ | refine wN rfl ?_ | refine wS ?_
      refine ⟨hlt, (by repeat first | exact sub_nil | refine sub_cons rfl ?_), ⟨rfl, fun j hj1 => ?_⟩, rfl⟩
      by_cases e : j = i
      · subst e; simpa using ht2
      · exact hj j (by omega)
  · refine WpB.exit ?_
    have hge : ¬ i < ln := by simpa using ht
    repeat first | refine qN ?_ | refine qM rfl ?_ | refine qA rfl ?_ | refine qS rfl ?_ | refine qL H b1 rfl ?_ | refine qT rfl ?_ | refine qF rfl ?_ | refine qI i (by omega) rfl ?_ | refine qI io (by omega) rfl ?_ | refine qP rfl ?_ | refine wQ ?_ | refine wR ?_ | refine wD ?_ | refine wN rfl ?_ | refine wS ?_
    refine WpB.ret ⟨_, rfl, ?_, Nat.le_refl _⟩
    rw [show hasI ⟨.slice a ln cap, ln, lx⟩ m = false from any_false (f := fun i => lx i == m) (fun j (hj1 : j < ln) => hj j (by omega))]

/-- What is told of a bound statement's sources. -/
structure BdAt (rd : RO) (s : Sl Tb) (b : Bd) : Prop where
  sch : s.sch rd
  small : s.n ≤ 12 ∧ ∀ i, i < s.n → TbS (s.x i)
  tabs : b.tabs.ints rd
  few : b.tabs.n ≤ 3
  inn : tabsIn s b.tabs

theorem ncols_le {rd : RO} {s : Sl Tb} {b : Bd} (hb : BdAt rd s b) {i : Nat} (hi : i < b.tabs.n) : ncols s b.tabs i ≤ 20 := by
  obtain ⟨h1, h2⟩ := hb.inn i hi
  exact (hb.small.2 _ (by omega)).1

theorem offs_le {rd : RO} {s : Sl Tb} {b : Bd} (hb : BdAt rd s b) {i : Nat} (hi : i ≤ b.tabs.n) : offs s b.tabs i ≤ 60 := by
  have := sumTo_le (f := ncols s b.tabs) (c := 20) (n := i) fun j hj => ncols_le hb (by omega)
  have := hb.few
  unfold offs
  omega

theorem offset_ok {N lim : Nat} {rd : RO} (s : Sl Tb) (b : Bd) (m : Nat) (h0 : AH) (H : Hp N lim rd h0) (hb : BdAt rd s b) (hm : m ≤ b.tabs.n) : Kp TT 75 [s.v, .agg ⟨b.cells⟩, .int .i64 (m : Int)] h0 fun v _ => v = .int .i64 (offs s b.tabs m : Int) := by
  have hb0 := hb
  obtain ⟨sv, sn, sx⟩ := s
  obtain ⟨kd, tn, c0, c1, c2, c3, vals, sets, items, frm, op, tb, nm, ix, vk, vi, vt, sl, en, kid, grp, ord, lm, name, table, ⟨tv, tn', tx⟩, vars, rows⟩ := b
  obtain ⟨⟨hsn, ⟨sa, scap, hsv, _, _, hsx⟩, hso⟩, _, ⟨htn, ⟨ta, tcap, htv, _, _, htx⟩, _⟩, hfew, hin⟩ := hb
  simp only at hsv hsx hso hsn htv htx htn hfew hin hm
  subst hsv htv
  have hreach : reachBytes < 2 ^ 47 := by decide
  refine Kp.of (fi := Tryz.fi75) rfl rfl rfl ?_
  refine WpB.seq (WpB.region ?_)
  refine SpB.box H rfl rfl rfl rfl rfl rfl fun h g s1 b1 => ?_
  have hle := H.le
  have H := g.hp H
  have l1 : h0.sz < h.sz := by omega
  clear g s1
  repeat first | refine qN ?_ | refine qM rfl ?_ | refine qA rfl ?_ | refine qS rfl ?_ | refine qL H b1 rfl ?_ | refine qT rfl ?_ | refine qF rfl ?_ | refine qI i (by omega) rfl ?_ | refine qI io (by omega) rfl ?_ | refine qP rfl ?_ | refine wQ ?_ | refine wR ?_ | refine wD ?_ | refine wN rfl ?_ | refine wS ?_
  refine WpB.block ?_
  refine WpB.loopC m (fun i => [(8, .int .i64 (i : Int)), (7, .int .i64 (offs ⟨.slice sa sn scap, sn, sx⟩ ⟨.slice ta tn' tcap, tn', tx⟩ i : Int)), (4, .pointer (some ⟨N + h0.sz, 0, none⟩)), (2, .int .i64 (m : Int)), (0, .slice sa sn scap)]) (fun i h' => h' = h) rfl (by repeat first | exact sub_nil | refine sub_cons rfl ?_) ?_
  rintro i h hi rfl
  repeat first | refine qN ?_ | refine qM rfl ?_ | refine qA rfl ?_ | refine qS rfl ?_ | refine qL H b1 rfl ?_ | refine qT rfl ?_ | refine qF rfl ?_ | refine qI i (by omega) rfl ?_ | refine qI io (by omega) rfl ?_ | refine qP rfl ?_ | refine wQ ?_ | refine wR ?_ | refine wD ?_ | refine wN rfl ?_ | refine wS ?_
  refine WpB.cond rfl (fun ht => ?_) fun ht => ?_
  · have hlt : i < m := by simpa using ht
    have hlt2 : i < tn' := by omega
    obtain ⟨b, off, rfl, hc⟩ := htx i hlt2
    obtain ⟨hi1, hi2⟩ := hin i hlt2
    simp only at hi1 hi2
    obtain ⟨j, hj⟩ := Int.eq_ofNat_of_zero_le hi1
    have hjn : j < sn := by omega
    obtain ⟨b2, off2, rfl, hc2⟩ := hsx j hjn
    have hcols := (hso j hjn).cols
    obtain ⟨_, ⟨ca, ccap, hcv, _, _, _⟩, _⟩ := hcols
    have hnc : ncols ⟨.slice (some ⟨b2, off2, none⟩) sn scap, sn, sx⟩ ⟨.slice (some ⟨b, off, none⟩) tn' tcap, tn', tx⟩ i = (sx j).cols.n := by
      simp only [ncols, hj]; rfl
    have ho1 := offs_le hb0 (i := i + 1) (by show i + 1 ≤ tn'; omega)
    have ho2 : offs ⟨.slice (some ⟨b2, off2, none⟩) sn scap, sn, sx⟩ ⟨.slice (some ⟨b, off, none⟩) tn' tcap, tn', tx⟩ (i + 1) = offs ⟨.slice (some ⟨b2, off2, none⟩) sn scap, sn, sx⟩ ⟨.slice (some ⟨b, off, none⟩) tn' tcap, tn', tx⟩ i + (sx j).cols.n := by
      rw [← hnc]; rfl
    simp only at ho1
    rw [hj] at hc
    refine WpB.skip ?_
    refine WpB.seq (WpB.block ?_)
    repeat first | refine qN ?_ | refine qM rfl ?_ | refine qA rfl ?_ | refine qS rfl ?_ | refine qL H b1 rfl ?_ | refine qT rfl ?_ | refine qF rfl ?_ | refine qI i (by omega) rfl ?_ | refine qI io (by omega) rfl ?_ | refine qP rfl ?_ | refine wQ ?_ | refine wR ?_ | refine wD ?_ | refine wN rfl ?_ | refine wS ?_
    refine SpB.indexN hlt2 rfl rfl rfl rfl rfl rfl rfl rfl rfl ?_
    refine SpB.loadRC H hc rfl rfl rfl rfl rfl rfl rfl ?_
    refine SpB.indexN (n := j) hjn rfl rfl rfl rfl rfl rfl rfl rfl rfl ?_
    repeat first | refine qN ?_ | refine qM rfl ?_ | refine qA rfl ?_ | refine qS rfl ?_ | refine qL H b1 rfl ?_ | refine qT rfl ?_ | refine qF rfl ?_ | refine qI i (by omega) rfl ?_ | refine qI io (by omega) rfl ?_ | refine qP rfl ?_ | refine wQ ?_ | refine wR ?_ | refine wD ?_ | refine wN rfl ?_ | refine wS ?_
    refine SpB.load (v := .slice ca (sx j).cols.n ccap) rfl rfl rfl (loadT_cell rfl rfl ?_) rfl rfl ?_
    · have := cell_at (H.ext _ _ _ _ hc2).2 (j := 1) (v := .slice ca (sx j).cols.n ccap) (by simp only [Tb.cells, hcv]; rfl)
      exact this
    have w : IntKind.i64.wrap ((offs ⟨.slice (some ⟨b2, off2, none⟩) sn scap, sn, sx⟩ ⟨.slice (some ⟨b, off, none⟩) tn' tcap, tn', tx⟩ i : Int) + ((sx j).cols.n : Int)) = (offs ⟨.slice (some ⟨b2, off2, none⟩) sn scap, sn, sx⟩ ⟨.slice (some ⟨b, off, none⟩) tn' tcap, tn', tx⟩ (i + 1) : Int) := by
      rw [wrap_small (by omega) (by omega), ho2]; omega
    repeat first | refine qN ?_ | refine qM rfl ?_ | refine qA rfl ?_ | refine qS rfl ?_ | refine qL H b1 rfl ?_ | refine qT rfl ?_ | refine qF rfl ?_ | refine qI i (by omega) rfl ?_ | refine qI io (by omega) rfl ?_ | refine qP rfl ?_ | refine wQ ?_ | refine wR ?_ | refine wD ?_ | refine wN rfl ?_ | refine wS ?_
    refine ⟨hlt, sub_cons rfl (sub_cons (by show some (Value.int .i64 (IntKind.i64.wrap _)) = _; rw [w]) (sub_cons rfl (sub_cons rfl (sub_cons rfl sub_nil)))), rfl, rfl⟩
  · refine WpB.exit ?_
    have hge : ¬ i < m := by simpa using ht
    obtain rfl : i = m := by omega
    repeat first | refine qN ?_ | refine qM rfl ?_ | refine qA rfl ?_ | refine qS rfl ?_ | refine qL H b1 rfl ?_ | refine qT rfl ?_ | refine qF rfl ?_ | refine qI i (by omega) rfl ?_ | refine qI io (by omega) rfl ?_ | refine qP rfl ?_ | refine wQ ?_ | refine wR ?_ | refine wD ?_ | refine wN rfl ?_ | refine wS ?_
    exact WpB.ret ⟨_, rfl, rfl, Nat.le_refl _⟩

end Go.Proofs.YtkjkcoemloakhaaGreat
end


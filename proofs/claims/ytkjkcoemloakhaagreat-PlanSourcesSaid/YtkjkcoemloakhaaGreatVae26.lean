/- The caller's data by their types: what a reading of an argument gives the evaluator. -/
import Derived.Test.YtkjkcoemloakhaaGreatVae25
import Derived.Deep.Slices
import Derived.SizedLaws
set_option linter.unusedVariables false
set_option linter.unusedSimpArgs false
namespace Go.Vae
open Go Go.RowKit

variable {P : Program} {T : Tabs}

/-- The cells are a value of this type, whose parts lie in the caller's memory. -/
def Rd (T : Tabs) (rd : RO) : Nat → TypeId → List Value → Prop
  | 0, _, _ => False
  | k + 1, t, cs => match T.ty t with
    | none => False
    | some ti => match ti.k with
      | .int q => ∃ n, cs = [.int q n] ∧ (Lit.int q n).wf = true
      | .bool => ∃ b, cs = [.bool b]
      | .string => ∃ s : ByteArray, cs = [.string s] ∧ s.data.toList.length ≤ reachBytes
      | .slice e => ∃ a len cap, cs = [.slice a len cap] ∧ len ≤ cap ∧ cap < unk ∧ ∃ ei, T.ty e = some ei ∧ cap * ei.bytes ≤ reachBytes ∧
          ∀ i, i < len → ∃ b off cs', a = some ⟨b, off, none⟩ ∧ rd b (off + i * ei.size) ei.size = some cs' ∧ Rd T rd k e cs'
      | .struct fs => cs.length = ti.size ∧ ∀ f ∈ fs, ∃ fi, T.ty f.1 = some fi ∧ Rd T rd k f.1 ((cs.drop f.2).take fi.size)
      | _ => False

def coverB (T : Tabs) (fs : List (TypeId × Nat)) (size : Nat) : Bool :=
  (List.range size).all fun i => fs.any fun f => match T.ty f.1 with
    | some fi => Nat.ble f.2 i && Nat.blt i (f.2 + fi.size)
    | none => false

/-- Types of plain data, closed under their parts. -/
def plainB (T : Tabs) (S : List TypeId) : Bool := S.all fun t => match T.ty t with
  | none => false
  | some ti => match ti.k with
    | .int _ | .bool | .string => true
    | .slice e => lmem e S && match T.ty e with | some ei => Nat.ble 1 ei.size | none => false
    | .struct fs => (fs.all fun f => lmem f.1 S) && coverB T fs ti.size
    | _ => false

theorem lmem_mem {k : Nat} : ∀ {l : List Nat}, lmem k l = true → k ∈ l
  | [], h => by cases h
  | x :: xs, h => by
    simp only [lmem, Bool.or_eq_true] at h
    rcases h with h | h
    · rw [show k = x by simpa [Nat.beq_eq] using h]; simp
    · exact List.mem_cons_of_mem _ (lmem_mem h)

theorem mem_lmem {k : Nat} : ∀ {l : List Nat}, k ∈ l → lmem k l = true
  | [], h => by simp at h
  | x :: xs, h => by
    simp only [lmem, Bool.or_eq_true]
    rcases List.mem_cons.1 h with h | h
    · exact .inl (by subst h; simp)
    · exact .inr (mem_lmem h)

theorem roCells_of {ro : Nat → Option Value} : ∀ (l : List Value) (off : Nat), (∀ j v, l[j]? = some v → ro (off + j) = some v) → roCells ro off l.length = some l
  | [], off, _ => rfl
  | x :: xs, off, h => by
    have h0 : ro off = some x := h 0 x rfl
    simp only [List.length_cons, roCells, h0]
    rw [roCells_of xs (off + 1) fun j v hv => by rw [show off + 1 + j = off + (j + 1) by omega]; exact h (j + 1) v (by simpa using hv)]
    rfl

theorem cell_some {W : World} {a : Addr} {v : Value} (h : W.cell? a = some v) : a.spot = none ∧ a.block < W.heap.size := by
  unfold World.cell? at h
  split at h
  · rename_i c _ _ hc
    split at h
    · cases h
    · rename_i hs
      exact ⟨by simpa using hs, (Array.getElem?_eq_some_iff.1 hc).1⟩
  · cases h

theorem TyOK.cellsOf {t : TypeId} {ti : TI} (h : TyOK P t ti) : P.cellsOf t = ti.size ∧ P.bytesOf t = ti.bytes := by
  obtain ⟨i, z, h1, h2, h3, _⟩ := h.info
  simp [Program.cellsOf, Program.bytesOf, h1, h2, h3]

/-- What is read of an argument lies before the evaluator. -/
theorem rd_of_trod (ht : TabsOK P T) {S : List TypeId} (hS : plainB T S = true) {W : World} {ng : Nat} {H : Type} {enc : TypeId × Value → H} {held : Bool} :
    ∀ (fuel : Nat) (t : TypeId) (cs : List Value) (d : DataW H) (pl : List MemPlace), t ∈ S → DataW.trod enc P W 0 (fun _ => true) held fuel t cs = some (d, pl) → (∀ n ∈ d.weights P t, n ≤ reachBytes) →
      (∀ v ∈ cs, okC W.heap.size v = true) ∧ Rd T (AH.base W ng).rd fuel t (cs.map (can W.heap.size))
  | 0, t, cs, d, pl, _, h, _ => by simp [DataW.trod] at h
  | fuel + 1, t, cs, d, pl, hm, h, hw => by
    have ih := rd_of_trod ht hS (W := W) (ng := ng) (enc := enc) (held := held) fuel
    have hp := (List.all_eq_true.1 hS) t hm
    unfold Rd
    cases hti : T.ty t with
    | none => rw [hti] at hp; cases hp
    | some ti =>
      rw [hti] at hp
      have hty := ht.ty t ti hti
      obtain ⟨ds, hu, _, hk⟩ := hty.desc
      simp only at hp ⊢
      cases hq : ti.k with
      | other => rw [hq] at hp; cases hp
      | array n e => rw [hq] at hp; cases hp
      | int q =>
        rw [hq] at hk
        have hk : ds = .int q := hk
        subst hk
        obtain ⟨n, rfl, _, h2⟩ := DataW.trod_int hu h
        exact ⟨fun v hv => by simp at hv; subst hv; rfl, n, rfl, h2⟩
      | bool =>
        rw [hq] at hk
        have hk : ds = .bool := hk
        subst hk
        obtain ⟨b, rfl, _⟩ := DataW.trod_bool hu h
        exact ⟨fun v hv => by simp at hv; subst hv; rfl, b, rfl⟩
      | string =>
        rw [hq] at hk
        have hk : ds = .string := hk
        subst hk
        obtain ⟨s, rfl, h1, h2⟩ := DataW.trod_string hu h
        injection h1 with h1 _
        subst h1
        refine ⟨fun v hv => by simp at hv; subst hv; rfl, s, rfl, hw _ ?_⟩
        simp [DataW.weights]
      | slice e =>
        rw [hq] at hk hp
        have hk : ds = .slice e := hk
        subst hk
        simp only [Bool.and_eq_true] at hp
        obtain ⟨he, hpe⟩ := hp
        cases hei : T.ty e with
        | none => rw [hei] at hpe; cases hpe
        | some ei =>
          rw [hei] at hpe
          have hpos : 1 ≤ ei.size := Nat.le_of_ble_eq_true hpe
          obtain ⟨hce, hbe⟩ := (ht.ty e ei hei).cellsOf
          rcases DataW.trod_slice hu h with ⟨rfl, h1⟩ | ⟨a, len, cap, elems, rest, n, hn, rfl, h1, _, hl, hc, hel, hes, hre, _⟩
          · exact ⟨fun v hv => by simp at hv; subst hv; rfl, none, 0, 0, rfl, Nat.le_refl _, by decide, ei, hei, by simp, fun i hi => absurd hi (Nat.not_lt_zero _)⟩
          · injection hn with hn
            subst hn
            injection h1 with h1 _
            subst h1
            obtain ⟨hrl, hrs⟩ := hre rfl
            have hcu : cap < unk := by
              have : maxLen < unk := by decide
              omega
            have hwt : cap * ei.bytes ≤ reachBytes := by
              have := hw ((elems.length + rest.length) * P.bytesOf e) (by simp [DataW.weights, hu])
              rw [hel, hrl, hbe, Nat.add_sub_cancel' hl] at this
              exact this
            have one : ∀ i, i < cap → ∃ cs', W.cells? 0 (a.add (i * ei.size)) ei.size = some cs' := fun i hi => by
              rw [hce] at hes hrs
              by_cases hil : i < len
              · have := hes i hil
                rw [List.getElem?_eq_getElem (by omega)] at this
                obtain ⟨cs', h1, _⟩ := Option.bind_eq_some_iff.1 this
                exact ⟨cs', h1⟩
              · have := hrs (i - len) (by omega)
                rw [List.getElem?_eq_getElem (by omega), show len + (i - len) = i by omega] at this
                obtain ⟨cs', h1, _⟩ := Option.bind_eq_some_iff.1 this
                exact ⟨cs', h1⟩
            have hplain : 0 < cap → a.spot = none ∧ a.block < W.heap.size := fun hpc => by
              obtain ⟨cs', h1⟩ := one 0 hpc
              obtain ⟨_, h2, h3⟩ := World.cells?_some h1
              have h4 := h3 0 (by omega)
              rw [List.getElem?_eq_getElem (by omega)] at h4
              simp only [Nat.zero_mul, Addr.add, if_true] at h4
              exact cell_some h4
            obtain ⟨b, off, spot⟩ := a
            by_cases hpc : 0 < cap
            · obtain ⟨h2, h3⟩ := hplain hpc
              simp only at h2 h3
              subst h2
              have hb : Nat.blt b W.heap.size = true := by simpa [Nat.blt_eq] using h3
              have hcan : canC W.heap.size (.slice (some ⟨b, off, none⟩) len cap) = some (.slice (some ⟨b, off, none⟩) len cap) := by
                have : Nat.beq cap 0 = false := by
                  cases hq : Nat.beq cap 0
                  · rfl
                  · have := Nat.eq_of_beq_eq_true hq; omega
                have hcu' : Nat.blt cap unk = true := by simpa [Nat.blt_eq] using hcu
                simp [canC, this, hcu', hb]
              refine ⟨fun v hv => by simp at hv; subst hv; simp [okC, hcan], some ⟨b, off, none⟩, len, cap, by simp [can, hcan], hl, hcu, ei, hei, hwt, fun i hi => ?_⟩
              have h4 := hes i hi
              rw [hce, List.getElem?_eq_getElem (by omega)] at h4
              obtain ⟨cs', h5, h6⟩ := Option.bind_eq_some_iff.1 h4
              obtain ⟨h7, h8⟩ := ih e cs' _ _ (lmem_mem he) (show DataW.trod enc P W 0 (fun _ => true) held fuel e cs' = some (elems[i].1, elems[i].2) from h6) (fun k hk => hw k (by
                simp only [DataW.weights, hu, List.mem_cons, List.mem_append]
                refine .inr (.inl ?_)
                clear ih
                have : elems[i].1 ∈ elems.map (·.1) := List.mem_map.2 ⟨_, List.getElem_mem _, rfl⟩
                revert this hk
                generalize elems[i].1 = x
                intro hk
                induction elems.map (·.1) with
                | nil => simp
                | cons y ys ihy =>
                  intro hx
                  simp only [DataW.weightsAll, List.mem_append]
                  rcases List.mem_cons.1 hx with hx | hx
                  · subst hx; exact .inl hk
                  · exact .inr (ihy hx)))
              obtain ⟨_, h9, h10⟩ := World.cells?_some h5
              refine ⟨b, off, cs'.map (can W.heap.size), rfl, ?_, h8⟩
              show (bif Nat.blt b W.heap.size then roCells (baseRo W b) (off + i * ei.size) ei.size else none) = _
              rw [hb]
              simp only [cond]
              have := roCells_of (ro := baseRo W b) (cs'.map (can W.heap.size)) (off + i * ei.size) (fun k v hv => by
                rw [List.getElem?_map] at hv
                obtain ⟨u, hu1, hu2⟩ := Option.map_eq_some_iff.1 hv
                have hk : k < ei.size := by rw [← h9]; exact (List.getElem?_eq_some_iff.1 hu1).1
                have h11 := h10 k hk
                rw [hu1, Go.WideShapes.add_plain, Go.WideShapes.add_plain] at h11
                simp only [baseRo, h11]
                rw [okC_can (h7 u (List.mem_of_getElem? hu1)), hu2])
              rw [List.length_map, h9] at this
              exact this
            · have hc0 : cap = 0 := by omega
              subst hc0
              obtain rfl : len = 0 := by omega
              exact ⟨fun v hv => by simp at hv; subst hv; rfl, none, 0, 0, rfl, Nat.le_refl _, by decide, ei, hei, by simp, fun i hi => absurd hi (Nat.not_lt_zero _)⟩
      | struct fs =>
        rw [hq] at hk hp
        obtain ⟨fields, rfl, hfs, _⟩ := hk
        simp only [Bool.and_eq_true] at hp
        obtain ⟨hmem, hcov⟩ := hp
        obtain ⟨xs, n, hn, hx, hlen, hxl, hget⟩ := DataW.trod_struct hu h
        injection hn with hn
        subst hn
        injection hx with hx _
        subst hx
        rw [(hty.cellsOf).1] at hlen
        have each : ∀ f ∈ fs, ∃ fi, T.ty f.1 = some fi ∧ (∀ v ∈ (cs.drop f.2).take fi.size, okC W.heap.size v = true) ∧ Rd T (AH.base W ng).rd fuel f.1 (((cs.drop f.2).take fi.size).map (can W.heap.size)) := fun f hf => by
          have hin := lmem_mem ((List.all_eq_true.1 hmem) f hf)
          have hp2 := (List.all_eq_true.1 hS) f.1 hin
          cases hfi : T.ty f.1 with
          | none => rw [hfi] at hp2; cases hp2
          | some fi =>
            rw [← hfs] at hf
            obtain ⟨fd, hfd, rfl⟩ := List.mem_map.1 hf
            obtain ⟨i, hi⟩ := List.getElem?_of_mem hfd
            have hi' : fields[i]? = some fd := by simpa using hi
            have h1 := hget i fd hi'
            have hix : i < xs.length := by rw [hxl]; exact (Array.getElem?_eq_some_iff.1 hi').1
            rw [List.getElem?_eq_getElem hix, ((ht.ty fd.type fi hfi).cellsOf).1] at h1
            obtain ⟨h2, h3⟩ := ih fd.type _ _ _ hin (show DataW.trod enc P W 0 (fun _ => true) held fuel fd.type ((cs.drop fd.offset).take fi.size) = some (xs[i].1, xs[i].2) from h1) (fun k hk => hw k (by
              simp only [DataW.weights, hu]
              exact DataW.weights_mem_each (j := i) (by simp [hi]) (by simp [hix]) k hk))
            exact ⟨fi, rfl, h2, h3⟩
        refine ⟨fun v hv => ?_, by simp [hlen], fun f hf => ?_⟩
        · obtain ⟨i, hi⟩ := List.getElem?_of_mem hv
          have hil : i < ti.size := by rw [← hlen]; exact (List.getElem?_eq_some_iff.1 hi).1
          have hc := (List.all_eq_true.1 hcov) i (by simpa using hil)
          obtain ⟨f, hf, hc⟩ := List.any_eq_true.1 hc
          obtain ⟨fi, h1, h2, _⟩ := each f hf
          rw [h1] at hc
          simp only [Bool.and_eq_true, Nat.ble_eq, Nat.blt_eq] at hc
          refine h2 v (List.mem_of_getElem? (i := i - f.2) ?_)
          rw [List.getElem?_take_of_lt (by omega), List.getElem?_drop, show f.2 + (i - f.2) = i by omega]
          exact hi
        · obtain ⟨fi, h1, _, h3⟩ := each f hf
          refine ⟨fi, h1, ?_⟩
          rw [List.map_take, List.map_drop] at h3
          exact h3

end Go.Vae

/- Each operation of the evaluator is carried out by the machine in the same way: addresses, slices, parts. -/
import Derived.Test.YtkjkcoemloakhaaGreatVae5
set_option linter.unusedVariables false
set_option linter.unusedSimpArgs false
namespace Go.Vae
open Go Go.RowKit

variable {P : Program} {T : Tabs} {x : Cx} {j : Inj} {B : Nat → Option AO} {w : World}

theorem AddrR.add {b off n : Nat} {a' : Addr} (h : AddrR j ⟨b, off, none⟩ a') : AddrR j ⟨b, off + n, none⟩ (a'.add n) := by
  obtain ⟨h1, h2, c, s, h3, h4, h5⟩ := h
  obtain ⟨c', o', sp⟩ := a'
  have h2 : sp = none := h2
  have h5 : o' = off + s := h5
  subst h2
  rw [Addr.add_lit]
  exact ⟨rfl, rfl, c, s, h3, h4, show o' + n = off + n + s by omega⟩

theorem struct_field (ht : TabsOK P T) {s : TypeId} {ti : TI} (hti : T.ty s = some ti) {fs : List (TypeId × Nat)} (hk : ti.k = .struct fs) {f : Nat} {ft o : Nat} (hf : lget fs f = some (ft, o)) :
    ∃ (fields : Array Field) (fd : Field), P.underlying s = some (.struct fields) ∧ fields[f]? = some fd ∧ fd.type = ft ∧ fd.offset = o := by
  obtain ⟨d, d1, _, d3⟩ := (ht.ty s ti hti).desc
  rw [hk] at d3
  obtain ⟨fields, rfl, f2, f3⟩ := d3
  rw [lget_eq, ← f2] at hf
  simp only [List.getElem?_map, Option.map_eq_some_iff, Prod.mk.injEq] at hf
  obtain ⟨fd, h1, h2, h3⟩ := hf
  exact ⟨fields, fd, d1, by rw [← Array.getElem?_toList]; exact h1, h2, h3⟩

theorem fieldAddr_ok {sz : Nat} (ht : TabsOK P T) (r : Rel x j B w) {s : TypeId} {f : Nat} {a a' v : Value} {e : Eff} {rd : List Nat} (h : afieldAddr T s a f = some (.val v e rd)) (ha : VR j a a') :
    Out P x j B sz w (nv (Instr.fieldAt s a' f)) v e := by
  unfold afieldAddr at h
  split at h
  · rename_i b off ti hti
    obtain ⟨ad, rfl, had⟩ := ha.ptr
    split at h
    · rename_i fs hk
      split at h
      · rename_i ft o hf
        split at h
        · rename_i fi hfi
          cases hb : Nat.ble 1 fi.size with
          | false => rw [hb] at h; cases h
          | true =>
            rw [hb] at h
            obtain ⟨rfl, rfl, rfl⟩ := ok_some h
            obtain ⟨fields, fd, h1, h2, h3, h4⟩ := struct_field ht hti hk hf
            have hsz := (ht.ty ft fi hfi).sizeOf w
            have hne : fi.size ≠ 0 := by have := Nat.le_of_ble_eq_true hb; omega
            refine Out.pure r (nv_run (v := .pointer (some (ad.add o))) ?_) (.of (.ptr had.add))
            simp [Instr.fieldAt, run_underlying h1, h2, Instr.sureAddr, fieldPlace, h3, hsz, hne, h4]
        · cases h
      · cases h
    · cases h
  · cases h

theorem part_rel (ht : TabsOK P T) {t : TypeId} {cs cs' : List Value} (hcs : All2 (SR j) cs cs') {off : Nat} {v : Value} (h : partT T t cs off = some v) (w : World) : ∃ v', (part t ⟨cs'⟩ off).run P w = .ok v' w ∧ VR j v v' := by
  unfold partT at h
  split at h
  · rename_i ti hti
    have hty := ht.ty t ti hti
    have h1 := hty.isAgg w
    have h2 := hty.sizeOf w
    cases hagg : ti.agg with
    | true =>
      rw [hagg] at h h1
      simp only [cond, Option.map_eq_some_iff] at h
      obtain ⟨l, hcut, rfl⟩ := h
      obtain ⟨l1, l2, l3⟩ := lcut_spec _ _ _ _ hcut
      refine ⟨.agg ⟨(cs'.drop off).take ti.size⟩, ?_, .ofA (.agg (All2.of (by simp [hcs.length, l1]; omega) fun i u u' hu hu' => ?_))⟩
      · simp only [part, Sem.run_bind, h1, h2, Result.andThen_ok, if_true, Sem.run_pure]
        congr 2
        apply Array.ext'
        simp [List.take_drop]
      · have hi : i < ti.size := by have := (List.getElem?_eq_some_iff.1 hu).1; omega
        rw [l3 i hi] at hu
        obtain ⟨u2, h3, h4⟩ := hcs.at_ _ _ hu
        simp [List.getElem?_take, hi, h3] at hu'
        subst hu'
        exact h4
    | false =>
      rw [hagg] at h h1
      simp only [cond] at h
      rw [lget_eq] at h
      obtain ⟨u', h3, h4⟩ := hcs.at_ _ _ h
      refine ⟨u', ?_, .of h4⟩
      simp [part, h1, h3]
  · cases h

theorem field_ok {sz : Nat} (ht : TabsOK P T) (r : Rel x j B w) {s : TypeId} {f : Nat} {a a' v : Value} {e : Eff} {rd : List Nat} (h : afield T s a f = some (.val v e rd)) (ha : VR j a a') :
    Out P x j B sz w (nv (Instr.field s a' f)) v e := by
  unfold afield at h
  split at h
  · rename_i cs ti hti
    obtain ⟨cs', rfl, hcs⟩ := ha.agg
    split at h
    · rename_i fs hk
      split at h
      · rename_i ft o hf
        obtain ⟨h1, rfl, rfl⟩ := okO_some h
        obtain ⟨fields, fd, h2, h3, h4, h5⟩ := struct_field ht hti hk hf
        obtain ⟨v', h6, h7⟩ := part_rel ht hcs h1 w
        refine Out.pure r (nv_run (v := v') ?_) h7
        simp [Instr.field, run_underlying h2, h3, asAgg, h4, h5, h6]
      · cases h
    · cases h
  · cases h

theorem kind_slice (ht : TabsOK P T) {t : TypeId} {ti : TI} (hti : T.ty t = some ti) {e : TypeId} (hk : ti.k = .slice e) : P.underlying t = some (.slice e) := by
  obtain ⟨d, d1, _, d3⟩ := (ht.ty t ti hti).desc
  rw [hk] at d3
  have d3 : d = .slice e := d3
  rw [d1, d3]

theorem kind_array (ht : TabsOK P T) {t : TypeId} {ti : TI} (hti : T.ty t = some ti) {n : Nat} {e : TypeId} (hk : ti.k = .array n e) : P.underlying t = some (.array n e) := by
  obtain ⟨d, d1, _, d3⟩ := (ht.ty t ti hti).desc
  rw [hk] at d3
  have d3 : d = .array n e := d3
  rw [d1, d3]

theorem kind_string (ht : TabsOK P T) {t : TypeId} {ti : TI} (hti : T.ty t = some ti) (hk : ti.k = .string) : P.underlying t = some .string := by
  obtain ⟨d, d1, _, d3⟩ := (ht.ty t ti hti).desc
  rw [hk] at d3
  have d3 : d = .string := d3
  rw [d1, d3]

theorem VR.slice {a : Addr} {n c : Nat} {v' : Value} (h : VR j (.slice (some a) n c) v') : ∃ a' c', v' = .slice (some a') n c' ∧ AddrR j a a' ∧ ((c = c' ∧ c < unk) ∨ CapR j a' n c c') := by
  have := h.sr (by simp) (by simp)
  cases this with
  | slice h1 h2 => exact ⟨_, _, rfl, h1, h2⟩

theorem VR.slice0 {n c : Nat} {v' : Value} (h : VR j (.slice none n c) v') : ∃ a', v' = .slice a' n c ∧ c < unk ∧ (a' = none ∨ (n = 0 ∧ c = 0)) := by
  have := h.sr (by simp) (by simp)
  cases this with
  | nilslice a' _ _ h1 h0 => exact ⟨a', rfl, h1, h0⟩

theorem indexAddr_ok {sz : Nat} (ht : TabsOK P T) (r : Rel x j B w) {t : TypeId} {a a' i i' v : Value} {e : Eff} {rd : List Nat} (h : aindexAddr T t a i = some (.val v e rd)) (ha : VR j a a') (hi : VR j i i') :
    Out P x j B sz w (nv (Instr.indexAt t a' i')) v e := by
  unfold aindexAddr at h
  split at h
  · rename_i b off len c k n ti hti
    obtain ⟨ad, c', rfl, had, _⟩ := ha.slice
    obtain rfl := hi.int
    split at h
    · rename_i el hk
      split at h
      · rename_i ei hei
        cases hb : (decide (0 ≤ n) && decide (n < (len : Int))) with
        | false => rw [hb] at h; cases h
        | true =>
          rw [hb] at h
          obtain ⟨rfl, rfl, rfl⟩ := ok_some h
          simp only [Bool.and_eq_true, decide_eq_true_eq] at hb
          refine Out.pure r (nv_run (v := .pointer (some (ad.add (n.toNat * ei.size)))) ?_) (.of (.ptr had.add))
          simp [Instr.indexAt, run_underlying (kind_slice ht hti hk), asIntOf, hb, (ht.ty el ei hei).sizeOf w]
      · cases h
    · cases h
  · rename_i b off k n ti hti
    obtain ⟨ad, rfl, had⟩ := ha.ptr
    obtain rfl := hi.int
    split at h
    · rename_i len el hk
      split at h
      · rename_i ei hei
        cases hb : (decide (0 ≤ n) && decide (n < (len : Int))) with
        | false => rw [hb] at h; cases h
        | true =>
          rw [hb] at h
          obtain ⟨rfl, rfl, rfl⟩ := ok_some h
          simp only [Bool.and_eq_true, decide_eq_true_eq] at hb
          refine Out.pure r (nv_run (v := .pointer (some (ad.add (n.toNat * ei.size)))) ?_) (.of (.ptr had.add))
          simp [Instr.indexAt, run_underlying (kind_array ht hti hk), asIntOf, Instr.sureAddr, hb, (ht.ty el ei hei).sizeOf w]
      · cases h
    · cases h
  · cases h

theorem index_ok {sz : Nat} (ht : TabsOK P T) (r : Rel x j B w) {t : TypeId} {a a' i i' v : Value} {e : Eff} {rd : List Nat} (h : aindex T t a i = some (.val v e rd)) (ha : VR j a a') (hi : VR j i i') :
    Out P x j B sz w (nv (Instr.index t a' i')) v e := by
  unfold aindex at h
  split at h
  · rename_i s k n ti hti
    obtain rfl := ha.str
    obtain rfl := hi.int
    split at h
    · rename_i hk
      cases hb : decide (0 ≤ n) with
      | false => rw [hb] at h; cases h
      | true =>
        rw [hb] at h
        simp only [cond] at h
        split at h
        · rename_i c hc
          obtain ⟨rfl, rfl, rfl⟩ := ok_some h
          simp only [decide_eq_true_eq] at hb
          rw [lget_eq] at hc
          have hc' : s[n.toNat]? = some c := by
            have h1 : n.toNat < s.data.toList.length := (List.getElem?_eq_some_iff.1 hc).1
            have h2 : n.toNat < s.size := h1
            rw [getElem?_pos s n.toNat h2]
            have h3 := (List.getElem?_eq_some_iff.1 hc).2
            rw [← h3]
            rfl
          refine Out.pure r (nv_run (v := .int .u8 c.toNat) ?_) (.of (.int _ _))
          simp [Instr.index, run_underlying (kind_string ht hti hk), asIntOf, hb, hc']
        · cases h
    · cases h
  · rename_i cs k n ti hti
    obtain ⟨cs', rfl, hcs⟩ := ha.agg
    obtain rfl := hi.int
    split at h
    · rename_i len el hk
      split at h
      · rename_i ei hei
        cases hb : (decide (0 ≤ n) && decide (n < (len : Int))) with
        | false => rw [hb] at h; cases h
        | true =>
          rw [hb] at h
          simp only [cond] at h
          obtain ⟨h1, rfl, rfl⟩ := okO_some h
          simp only [Bool.and_eq_true, decide_eq_true_eq] at hb
          obtain ⟨v', h6, h7⟩ := part_rel ht hcs h1 w
          refine Out.pure r (nv_run (v := v') ?_) h7
          simp [Instr.index, run_underlying (kind_array ht hti hk), asIntOf, hb, (ht.ty el ei hei).sizeOf w, h6]
      · cases h
    · cases h
  · cases h

theorem VR.tuple {vs : Array Value} {v' : Value} (h : VR j (.tuple vs) v') (hne : vs ≠ #[]) : ∃ vs', v' = .tuple ⟨vs'⟩ ∧ All2 (UR j) vs.toList vs' := by
  generalize he : Value.tuple vs = u at h
  cases h with
  | one h =>
    cases h with
    | any => injection he with he; exact absurd he hne
    | val h =>
      subst he
      cases h with
      | one h => cases h
  | tup h =>
    injection he with he
    subst he
    exact ⟨_, rfl, h⟩
  | skip => exact absurd he (by simp [skipV])

theorem extract_ok {sz : Nat} (r : Rel x j B w) {i : Nat} {a a' v : Value} {e : Eff} {rd : List Nat} (h : aextract a i = some (.val v e rd)) (ha : VR j a a') : Out P x j B sz w (nv (Instr.extract a' i)) v e := by
  unfold aextract at h
  split at h
  · rename_i vs
    obtain ⟨h1, rfl, rfl⟩ := okO_some h
    rw [lget_eq] at h1
    have hne : vs ≠ #[] := by
      intro e
      subst e
      simp at h1
    obtain ⟨vs', rfl, h2⟩ := ha.tuple hne
    obtain ⟨v', h3, h4⟩ := h2.at_ _ _ h1
    refine Out.pure r (nv_run (v := v') ?_) (.one h4)
    simp [Instr.extract, h3]
  · cases h

end Go.Vae

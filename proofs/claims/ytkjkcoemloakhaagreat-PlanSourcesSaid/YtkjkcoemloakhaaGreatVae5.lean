/- Each operation of the evaluator is carried out by the machine in the same way: built values, numbers, strings, addresses. -/
import Derived.Test.YtkjkcoemloakhaaGreatVae4
set_option linter.unusedVariables false
set_option linter.unusedSimpArgs false
namespace Go.Vae
open Go Go.RowKit

variable {P : Program} {T : Tabs} {x : Cx} {j : Inj} {B : Nat → Option AO} {w : World}

/-! ### fill -/
theorem fold_put (off : Nat) : ∀ (l : List Value) (st : Nat) (cells : Array Value),
    let r := (l.zipIdx st).foldl (fun cs (p : Value × Nat) => cs.setIfInBounds (off + p.2) p.1) cells
    r.size = cells.size ∧ ∀ i : Nat, i < cells.size → r[i]? = if off + st ≤ i ∧ i < off + st + l.length then l[i - (off + st)]? else cells[i]?
  | [], st, cells => by
    refine ⟨rfl, fun i hi => ?_⟩
    rw [if_neg (by simp only [List.length_nil]; omega)]
    rfl
  | v :: l, st, cells => by
    simp only [List.zipIdx_cons, List.foldl_cons]
    obtain ⟨h1, h2⟩ := fold_put off l (st + 1) (cells.setIfInBounds (off + st) v)
    refine ⟨by simpa using h1, fun i hi => ?_⟩
    rw [h2 i (by simpa using hi)]
    by_cases h3 : i = off + st
    · subst h3
      rw [if_neg (by omega), if_pos (by simp)]
      simp [hi]
    · by_cases h4 : off + (st + 1) ≤ i ∧ i < off + (st + 1) + l.length
      · rw [if_pos h4, if_pos (by simp; omega), show i - (off + st) = (i - (off + (st + 1))) + 1 by omega, List.getElem?_cons_succ]
      · rw [if_neg h4, if_neg (by simp; omega), Array.getElem?_setIfInBounds_ne (by omega)]

theorem fill_rel {placeA placeC : Nat → Option (Nat × Nat)} (hp : ∀ i pl, placeA i = some pl → placeC i = some pl) : ∀ (parts parts' : List (Nat × Value)) (cs r : List Value) (cur : Array Value),
    All2 (fun p p' => p.1 = p'.1 ∧ VR j p.2 p'.2) parts parts' → All2 (SR j) cs cur.toList → fillT placeA cs parts = some r →
    ∃ r', Instr.fill placeC cur parts' = some r' ∧ All2 (SR j) r r'.toList
  | [], _, cs, r, cur, .nil, hc, h => by
    simp [fillT] at h
    subst h
    exact ⟨cur, rfl, hc⟩
  | (i, v) :: parts, (i', v') :: parts', cs, r, cur, .cons ⟨hi, hv⟩ hr, hc, h => by
    have hi : i = i' := hi
    subst hi
    simp only [fillT] at h
    split at h
    · rename_i off size vs hpl hvs
      cases hb : Nat.beq vs.length size with
      | false => rw [hb] at h; cases h
      | true =>
        rw [hb] at h
        simp only [cond] at h
        split at h
        · rename_i cs1 hput
          have hl : vs.length = size := by simpa [Nat.beq_eq] using hb
          obtain ⟨vs', h1, h2⟩ := VR.vcells hv hvs
          obtain ⟨l1, l2, l3, l4⟩ := lput_spec _ _ _ _ hput
          have hcl : cur.size = cs.length := by have := hc.length; simpa using this
          have hvl : v'.cells.size = size := by rw [h1]; simp [h2.length, hl]
          obtain ⟨f1, f2⟩ := fold_put off vs' 0 cur
          have e1 : (v'.cells.zipIdx.foldl (fun cs (p : Value × Nat) => cs.setIfInBounds (off + p.2) p.1) cur) = ((vs'.zipIdx 0).foldl (fun cs (p : Value × Nat) => cs.setIfInBounds (off + p.2) p.1) cur) := by
            rw [h1, ← Array.foldl_toList, Array.toList_zipIdx]
          have hall : All2 (SR j) cs1 ((vs'.zipIdx 0).foldl (fun cs (p : Value × Nat) => cs.setIfInBounds (off + p.2) p.1) cur).toList := by
            refine All2.of (by rw [Array.length_toList, f1, hcl, l1]) fun i u u' hu hu' => ?_
            rw [Array.getElem?_toList, f2 i (by have := (List.getElem?_eq_some_iff.1 hu).1; omega)] at hu'
            split at hu'
            · rename_i h3
              rw [show i = off + (i - (off + 0)) by omega, l3 _ (by have := h2.length; omega)] at hu
              obtain ⟨u2, h4, h5⟩ := h2.at_ _ _ hu
              rw [hu'] at h4
              injection h4 with h4
              subst h4
              exact h5
            · rename_i h3
              rw [l4 i (by have := h2.length; omega)] at hu
              obtain ⟨u2, h4, h5⟩ := hc.at_ _ _ hu
              rw [Array.getElem?_toList, hu'] at h4
              injection h4 with h4
              subst h4
              exact h5
          obtain ⟨r', h6, h7⟩ := fill_rel hp parts parts' cs1 r _ hr hall h
          refine ⟨r', ?_, h7⟩
          have hcond : (v'.cells.size ≠ size || decide (off + v'.cells.size > cur.size)) = false := by
            simp [hvl]
            omega
          simp only [Instr.fill, hp i _ hpl]
          rw [if_neg (by simp [hvl]; omega)]
          rw [← h6, ← e1]
        · cases h
    · cases h

theorem placeOf_spec (ht : TabsOK P T) {fs : List (TypeId × Nat)} {fields : Array Field} (hf : fields.toList.map (fun f => (f.type, f.offset)) = fs) {places : List (Nat × Nat)}
    (hp : fields.toList.mapM (fun f => (P.info? f.type).map fun i => (f.offset, i.size)) = some places) : ∀ i pl, placeOf T fs i = some pl → places[i]? = some pl := by
  subst hf
  intro i pl h
  unfold placeOf at h
  split at h
  · rename_i ft off hg
    split at h
    · rename_i fi hfi
      injection h with h
      subst h
      rw [lget_eq] at hg
      obtain ⟨ii, z, h1, h2, _⟩ := (ht.ty ft fi hfi).info
      generalize fields.toList = l at hg hp
      induction l generalizing i places with
      | nil => simp at hg
      | cons f l ih =>
        simp only [List.mapM_cons, Option.bind_eq_bind, Option.pure_def] at hp
        cases hi : P.info? f.type with
        | none => simp [hi] at hp
        | some i0 =>
          cases hr : l.mapM (fun f => (P.info? f.type).map fun i => (f.offset, i.size)) with
          | none => simp [hi, hr] at hp
          | some rest =>
            simp [hi, hr] at hp
            subst hp
            cases i with
            | zero =>
              simp at hg
              obtain ⟨rfl, rfl⟩ := hg
              rw [hi] at h1
              injection h1 with h1
              subst h1
              simp [h2]
            | succ i =>
              simp at hg
              have := ih i (by simpa using hg) hr
              simpa using this
    · cases h
  · cases h

theorem mapM_some {fs : List Field} (h : ∀ f ∈ fs, (P.info? f.type).isSome = true) : ∃ places, fs.mapM (fun f => (P.info? f.type).map fun i => (f.offset, i.size)) = some places := by
  induction fs with
  | nil => exact ⟨[], rfl⟩
  | cons f fs ih =>
    obtain ⟨r, hr⟩ := ih fun g hg => h g (by simp [hg])
    obtain ⟨i, hi⟩ := Option.isSome_iff_exists.1 (h f (by simp))
    exact ⟨(f.offset, i.size) :: r, by simp [List.mapM_cons, hi, hr]⟩

theorem okO_some {o : Option Value} {v : Value} {e : Eff} {rd : List Nat} (h : okO o = some (.val v e rd)) : o = some v ∧ e = .nil ∧ rd = [] := by
  unfold okO at h
  split at h
  · injection h with h; injection h with h1 h2 h3; exact ⟨by rw [h1], h2.symm, h3.symm⟩
  · cases h

theorem ok_some {u v : Value} {e : Eff} {rd : List Nat} (h : ok u = some (.val v e rd)) : u = v ∧ e = .nil ∧ rd = [] := by
  unfold ok at h
  injection h with h; injection h with h1 h2 h3; exact ⟨h1, h2.symm, h3.symm⟩

theorem build_ok {sz : Nat} (ht : TabsOK P T) (r : Rel x j B w) {t : TypeId} {ps : List (Nat × Value)} {ps' : Array (Nat × Value)} {v : Value} {e : Eff} {rd : List Nat} (h : abuild T t ps = some (.val v e rd))
    (hps : All2 (fun p p' => p.1 = p'.1 ∧ VR j p.2 p'.2) ps ps'.toList) : Out P x j B sz w (nv (Instr.build t ps')) v e := by
  unfold abuild at h
  split at h
  · rename_i ti hti
    have hty := ht.ty t ti hti
    obtain ⟨i, z, i1, i2, i3, i4, i5⟩ := hty.info
    obtain ⟨d, d1, d2, d3⟩ := hty.desc
    have hz : All2 (SR j) ti.zero z.cells.toList := by rw [i5]; exact All2.refl (hty.zsr j)
    split at h
    · rename_i fs hk
      obtain ⟨h1, rfl, rfl⟩ := okO_some h
      simp only [Option.map_eq_some_iff] at h1
      obtain ⟨cs, h1, rfl⟩ := h1
      rw [hk] at d3
      obtain ⟨fields, rfl, f2, f3⟩ := d3
      obtain ⟨places, hp⟩ := mapM_some f3
      obtain ⟨r', h2, h3⟩ := fill_rel (placeC := (places.toArray[·]?)) (fun i pl hpl => by simpa using placeOf_spec ht f2 hp i pl hpl) ps ps'.toList ti.zero cs z.cells hps hz h1
      refine Out.pure r (nv_run (run_build w t ps' r' ?_)) (.ofA (.agg (cs' := r'.toList) h3))
      simp only [Program.built, i1, d1, i4, hp]
      exact h2
    · rename_i n el hk
      split at h
      · rename_i ei hei
        obtain ⟨h1, rfl, rfl⟩ := okO_some h
        simp only [Option.map_eq_some_iff] at h1
        obtain ⟨cs, h1, rfl⟩ := h1
        rw [hk] at d3
        have d3 : d = .array n el := d3
        subst d3
        obtain ⟨i', z', e1, e2, _⟩ := (ht.ty el ei hei).info
        obtain ⟨r', h2, h3⟩ := fill_rel (placeC := fun i => some (i * i'.size, i'.size)) (fun i pl hpl => by rw [e2]; exact hpl) ps ps'.toList ti.zero cs z.cells hps hz h1
        refine Out.pure r (nv_run (run_build w t ps' r' ?_)) (.ofA (.agg (cs' := r'.toList) h3))
        simp only [Program.built, i1, d1, i4, e1]
        exact h2
      · cases h
    · cases h
  · cases h

theorem reps_length (z : List Value) : ∀ n, (reps n z).length = n * z.length
  | 0 => by simp [reps]
  | n + 1 => by simp [reps, reps_length z n, Nat.add_mul]; omega

theorem reps_at (z : List Value) (hz : 0 < z.length) : ∀ (n i : Nat), i < n * z.length → (reps n z)[i]? = z[i % z.length]?
  | 0, i, h => by omega
  | n + 1, i, h => by
    simp only [reps, List.getElem?_append]
    split
    · rename_i h1
      rw [Nat.mod_eq_of_lt h1]
    · rename_i h1
      rw [reps_at z hz n (i - z.length) (by rw [Nat.add_mul] at h; omega)]
      congr 1
      have : i = (i - z.length) + z.length := by omega
      conv => rhs; rw [this, Nat.add_mod_right]

theorem reps_sr {z : List Value} (h : ∀ v ∈ z, SR j v v) : ∀ n, ∀ v ∈ reps n z, SR j v v
  | 0, v, hv => by simp [reps] at hv
  | n + 1, v, hv => by
    simp only [reps, List.mem_append] at hv
    rcases hv with hv | hv
    · exact h v hv
    · exact reps_sr h n v hv

theorem range_map (z : Array Value) (n : Nat) (hz : 0 < z.size) : ((Array.range (n * z.size)).map (z[· % z.size]!)).toList = reps n z.toList := by
  apply List.ext_getElem?
  intro i
  by_cases hi : i < n * z.size
  · rw [reps_at z.toList (by simpa using hz) n i (by simpa using hi)]
    have hm : i % z.size < z.size := Nat.mod_lt _ hz
    simp [hi, hm, getElem!_pos]
  · rw [List.getElem?_eq_none (by simp; omega), List.getElem?_eq_none (by rw [reps_length]; simp; omega)]

theorem buildSlice_ok {hp : AH} (ht : TabsOK P T) (hx : hp.of x) (hng : x.ng ≤ x.n) (r : Rel x j B w) {t : TypeId} {len : Nat} {ps : List (Nat × Value)} {ps' : Array (Nat × Value)} {v : Value} {e : Eff} {rd : List Nat} (hn : hp.sz < esz hp.sz e → j (x.n + hp.sz) = none)
    (h : abuildSlice T hp t len ps = some (.val v e rd)) (hps : All2 (fun p p' => p.1 = p'.1 ∧ VR j p.2 p'.2) ps ps'.toList) : Out P x j B hp.sz w (nv (Instr.buildSlice t len ps')) v e := by
  unfold abuildSlice at h
  split at h
  · rename_i ti hti
    split at h
    · rename_i el hk
      split at h
      · rename_i ei hei
        cases hb : (Nat.ble (len * ei.size) 16777216 && Nat.ble 1 ei.size) with
        | false => rw [hb] at h; cases h
        | true =>
          rw [hb] at h
          simp only [cond] at h
          split at h
          · rename_i cs hfill
            injection h with h
            injection h with h1 h2 h3
            subst h1 h2
            simp only [Bool.and_eq_true, Nat.ble_eq] at hb
            have hty := ht.ty el ei hei
            obtain ⟨d, d1, d2, d3⟩ := (ht.ty t ti hti).desc
            rw [hk] at d3
            have d3 : d = .slice el := d3
            subst d3
            obtain ⟨z, z1, z2⟩ := hty.zeroValue w
            have hzs : z.cells.size = ei.size := by rw [z2]; simpa using hty.zlen
            have hzl : z.cells.toList = ei.zero := by rw [z2]
            have hrm := range_map z.cells len (by omega)
            rw [hzl, hzs] at hrm
            obtain ⟨r', h4, h5⟩ := fill_rel (j := j) (placeC := fun i => some (i * ei.size, ei.size)) (fun i pl hpl => hpl) ps ps'.toList (reps len ei.zero) cs ((Array.range (len * ei.size)).map (z.cells[· % ei.size]!)) hps
              (by rw [hrm]; exact All2.refl (reps_sr (hty.zsr j) len)) hfill
            refine Out.new (cur := r') (t := el) (w' := { w with heap := w.heap.push (.cells r' el) }) (v' := .slice (some ⟨w.heap.size, 0, none⟩) len len) r hng (hn (Nat.lt_succ_self _)) (nv_run ?_) same_push rfl (fun i u hu => ?_) ?_
            · by_cases h0 : len = 0
              · subst h0
                have he : ((Array.range (0 * ei.size)).map (z.cells[· % ei.size]!)) = #[] := by simp
                rw [he] at h4
                simp [Instr.buildSlice, run_underlying d1, hty.sizeOf w, h4, newRow, show Array.range 0 = #[] from rfl]
              · have hne : ¬ (len * ei.size = 0) := by
                  intro h0
                  rcases Nat.mul_eq_zero.1 h0 with h0 | h0 <;> omega
                have hnn : ¬ (len = 0 ∨ ei.size = 0) := by omega
                have hng2 : ¬ (16777216 < len * ei.size) := by omega
                simp [Instr.buildSlice, run_underlying d1, hty.sizeOf w, z1, hng2, hnn, hzs, h4, newRow]
                intro h1
                exact absurd h1 hne
            · obtain ⟨u', h6, h7⟩ := h5.at_ i u hu
              exact ⟨u', by simpa using h6, h7⟩
            · rw [hx.2.1]
              exact .of (.slice (addr_new _ _ _) (.inl ⟨rfl, by have := Nat.le_trans (Nat.le_mul_of_pos_right len hb.2) hb.1; unfold unk; omega⟩))
          · cases h
      · cases h
    · cases h
  · cases h

theorem nil_ok {sz : Nat} (r : Rel x j B w) {y y' v : Value} {e : Eff} {rd : List Nat} (h : anil y = some (.val v e rd)) (hy : VR j y y') :
    (∃ b, y' = .pointer (some b)) ∧ v = y ∧ e = .nil ∨ (∃ f a c, y' = .func (.func f) a c) ∧ v = y ∧ e = .nil := by
  unfold anil at h
  split at h
  · obtain ⟨h1, h2, h3⟩ := ok_some h
    obtain ⟨a', h4, _⟩ := hy.ptr
    exact .inl ⟨⟨a', h4⟩, h1.symm, h2⟩
  · obtain ⟨h1, h2, h3⟩ := ok_some h
    have := hy.sr (by simp) (by simp)
    cases this with
    | func _ => exact .inr ⟨⟨_, _, _, rfl⟩, h1.symm, h2⟩
  · cases h

/-! ### operators -/
theorem pv_some {s : Sem Value} {v : Value} (h : pv s = some v) (w : World) : s.run P w = .ok v w := by
  unfold pv at h
  split at h
  · injection h with h; subst h; rfl
  · cases h

theorem leq_eq : ∀ (a b : List UInt8), leq a b = (a == b)
  | [], [] => rfl
  | [], _ :: _ => rfl
  | _ :: _, [] => rfl
  | a :: x, b :: y => by
    simp only [leq, leq_eq x y]
    rw [Bool.eq_iff_iff]
    simp only [Bool.and_eq_true, Nat.beq_eq, beq_iff_eq, List.cons.injEq]
    exact ⟨fun ⟨h1, h2⟩ => ⟨UInt8.toNat_inj.1 h1, h2⟩, fun ⟨h1, h2⟩ => ⟨by rw [h1], h2⟩⟩

theorem astr_run {op : BinOp} {a b : ByteArray} {v : Value} (h : astr op a b = some v) (w : World) : (Op.stringOp op a b).run P w = .ok v w := by
  have hl : ∀ s : ByteArray, s.size = s.data.toList.length := fun s => rfl
  unfold astr at h
  split at h
  · cases hb : Nat.ble (a.data.toList.length + b.data.toList.length) 9223372036854775807 with
    | false => rw [hb] at h; cases h
    | true =>
      rw [hb] at h
      simp only [cond] at h
      injection h with h
      subst h
      have hb' : a.data.toList.length + b.data.toList.length ≤ 9223372036854775807 := Nat.le_of_ble_eq_true hb
      have h1 : ¬ (((a.size + b.size : Nat) : Int) > 9223372036854775807) := by rw [hl a, hl b]; omega
      have h2 : a ++ b = ⟨⟨a.data.toList ++ b.data.toList⟩⟩ := by
        apply ByteArray.ext
        rw [ByteArray.data_append]
        apply Array.ext'
        simp
      simp only [Op.stringOp, IntKind.max_i64, if_neg h1, Sem.run_pure, h2]
  all_goals first
    | (cases h; done)
    | (injection h with h; subst h; simp only [Op.stringOp, ByteArray.toList_eq, leq_eq, Sem.run_pure])

theorem scal_some {o : Option Value} {v : Value} (h : scal o = some v) : o = some v ∧ ∀ j, VR j v v := by
  unfold scal at h
  split at h
  · injection h with h; subst h; exact ⟨rfl, fun j => .of (.int _ _)⟩
  · injection h with h; subst h; exact ⟨rfl, fun j => .of (.bool _)⟩
  · cases h

theorem cellEq_sr {a b a' b' : Value} {r : Bool} (h : cellEq a b = some r) (ha : SR j a a') (hb : SR j b b') : a' = a ∧ b' = b := by
  unfold cellEq at h
  split at h
  · cases ha; cases hb; exact ⟨rfl, rfl⟩
  · cases ha; cases hb; exact ⟨rfl, rfl⟩
  · cases ha; cases hb; exact ⟨rfl, rfl⟩
  · cases h

theorem cellsEq_sr : ∀ {a b a' b' : List Value} {r : Bool}, cellsEq a b = some r → All2 (SR j) a a' → All2 (SR j) b b' → a' = a ∧ b' = b
  | [], [], _, _, _, _, .nil, .nil => ⟨rfl, rfl⟩
  | x :: xs, y :: ys, _, _, r, h, .cons h1 h2, .cons h3 h4 => by
    simp only [cellsEq] at h
    split at h
    · rename_i p q hp hq
      obtain ⟨e1, e2⟩ := cellEq_sr hp h1 h3
      obtain ⟨e3, e4⟩ := cellsEq_sr hq h2 h4
      exact ⟨by rw [e1, e3], by rw [e2, e4]⟩
    · cases h
  | [], _ :: _, _, _, _, h, _, _ => by simp [cellsEq] at h
  | _ :: _, [], _, _, _, h, _, _ => by simp [cellsEq] at h

theorem isBool_eq {k : TK} (h : isBool k = true) : k = .bool := by
  cases k <;> simp_all [isBool]

theorem bin_ok {sz : Nat} (ht : TabsOK P T) (r : Rel x j B w) {op : BinOp} {t : TypeId} {xo yo : Operand} {a b a' b' v : Value} (h : abin T op t a b = some v) (ha : VR j a a') (hb : VR j b b') :
    Out P x j B sz w (nv (do eqGuard op t xo yo a' b'; Go.binOp op t a' b')) v .nil := by
  unfold abin at h
  split at h
  · obtain rfl := ha.int
    obtain rfl := hb.int
    obtain ⟨h1, h2⟩ := scal_some h
    refine Out.pure r (nv_run ?_) (h2 j)
    simp [eqGuard_at_int, pv_some (P := P) h1 w]
  · obtain rfl := ha.str
    obtain rfl := hb.str
    have h1 := astr_run (P := P) h w
    have hv : VR j v v := by
      unfold astr at h
      split at h
      · cases hb : Nat.ble _ _ <;> rw [hb] at h
        · cases h
        · simp only [cond] at h; injection h with h; subst h; exact .of (.str _)
      all_goals first
        | (cases h; done)
        | (injection h with h; subst h; exact .of (.bool _))
    refine Out.pure r (nv_run ?_) hv
    rename_i s1 s2
    have h2 : Go.binOp op t (.string s1) (.string s2) = Op.stringOp op s1 s2 := by cases op <;> rfl
    simp [eqGuard_at_string, h2, h1]
  · rename_i p q
    obtain rfl := ha.bool
    obtain rfl := hb.bool
    split at h
    · rename_i ti hti
      cases hk : isBool ti.k with
      | false => rw [hk] at h; cases h
      | true =>
        rw [hk] at h
        simp only [cond] at h
        injection h with h
        subst h
        obtain ⟨d, d1, _, d3⟩ := (ht.ty t ti hti).desc
        rw [isBool_eq hk] at d3
        have d3 : d = .bool := d3
        subst d3
        refine Out.pure r (nv_run ?_) (.of (.bool _))
        simp [eqGuard_at_bool, Go.binOp, Op.equal, Op.maxDepth, run_equalIn_bool' w 9999 t p q d1]
    · rename_i ti hti
      cases hk : isBool ti.k with
      | false => rw [hk] at h; cases h
      | true =>
        rw [hk] at h
        simp only [cond] at h
        injection h with h
        subst h
        obtain ⟨d, d1, _, d3⟩ := (ht.ty t ti hti).desc
        rw [isBool_eq hk] at d3
        have d3 : d = .bool := d3
        subst d3
        refine Out.pure r (nv_run ?_) (.of (.bool _))
        simp [eqGuard_at_bool, Go.binOp, Op.equal, Op.maxDepth, run_equalIn_bool' w 9999 t p q d1]
    · cases h
  · rename_i p q
    obtain ⟨p', rfl, hp⟩ := ha.agg
    obtain ⟨q', rfl, hq⟩ := hb.agg
    obtain ⟨p⟩ := p
    obtain ⟨q⟩ := q
    split at h
    · rename_i ti hti
      cases hk : (ti.flat && (likeZ ti.zero p && likeZ ti.zero q)) with
      | false => rw [hk] at h; cases h
      | true =>
        rw [hk] at h
        simp only [cond, Option.map_eq_some_iff] at h
        obtain ⟨z, h, rfl⟩ := h
        simp only [Bool.and_eq_true] at hk
        obtain ⟨rfl, rfl⟩ := cellsEq_sr h hp hq
        obtain ⟨f1, f2⟩ := (ht.ty t ti hti).flat hk.1 _ _ z w hk.2.1 hk.2.2 h
        refine Out.pure r (nv_run ?_) (.of (.bool _))
        rw [Sem.run_bind, f2]
        simp [Go.binOp, f1]
    · rename_i ti hti
      cases hk : (ti.flat && (likeZ ti.zero p && likeZ ti.zero q)) with
      | false => rw [hk] at h; cases h
      | true =>
        rw [hk] at h
        simp only [cond, Option.map_eq_some_iff] at h
        obtain ⟨z, h, rfl⟩ := h
        simp only [Bool.and_eq_true] at hk
        obtain ⟨rfl, rfl⟩ := cellsEq_sr h hp hq
        obtain ⟨f1, f2⟩ := (ht.ty t ti hti).flat hk.1 _ _ z w hk.2.1 hk.2.2 h
        refine Out.pure r (nv_run ?_) (.of (.bool _))
        rw [Sem.run_bind, f2]
        simp [Go.binOp, f1]
    · cases h
  · cases h

theorem un_ok {sz : Nat} (r : Rel x j B w) {op : UnOp} {a a' v : Value} (h : aun op a = some v) (ha : VR j a a') : Out P x j B sz w (nv (Op.unary op a')) v .nil := by
  unfold aun at h
  split at h
  · obtain rfl := ha.int
    obtain ⟨h1, h2⟩ := scal_some h
    exact Out.pure r (nv_run (pv_some h1 w)) (h2 j)
  · obtain rfl := ha.bool
    obtain ⟨h1, h2⟩ := scal_some h
    exact Out.pure r (nv_run (pv_some h1 w)) (h2 j)
  · cases h

theorem convert_ok {sz : Nat} (ht : TabsOK P T) (r : Rel x j B w) {s d : TypeId} (hs : (P.underlying s).isSome = true) {a a' v : Value} {e : Eff} {rd : List Nat} (h : aconvert T d a = some (.val v e rd)) (ha : VR j a a') :
    Out P x j B sz w (nv (Go.convert s d a')) v e := by
  obtain ⟨ds, hds⟩ := Option.isSome_iff_exists.1 hs
  unfold aconvert at h
  split at h
  · rename_i k n ti hti
    obtain rfl := ha.int
    split at h
    · rename_i k' hk
      obtain ⟨rfl, rfl, rfl⟩ := ok_some h
      obtain ⟨d', d1, _, d3⟩ := (ht.ty d ti hti).desc
      rw [hk] at d3
      have d3 : d' = .int k' := d3
      subst d3
      refine Out.pure r (nv_run ?_) (.of (.int _ _))
      simp [Go.convert, run_underlying hds, run_underlying d1, Conv.intToInt]
    · cases h
  · rename_i s ti hti
    obtain rfl := ha.str
    split at h
    · rename_i hk
      obtain ⟨rfl, rfl, rfl⟩ := ok_some h
      obtain ⟨d', d1, _, d3⟩ := (ht.ty d ti hti).desc
      rw [hk] at d3
      have d3 : d' = .string := d3
      subst d3
      refine Out.pure r (nv_run ?_) (.of (.str _))
      simp [Go.convert, run_underlying hds, run_underlying d1]
    · cases h
  · cases h

end Go.Vae

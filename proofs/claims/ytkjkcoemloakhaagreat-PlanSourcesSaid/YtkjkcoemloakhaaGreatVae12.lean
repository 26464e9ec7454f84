/- Regions: in the order of the text, and in any order that the machine may draw. -/
import Derived.Test.YtkjkcoemloakhaaGreatVae11
set_option linter.unusedVariables false
set_option linter.unusedSimpArgs false
namespace Go.Vae
open Go Go.RowKit

variable {P : Program} {T : Tabs} {x : Cx} {j : Inj} {B : Nat → Option AO} {w : World}

theorem FrR.step {j' : Inj} {nt : Nat} (hnt : nt ≤ bigger) {fr fr' : Fr} {act : Act} (hf : FrR j nt fr act) (hs : Sub j j') {d : Option Tmp} {v v' : Value} (hv : VR j' v v') (h : (d = none ∧ fr' = fr) ∨ ∃ d', d = some d' ∧ d' < nt ∧ fr' = Tr.set fr d' v) : FrR j' nt fr' (act.put d v') := by
  refine ⟨by rw [put_size]; exact hf.size, fun t u hu => ?_, by rw [put_defers]; exact hf.defers⟩
  rcases h with ⟨rfl, rfl⟩ | ⟨d', rfl, h1, rfl⟩
  · exact (hf.at_ t u hu).mono hs
  · by_cases e : t = d'
    · subst e
      rw [Tr.get_set_eq _ _ _] at hu
      injection hu with hu
      subst hu
      rw [put_eq (by rw [hf.size]; exact h1)]
      exact hv
    · rw [Tr.get_set_ne _ _ e] at hu
      rw [put_ne (fun h => e (by injection h with h; exact h.symm))]
      exact (hf.at_ t u hu).mono hs

/-- The state of the evaluator stands for the machine's. -/
structure CR (x : Cx) (j : Inj) (B : Nat → Option AO) (w : World) (act : Act) (s : St) (nt : Nat) : Prop where
  rel : Rel x j (s.h.view B) w
  fr : FrR j nt s.fr act

theorem view_step {nt : Nat} {o : Oper} {s s' : St} {a : Acc} (hf : StepF nt o s s' a) {j' : Inj} {B' : Nat → Option AO} {w' : World} (r : Rel x j' B' w')
    (h1 : ∀ k, (j' (x.n + k)).isSome = true → (a.wrote k ∨ (a.lo ≤ k ∧ k < a.hi)) → B' k = s'.h.blk k) (h2 : ∀ k, (j' (x.n + k)).isSome = true → ¬ a.wrote k → ¬ (a.lo ≤ k ∧ k < a.hi) → B' k = s.h.view B k) : Rel x j' (s'.h.view B) w' := by
  obtain ⟨l, g, _⟩ := hf.grow
  refine r.congr fun k hk => ?_
  by_cases hw : a.wrote k ∨ (a.lo ≤ k ∧ k < a.hi)
  · rw [h1 k hk hw]
    have : k < s'.h.sz := by
      rcases hw with hw | hw
      · have h3 := hf.acc k (by rcases hw with hw | ⟨hw, hw2⟩; exact .inr (.inl hw); exact .inr (.inr ⟨by rw [hw]; simp, hw2⟩))
        exact Nat.lt_of_lt_of_le h3 g.le
      · rw [← hf.hi]; exact hw.2
    unfold AH.view
    rw [if_pos this]
  · have hw1 : ¬ a.wrote k := fun h => hw (.inl h)
    have hw2 : ¬ (a.lo ≤ k ∧ k < a.hi) := fun h => hw (.inr h)
    rw [h2 k hk hw1 hw2]
    rw [hf.lo, hf.hi] at hw2
    unfold AH.view
    by_cases hlt : k < s.h.sz
    · rw [if_pos hlt, if_pos (Nat.lt_of_lt_of_le hlt g.le)]
      exact hf.frame k hlt hw1
    · rw [if_neg hlt, if_neg (by omega)]

theorem steps_grow {call : CallF} (hc : CallOK P call) {nt : Nat} {ops : List Oper} : ∀ {l : List Oper} {s s' : St} {acs : List Acc}, steps T call nt ops l s = some (s', acs) → s.h.wf → ∃ lw, Grow s.h lw s'.h ∧ s'.low = Nat.min s.low lw
  | [], s, s', acs, h, hwf => by
    simp only [steps] at h
    injection h with h
    injection h with h1 h2
    subst h1
    exact ⟨s.low, Grow.refl hwf _, (Nat.min_self _).symm⟩
  | o :: l, s, s', acs, h, hwf => by
    simp only [steps] at h
    split at h
    · rename_i s1 a h1
      split at h
      · rename_i s2 as2 h2
        injection h with h
        injection h with h3 h4
        subst h3
        obtain ⟨l1, g1, e1⟩ := (step1_facts hc h1 hwf).grow
        obtain ⟨l2, g2, e2⟩ := steps_grow hc h2 g1.wf
        exact ⟨_, g1.trans g2, by rw [e2, e1]; exact Nat.min_assoc _ _ _⟩
      · cases h
    · cases h

theorem seq_ok (ht : TabsOK P T) {call : CallF} (hc : CallOK P call) {nt : Nat} (hnt : nt ≤ bigger) {ops : Array Oper} (hng : x.ng ≤ x.n) {Q : Exit → Act → World → Prop} : ∀ (l : List Oper) (k : Nat), (∀ i : Nat, l[i]? = ops[k + i]?) → ∀ {s s' : St} {acs : List Acc},
    steps T call nt ops.toList l s = some (s', acs) → s.h.wf → s.h.of x → ∀ {j : Inj} {w : World} {act : Act}, CR x j B w act s nt → (∀ k, s.h.sz ≤ k → k < s'.h.sz → j (x.n + k) = none) →
    (∀ act' w' j', CR x j' B w' act' s' nt → Ext0 x j s.h.sz w j' s'.h.sz w' → Q .normal act' w') → wpOps P ops Q (List.range' k l.length) act w
  | [], k, hl, s, s', acs, h, hwf, hx, j, w, act, r, hfut, hQ => by
    simp only [steps] at h
    injection h with h
    injection h with h1 h2
    subst h1
    simp only [List.length_nil, List.range'_zero, wpOps]
    exact hQ act w j r (Ext0.refl _ _ _ _)
  | o :: l, k, hl, s, s', acs, h, hwf, hx, j, w, act, r, hfut, hQ => by
    simp only [steps] at h
    split at h
    · rename_i s1 a h1
      split at h
      · rename_i s2 as2 h2
        injection h with h
        injection h with h3 h4
        subst h3
        have hf := step1_facts hc h1 hwf
        obtain ⟨l1, g1, e1⟩ := hf.grow
        obtain ⟨l2, g2, e2⟩ := steps_grow hc h2 g1.wf
        have ho : ops[k]? = some o := by have := hl 0; simpa using this.symm
        simp only [List.length_cons, List.range'_succ]
        rw [wpOps_cons]
        refine step_ok ht hc ho h1 hwf hx hng r.rel (fun b hb1 hb2 => hfut b hb1 (Nat.lt_of_lt_of_le hb2 g2.le)) (fun b hb _ => ?_) (fun t _ v hv => r.fr.at_ t v hv) fun v v' j' B' w' hv hd hr hw1 hw2 he => ?_
        · unfold AH.view
          rw [if_pos (hf.acc b hb)]
        · refine seq_ok ht hc hnt hng l (k + 1) (fun i => by have := hl (i + 1); simpa [Nat.add_assoc, Nat.add_comm 1 i] using this) h2 g1.wf (g1.of hx) (j := j') ⟨view_step hf hr hw1 hw2, r.fr.step hnt he.sub hv hd⟩ (fun b hb1 hb2 => ?_) fun act' w2 j2 hcr he2 => ?_
          · cases hj : j' (x.n + b) with
            | none => rfl
            | some p =>
              rcases he.dom _ _ hj with h5 | ⟨h5, h6⟩
              · rw [hfut b (Nat.le_trans g1.le hb1) hb2] at h5; cases h5
              · omega
          · exact hQ act' w2 j2 hcr (Ext0.trans g1.le g2.le he he2)
      · cases h
    · cases h

/-! ### what stands before what -/
theorem lmem_iff {k : Nat} : ∀ {l : List Nat}, lmem k l = true ↔ k ∈ l
  | [] => by simp [lmem]
  | y :: l => by simp only [lmem, Bool.or_eq_true, Nat.beq_eq, List.mem_cons, lmem_iff (l := l)]

theorem lmeet_of {k : Nat} : ∀ {a b : List Nat}, k ∈ a → k ∈ b → lmeet a b = true
  | [], b, h, _ => by simp at h
  | y :: a, b, h, hb => by
    simp only [lmeet, Bool.or_eq_true]
    rcases List.mem_cons.1 h with h | h
    · subst h; exact .inl (lmem_iff.2 hb)
    · exact .inr (lmeet_of h hb)

theorem lwithin_of {lo hi k : Nat} : ∀ {l : List Nat}, k ∈ l → lo ≤ k → k < hi → lwithin lo hi l = true
  | [], h, _, _ => by simp at h
  | y :: l, h, h1, h2 => by
    simp only [lwithin, Bool.or_eq_true, Bool.and_eq_true, Nat.ble_eq, Nat.blt_eq]
    rcases List.mem_cons.1 h with h | h
    · subst h; exact .inl ⟨h1, h2⟩
    · exact .inr (lwithin_of h h1 h2)

theorem clash_of {a b : Acc} {k : Nat} (h1 : a.wrote k) (h2 : b.wrote k ∨ b.looks k ∨ (b.lo ≤ k ∧ k < b.hi)) : a.clash b = true := by
  have ne : ∀ {l : List Nat}, k ∈ l → (!l.isEmpty) = true := fun {l} h => by cases l <;> simp at h ⊢
  unfold Acc.clash
  simp only [Bool.or_eq_true]
  rcases h1 with h1 | ⟨h1, h1'⟩
  · rcases h2 with (h2 | ⟨h2, _⟩) | (h2 | h2 | ⟨h2, _⟩) | ⟨h2, h3⟩
    · exact .inl (by simp [Acc.clash1, lmeet_of h1 h2])
    · exact .inr (by simp only [Acc.clash1, h2]; simp [ne h1])
    · exact .inl (by simp [Acc.clash1, lmeet_of h1 h2])
    · exact .inl (by simp [Acc.clash1, lmeet_of h1 h2])
    · refine .inr ?_
      unfold Acc.clash1
      cases hc : b.call with
      | none => exact absurd hc h2
      | some t => cases t <;> simp only [] <;> simp [ne h1]
    · exact .inl (by simp [Acc.clash1, lwithin_of h1 h2 h3])
  · refine .inl ?_
    simp only [Acc.clash1, h1]
    rcases h2 with (h2 | ⟨h2, _⟩) | (h2 | h2 | ⟨h2, _⟩) | ⟨h2, h3⟩
    · simp [ne h2]
    · simp [h2]
    · simp [ne h2]
    · simp [ne h2]
    · cases hc : b.call with
      | none => exact absurd hc h2
      | some t => simp
    · have : Nat.blt b.lo b.hi = true := by simp [Nat.blt_eq]; omega
      simp [this]

theorem clash_symm (a b : Acc) : a.clash b = b.clash a := by unfold Acc.clash; exact Bool.or_comm _ _

theorem pairs1_spec {α : Type} {R : α → α → Bool} {a : α} {i : Nat} : ∀ {l : List α} {ms : List Nat}, pairs1 R a i l ms = true → ∀ (k : Nat) (b : α), l[k]? = some b → R a b = true → ∃ m, ms[k]? = some m ∧ Nat.testBit m i = true
  | [], _, _, k, b, hb, _ => by simp at hb
  | c :: l, [], h, _, _, _, _ => by simp [pairs1] at h
  | c :: l, m :: ms, h, k, b, hb, hr => by
    simp only [pairs1, Bool.and_eq_true] at h
    cases k with
    | zero =>
      simp only [List.getElem?_cons_zero, Option.some.injEq] at hb
      subst hb
      refine ⟨m, rfl, ?_⟩
      have := h.1
      rw [hr] at this
      simpa using this
    | succ k =>
      simp only [List.getElem?_cons_succ] at hb
      obtain ⟨m', h1, h2⟩ := pairs1_spec h.2 k b hb hr
      exact ⟨m', by simpa using h1, h2⟩

theorem pairsOK_spec {α : Type} {R : α → α → Bool} : ∀ {l : List α} {i0 : Nat} {ms : List Nat}, pairsOK R i0 l ms = true → ∀ (i k : Nat) (a b : α), i < k → l[i]? = some a → l[k]? = some b → R a b = true → ∃ m, ms[k]? = some m ∧ Nat.testBit m (i0 + i) = true
  | [], _, _, _, i, k, a, b, _, ha, _, _ => by simp at ha
  | c :: l, _, [], h, _, _, _, _, _, _, _, _ => by simp [pairsOK] at h
  | c :: l, i0, m :: ms, h, i, k, a, b, hik, ha, hb, hr => by
    simp only [pairsOK, Bool.and_eq_true] at h
    obtain ⟨k, rfl⟩ : ∃ k', k = k' + 1 := ⟨k - 1, by omega⟩
    simp only [List.getElem?_cons_succ] at hb
    cases i with
    | zero =>
      simp only [List.getElem?_cons_zero, Option.some.injEq] at ha
      subst ha
      obtain ⟨m', h1, h2⟩ := pairs1_spec h.1 k b hb hr
      exact ⟨m', by simpa using h1, by simpa using h2⟩
    | succ i =>
      simp only [List.getElem?_cons_succ] at ha
      obtain ⟨m', h1, h2⟩ := pairsOK_spec h.2 i k a b (by omega) ha hb hr
      exact ⟨m', by simpa using h1, by rw [show i0 + (i + 1) = i0 + 1 + i by omega]; exact h2⟩

theorem edgesOK_spec : ∀ {l : List Oper} {i0 : Nat}, edgesOK i0 l = true → ∀ (i : Nat) (o : Oper), l[i]? = some o → ∀ e ∈ o.after, Region.binds .any e = true → e.on < i0 + i
  | [], _, _, i, o, h, _, _, _ => by simp at h
  | c :: l, i0, h, i, o, ho, e, he, hb => by
    simp only [edgesOK, Bool.and_eq_true] at h
    cases i with
    | zero =>
      simp only [List.getElem?_cons_zero, Option.some.injEq] at ho
      subst ho
      have := (List.all_eq_true.1 h.1) e (by simpa using he)
      rw [hb] at this
      simpa [Nat.blt_eq] using this
    | succ i =>
      simp only [List.getElem?_cons_succ] at ho
      have := edgesOK_spec h.2 i o ho e he hb
      omega

/-- One operation's number. -/
def oneB (acc : Array Nat) (o : Oper) : Nat := o.after.foldl (fun s e => if Region.binds .any e then s ||| 2 ^ e.on ||| acc.getD e.on 0 else s) 0

theorem oneB_bit (acc : Array Nat) (i : Nat) : ∀ (l : List Edge) (s : Nat), Nat.testBit (l.foldl (fun s e => if Region.binds .any e then s ||| 2 ^ e.on ||| acc.getD e.on 0 else s) s) i = true →
    Nat.testBit s i = true ∨ ∃ e ∈ l, Region.binds .any e = true ∧ (e.on = i ∨ Nat.testBit (acc.getD e.on 0) i = true)
  | [], s, h => .inl h
  | e :: l, s, h => by
    rw [List.foldl_cons] at h
    rcases oneB_bit acc i l _ h with h1 | ⟨e', h1, h2, h3⟩
    · by_cases hb : Region.binds .any e = true
      · rw [if_pos hb] at h1
        simp only [Nat.testBit_or, Bool.or_eq_true] at h1
        rcases h1 with (h1 | h1) | h1
        · exact .inl h1
        · refine .inr ⟨e, by simp, hb, .inl ?_⟩
          rw [Nat.testBit_two_pow] at h1
          simpa using h1
        · exact .inr ⟨e, by simp, hb, .inr h1⟩
      · rw [if_neg hb] at h1
        exact .inl h1
    · exact .inr ⟨e', by simp [h1], h2, h3⟩

theorem before_list : ∀ (l : List Oper) (acc : Array Nat), let r := l.foldl (fun acc o => acc.push (oneB acc o)) acc
    r.size = acc.size + l.length ∧ (∀ i, i < acc.size → r[i]? = acc[i]?) ∧ ∀ (i : Nat) (o : Oper), l[i]? = some o → ∃ acc' : Array Nat, acc'.size = acc.size + i ∧ (∀ m, m < acc'.size → acc'[m]? = r[m]?) ∧ r[acc.size + i]? = some (oneB acc' o)
  | [], acc => ⟨by simp, fun _ _ => rfl, fun i o h => by simp at h⟩
  | o :: l, acc => by
    obtain ⟨h1, h2, h3⟩ := before_list l (acc.push (oneB acc o))
    simp only [List.foldl_cons]
    refine ⟨by rw [h1]; simp; omega, fun i hi => ?_, fun i o' ho => ?_⟩
    · rw [h2 i (by simp; omega), Array.getElem?_push, if_neg (by omega)]
    · cases i with
      | zero =>
        simp only [List.getElem?_cons_zero, Option.some.injEq] at ho
        subst ho
        refine ⟨acc, by simp, fun m hm => ?_, ?_⟩
        · rw [h2 m (by simp; omega), Array.getElem?_push, if_neg (by omega)]
        · rw [Nat.add_zero, h2 acc.size (by simp), Array.getElem?_push, if_pos rfl]
      | succ i =>
        simp only [List.getElem?_cons_succ] at ho
        obtain ⟨acc', h4, h5, h6⟩ := h3 i o' ho
        refine ⟨acc', by rw [h4]; simp; omega, h5, ?_⟩
        rw [← h6]
        simp
        congr 1
        omega

theorem before_bit {ops : Array Oper} {k i m : Nat} (h : (Region.before ops).toList[k]? = some m) (hb : Nat.testBit m i = true) :
    ∃ o, ops[k]? = some o ∧ ∃ e ∈ o.after, Region.binds .any e = true ∧ (e.on = i ∨ (e.on < k ∧ ∃ m', (Region.before ops).toList[e.on]? = some m' ∧ Nat.testBit m' i = true)) := by
  have hbl := before_list ops.toList #[]
  have hdef : Region.before ops = ops.toList.foldl (fun acc o => acc.push (oneB acc o)) #[] := by
    unfold Region.before
    rw [← Array.foldl_toList]
    rfl
  simp only [← hdef] at hbl
  obtain ⟨h1, _, h3⟩ := hbl
  rw [Array.getElem?_toList] at h
  have hk : k < ops.size := by
    have := (Array.getElem?_eq_some_iff.1 h).1
    rw [h1] at this
    simpa using this
  obtain ⟨acc', h4, h5, h6⟩ := h3 k ops[k] (by simp [hk])
  simp only [Array.size_empty, Nat.zero_add] at h4 h6
  rw [h6] at h
  injection h with h
  subst h
  refine ⟨ops[k], by simp [hk], ?_⟩
  unfold oneB at hb
  rw [← Array.foldl_toList] at hb
  rcases oneB_bit acc' i _ 0 hb with h7 | ⟨e, h7, h8, h9⟩
  · simp at h7
  · refine ⟨e, by simpa using h7, h8, h9.imp id fun h9 => ?_⟩
    have hlt : e.on < acc'.size := by
      rcases Nat.lt_or_ge e.on acc'.size with h10 | h10
      · exact h10
      · have : acc'.getD e.on 0 = 0 := by simp [Array.getD, Nat.not_lt.2 h10]
        rw [this] at h9
        simp at h9
    refine ⟨by omega, acc'[e.on], ?_, ?_⟩
    · rw [Array.getElem?_toList, ← h5 e.on hlt]
      simp [hlt]
    · simpa [Array.getD, hlt] using h9

/-- What a set that is closed below holds. -/
theorem before_in {ops : Array Oper} {D : Nat → Prop} (hcl : ∀ k, D k → ∀ o, ops[k]? = some o → ∀ e ∈ o.after, Region.binds .any e = true → D e.on) : ∀ (k i m : Nat), (∀ o, ops[k]? = some o → ∀ e ∈ o.after, Region.binds .any e = true → D e.on) →
    (Region.before ops).toList[k]? = some m → Nat.testBit m i = true → D i := by
  intro k
  induction k using Nat.strongRecOn with
  | _ k ih =>
    intro i m hk h hb
    obtain ⟨o, ho, e, he, hbi, h1⟩ := before_bit h hb
    have hD := hk o ho e he hbi
    rcases h1 with h1 | ⟨h1, m', h2, h3⟩
    · rw [← h1]; exact hD
    · exact ih e.on h1 i m' (hcl _ hD) h2 h3

end Go.Vae

/- Regions whose order the machine draws. -/
import Derived.Test.YtkjkcoemloakhaaGreatVae12
set_option linter.unusedVariables false
set_option linter.unusedSimpArgs false
namespace Go.Vae
open Go Go.RowKit

variable {P : Program} {T : Tabs} {x : Cx} {j : Inj} {B : Nat → Option AO} {w : World}

theorem steps_seq {call : CallF} {nt : Nat} {ops : List Oper} : ∀ {l : List Oper} {s s' : St} {acs : List Acc}, steps T call nt ops l s = some (s', acs) →
    ∃ S : Nat → St, S 0 = s ∧ S l.length = s' ∧ acs.length = l.length ∧ ∀ (i : Nat) (o : Oper), l[i]? = some o → ∃ a, acs[i]? = some a ∧ step1 T call nt ops o (S i) = some (S (i + 1), a)
  | [], s, s', acs, h => by
    simp only [steps] at h
    injection h with h
    injection h with h1 h2
    subst h1 h2
    exact ⟨fun _ => s, rfl, rfl, rfl, fun i o h => by simp at h⟩
  | o :: l, s, s', acs, h => by
    simp only [steps] at h
    split at h
    · rename_i s1 a h1
      split at h
      · rename_i s2 as2 h2
        injection h with h
        injection h with h3 h4
        subst h3 h4
        obtain ⟨S, e1, e2, e3, e4⟩ := steps_seq h2
        refine ⟨fun i => match i with | 0 => s | i + 1 => S i, rfl, by simpa using e2, by simp [e3], fun i o' ho => ?_⟩
        cases i with
        | zero =>
          simp only [List.getElem?_cons_zero, Option.some.injEq] at ho
          subst ho
          exact ⟨a, rfl, by simpa [e1] using h1⟩
        | succ i =>
          simp only [List.getElem?_cons_succ] at ho
          obtain ⟨a', h5, h6⟩ := e4 i o' ho
          exact ⟨a', by simpa using h5, h6⟩
      · cases h
    · cases h

def cnt (p : Nat → Bool) : Nat → Nat
  | 0 => 0
  | n + 1 => cnt p n + if p n then 1 else 0

theorem cnt_zero {p : Nat → Bool} : ∀ {n : Nat}, cnt p n = 0 → ∀ k, k < n → p k = false
  | 0, _, k, hk => by omega
  | n + 1, h, k, hk => by
    simp only [cnt] at h
    have h1 : cnt p n = 0 := by omega
    have h2 : p n = false := by
      cases hp : p n
      · rfl
      · rw [hp] at h; simp at h
    rcases Nat.lt_or_ge k n with h3 | h3
    · exact cnt_zero h1 k h3
    · obtain rfl : k = n := by omega
      exact h2

theorem cnt_same {p q : Nat → Bool} : ∀ {n : Nat}, (∀ k, k < n → p k = q k) → cnt p n = cnt q n
  | 0, _ => rfl
  | n + 1, h => by simp only [cnt]; rw [cnt_same fun k hk => h k (by omega), h n (by omega)]

theorem cnt_upd {p q : Nat → Bool} {i : Nat} (h1 : p i = true) (h2 : q i = false) (h3 : ∀ k, k ≠ i → p k = q k) : ∀ {n : Nat}, i < n → cnt p n = cnt q n + 1
  | 0, h => by omega
  | n + 1, h => by
    simp only [cnt]
    by_cases e : n = i
    · subst e
      rw [h1, h2, cnt_same (p := p) (q := q) fun k hk => h3 k (by omega)]
      simp
    · have := cnt_upd h1 h2 h3 (n := n) (by omega)
      rw [this, h3 n e]
      omega

/-- What a run of a region's operations was, step by step. -/
structure Run (P : Program) (T : Tabs) (call : CallF) (nt : Nat) (ops : Array Oper) (S : Nat → St) (A : Nat → Acc) : Prop where
  step : ∀ (i : Nat) (o : Oper), ops[i]? = some o → step1 T call nt ops.toList o (S i) = some (S (i + 1), A i)
  wf : (S 0).h.wf
  tmps : ∀ (i k : Nat) (oi ok : Oper), i < k → ops[i]? = some oi → ops[k]? = some ok → (touches ops.toList oi ok || touches ops.toList ok oi) = true → ∃ m, (Region.before ops).toList[k]? = some m ∧ Nat.testBit m i = true
  mem : ∀ (i k : Nat), i < k → k < ops.size → (A i).clash (A k) = true → ∃ m, (Region.before ops).toList[k]? = some m ∧ Nat.testBit m i = true
  edges : ∀ (i : Nat) (o : Oper), ops[i]? = some o → ∀ e ∈ o.after, Region.binds .any e = true → e.on < i

namespace Run
variable {call : CallF} {nt : Nat} {ops : Array Oper} {S : Nat → St} {A : Nat → Acc}

theorem wfs (hc : CallOK P call) (R : Run P T call nt ops S A) : ∀ i, i ≤ ops.size → (S i).h.wf
  | 0, _ => R.wf
  | i + 1, h => by
    have hi : i < ops.size := by omega
    obtain ⟨l, g, _⟩ := (step1_facts hc (R.step i ops[i] (by simp [hi])) (R.wfs hc i (by omega))).grow
    exact g.wf

theorem facts (hc : CallOK P call) (R : Run P T call nt ops S A) {i : Nat} {o : Oper} (ho : ops[i]? = some o) : StepF nt o (S i) (S (i + 1)) (A i) := by
  have hi := (Array.getElem?_eq_some_iff.1 ho).1
  exact step1_facts hc (R.step i o ho) (R.wfs hc i (by omega))

theorem grows (hc : CallOK P call) (R : Run P T call nt ops S A) {i : Nat} (hi : i < ops.size) : (S i).h.sz ≤ (S (i + 1)).h.sz := by
  obtain ⟨l, g, _⟩ := (R.facts hc (i := i) (o := ops[i]) (by simp [hi])).grow
  exact g.le

theorem mono (hc : CallOK P call) (R : Run P T call nt ops S A) {i k : Nat} (hik : i ≤ k) (hk : k ≤ ops.size) : (S i).h.sz ≤ (S k).h.sz := by
  induction k with
  | zero => obtain rfl : i = 0 := by omega
            exact Nat.le_refl _
  | succ k ih =>
    by_cases e : i = k + 1
    · subst e; exact Nat.le_refl _
    · exact Nat.le_trans (ih (by omega) (by omega)) (R.grows hc (by omega))

theorem ofx (hc : CallOK P call) (R : Run P T call nt ops S A) (hx : (S 0).h.of x) : ∀ i, i ≤ ops.size → (S i).h.of x
  | 0, _ => hx
  | i + 1, h => by
    have hi : i < ops.size := by omega
    obtain ⟨l, g, _⟩ := (R.facts hc (i := i) (o := ops[i]) (by simp [hi])).grow
    exact g.of (R.ofx hc hx i (by omega))

theorem tmp_stays (hc : CallOK P call) (R : Run P T call nt ops S A) {t i k : Nat} (hik : i ≤ k) (hk : k ≤ ops.size) (h : ∀ m o, i ≤ m → m < k → ops[m]? = some o → o.dst ≠ some t) : Tr.get (S k).fr t = Tr.get (S i).fr t := by
  induction k with
  | zero => obtain rfl : i = 0 := by omega
            rfl
  | succ k ih =>
    by_cases e : i = k + 1
    · subst e; rfl
    · rw [← ih (by omega) (by omega) fun m o h1 h2 h3 => h m o h1 (by omega) h3]
      have hk' : k < ops.size := by omega
      have ho : ops[k]? = some ops[k] := by simp [hk']
      rcases (R.facts hc ho).dst with ⟨_, h2⟩ | ⟨d, v, h1, _, h2⟩
      · rw [h2]
      · rw [h2]
        refine Tr.get_set_ne _ _ fun e => ?_
        subst e
        exact h k ops[k] (by omega) (by omega) ho h1

theorem blk_stays (hc : CallOK P call) (R : Run P T call nt ops S A) {b i k : Nat} (hik : i ≤ k) (hk : k ≤ ops.size) (hb : b < (S i).h.sz) (h : ∀ m, i ≤ m → m < k → ¬ (A m).wrote b) : (S k).h.blk b = (S i).h.blk b := by
  induction k with
  | zero => obtain rfl : i = 0 := by omega
            rfl
  | succ k ih =>
    by_cases e : i = k + 1
    · subst e; rfl
    · rw [← ih (by omega) (by omega) fun m h1 h2 => h m h1 (by omega)]
      have hk' : k < ops.size := by omega
      have ho : ops[k]? = some ops[k] := by simp [hk']
      exact (R.facts hc ho).frame b (Nat.lt_of_lt_of_le hb (R.mono hc (by omega) (by omega))) (h k (by omega) (by omega))

end Run

/-- Where the machine is in a region, some of whose operations it has carried out. -/
structure DInv (P : Program) (T : Tabs) (nt : Nat) (ops : Array Oper) (S : Nat → St) (A : Nat → Acc) (x : Cx) (j0 : Inj) (B0 : Nat → Option AO) (w0 : World) (D : Nat → Prop) (act : Act) (w : World) (j : Inj) (B : Nat → Option AO) : Prop where
  dlt : ∀ k, D k → k < ops.size
  closed : ∀ k, D k → ∀ o, ops[k]? = some o → ∀ e ∈ o.after, Region.binds .any e = true → D e.on
  rel : Rel x j B w
  size : act.tmps.size = nt
  defers : act.defers = []
  tm : ∀ t i, i ≤ ops.size → (∀ k o, ops[k]? = some o → o.dst = some t → (D k ↔ k < i)) → ∀ v, Tr.get (S i).fr t = some v → VR j v (act.tmps.getD t undef)
  bl : ∀ b i, i ≤ ops.size → b < (S i).h.sz → (j (x.n + b)).isSome = true → (∀ m, m < ops.size → (A m).wrote b → (D m ↔ m < i)) → B b = (S i).h.blk b
  fut : ∀ m, m < ops.size → ¬ D m → ∀ b, (A m).lo ≤ b → b < (A m).hi → j (x.n + b) = none
  bey : ∀ b, (S ops.size).h.sz ≤ b → (j (x.n + b)).isSome = true → B b = B0 b
  ext : Ext0 x j0 (S 0).h.sz w0 j (S ops.size).h.sz w

theorem touches_dst {ops : List Oper} {a b : Oper} {t : Nat} (ha : a.dst = some t) (hb : t ∈ namesOf ops b ∨ b.dst = some t) : touches ops a b = true := by
  unfold touches
  rw [ha]
  simp only [Bool.or_eq_true]
  rcases hb with hb | hb
  · exact .inl (lmem_iff.2 hb)
  · rw [hb]; exact .inr (by simp [Nat.beq_eq])

theorem draw_step (ht : TabsOK P T) {call : CallF} (hc : CallOK P call) {nt : Nat} (hnt : nt ≤ bigger) {ops : Array Oper} {S : Nat → St} {A : Nat → Acc} (R : Run P T call nt ops S A) (hx : (S 0).h.of x) (hng : x.ng ≤ x.n) {j0 : Inj} {B0 : Nat → Option AO} {w0 : World}
    {D : Nat → Prop} {act : Act} (I : DInv P T nt ops S A x j0 B0 w0 D act w j B) {i : Nat} {o : Oper} (ho : ops[i]? = some o) (hni : ¬ D i) (hrdy : ∀ e ∈ o.after, Region.binds .any e = true → D e.on) {Q : Exit → Act → World → Prop} {K : Act → World → Prop}
    (hK : ∀ act' w' j' B', DInv P T nt ops S A x j0 B0 w0 (fun k => D k ∨ k = i) act' w' j' B' → K act' w') : wpOp P ops Q i K act w := by
  have hi := (Array.getElem?_eq_some_iff.1 ho).1
  have hf := R.facts hc ho
  have anc : ∀ k m, (Region.before ops).toList[i]? = some m → Nat.testBit m k = true → D k := fun k m h1 h2 => before_in I.closed i k m (fun o' ho' => by rw [ho] at ho'; injection ho' with ho'; subst ho'; exact hrdy) h1 h2
  have ancD : ∀ q, D q → ∀ k m, (Region.before ops).toList[q]? = some m → Nat.testBit m k = true → D k := fun q hq k m h1 h2 => before_in I.closed q k m (I.closed q hq) h1 h2
  have up : ∀ k m, (A m).wrote k → m < ops.size → m ≠ i → ((A i).wrote k ∨ (A i).looks k ∨ ((A i).lo ≤ k ∧ k < (A i).hi)) → (D m ↔ m < i) := by
    intro k m hw hm hne hl
    have hcl : (A m).clash (A i) = true := clash_of hw hl
    constructor
    · intro hd
      rcases Nat.lt_or_ge m i with h1 | h1
      · exact h1
      · obtain ⟨b, h2, h3⟩ := R.mem i m (by omega) hm (by rw [clash_symm]; exact hcl)
        exact absurd (ancD m hd i b h2 h3) hni
    · intro hlt
      obtain ⟨b, h2, h3⟩ := R.mem m i hlt hi hcl
      exact anc m b h2 h3
  have upT : ∀ t k ok, ops[k]? = some ok → ok.dst = some t → (t ∈ namesOf ops.toList o ∨ o.dst = some t) → k ≠ i → (D k ↔ k < i) := by
    intro t k ok hk hd hn hne
    have htc : (touches ops.toList ok o || touches ops.toList o ok) = true := by rw [touches_dst hd hn]; rfl
    constructor
    · intro hdk
      rcases Nat.lt_or_ge k i with h1 | h1
      · exact h1
      · obtain ⟨b, h2, h3⟩ := R.tmps i k o ok (by omega) ho hk (by rw [Bool.or_comm]; exact htc)
        exact absurd (ancD k hdk i b h2 h3) hni
    · intro hlt
      obtain ⟨b, h2, h3⟩ := R.tmps k i ok o hlt hk ho htc
      exact anc k b h2 h3
  refine step_ok ht hc ho (R.step i o ho) (R.wfs hc i (by omega)) (R.ofx hc hx i (by omega)) hng I.rel (fun b h1 h2 => I.fut i hi hni b (by rw [hf.lo]; exact h1) (by rw [hf.hi]; exact h2)) (fun b hb hm => ?_) (fun t hn v hv => ?_) fun v v' j' B' w' hv hd hr hw1 hw2 he => ?_
  · refine I.bl b i (by omega) (hf.acc b hb) hm fun m hm hw => ?_
    by_cases e : m = i
    · subst e; exact ⟨fun h => absurd h hni, fun h => by omega⟩
    · exact up b m hw hm e (.inr (.inl hb))
  · refine I.tm t i (by omega) (fun k ok hk hd => ?_) v hv
    by_cases e : k = i
    · subst e; exact ⟨fun h => absurd h hni, fun h => by omega⟩
    · exact upT t k ok hk hd (.inl hn) e
  · have hold : ∀ b, (j' (x.n + b)).isSome = true → ¬ ((A i).lo ≤ b ∧ b < (A i).hi) → (j (x.n + b)).isSome = true := fun b hb hn => by
      obtain ⟨p, hp⟩ := Option.isSome_iff_exists.1 hb
      rcases he.dom _ _ hp with h1 | ⟨h1, h2⟩
      · rw [h1]; rfl
      · exact absurd ⟨by rw [hf.lo]; omega, by rw [hf.hi]; omega⟩ hn
    have hD' : ∀ k, k ≠ i → ((D k ∨ k = i) ↔ D k) := fun k hk => ⟨fun h => h.resolve_right hk, .inl⟩
    have h0 : (S 0).h.sz ≤ (S i).h.sz := R.mono hc (by omega) (by omega)
    have hn1 : (S (i + 1)).h.sz ≤ (S ops.size).h.sz := R.mono hc (by omega) (by omega)
    have hgr := R.grows hc hi
    refine hK _ w' j' B' ⟨fun k hk => ?_, fun k hk ok hok e he' hb => ?_, hr, by rw [put_size]; exact I.size, by rw [put_defers]; exact I.defers, fun t q hq hcond u hu => ?_, fun b q hq hlt hm hcond => ?_, fun m hm hnm b h1 h2 => ?_, fun b hb hm => ?_, I.ext.join (he.wide h0 hn1)⟩
    · rcases hk with hk | rfl
      · exact I.dlt k hk
      · exact hi
    · rcases hk with hk | rfl
      · exact .inl (I.closed k hk ok hok e he' hb)
      · rw [ho] at hok
        injection hok with hok
        subst hok
        exact .inl (hrdy e he' hb)
    · by_cases hdt : o.dst = some t
      · have hiq : i < q := (hcond i o ho hdt).1 (.inr rfl)
        have hst := R.tmp_stays hc (t := t) (i := i + 1) (k := q) (by omega) hq fun m om h1 h2 h3 h4 => by
          have h5 := (hcond m om h3 h4).2 h2
          have h6 := (hD' m (by omega)).1 h5
          have h7 := (upT t m om h3 h4 (.inr hdt) (by omega)).1 h6
          omega
        rw [hst] at hu
        rcases hd with ⟨h1, _⟩ | ⟨d, h1, h2, h3⟩
        · rw [h1] at hdt; cases hdt
        · rw [hdt] at h1
          injection h1 with h1
          subst h1
          rw [h3, Tr.get_set_eq _ _ _] at hu
          injection hu with hu
          subst hu
          rw [hdt, put_eq (by rw [I.size]; exact h2)]
          exact hv
      · rw [put_ne hdt]
        refine (I.tm t q hq (fun k ok hk hd => ?_) u hu).mono he.sub
        have hki : k ≠ i := fun e => by
          subst e
          rw [ho] at hk
          injection hk with hk
          subst hk
          exact hdt hd
        exact (hD' k hki).symm.trans (hcond k ok hk hd)
    · by_cases hwr : (A i).wrote b ∨ ((A i).lo ≤ b ∧ b < (A i).hi)
      · rw [hw1 b hm hwr]
        have hiq : i < q := by
          rcases hwr with hwr | hwr
          · exact (hcond i hi hwr).1 (.inr rfl)
          · rcases Nat.lt_or_ge i q with h1 | h1
            · exact h1
            · have h2 := R.mono hc h1 (by omega)
              have h3 := hwr.1
              rw [hf.lo] at h3
              omega
        have hb1 : b < (S (i + 1)).h.sz := by
          rcases hwr with hwr | hwr
          · have h3 := hf.acc b (by rcases hwr with h | ⟨h, h2⟩; exact .inr (.inl h); exact .inr (.inr ⟨by rw [h]; simp, h2⟩))
            omega
          · rw [← hf.hi]; exact hwr.2
        refine (R.blk_stays hc (b := b) (i := i + 1) (k := q) (by omega) hq hb1 fun m h1 h2 h3 => ?_).symm
        have hms : m < ops.size := by omega
        have h5 := (hcond m hms h3).2 h2
        have h6 := (hD' m (by omega)).1 h5
        have h7 := (up b m h3 hms (by omega) (hwr.imp id .inr)).1 h6
        omega
      · have hwr1 : ¬ (A i).wrote b := fun h => hwr (.inl h)
        have hwr2 : ¬ ((A i).lo ≤ b ∧ b < (A i).hi) := fun h => hwr (.inr h)
        rw [hw2 b hm hwr1 hwr2]
        refine I.bl b q hq hlt (hold b hm hwr2) fun m hms h3 => ?_
        have hmi : m ≠ i := fun e => by subst e; exact hwr1 h3
        exact (hD' m hmi).symm.trans (hcond m hms h3)
    · have hmi : m ≠ i := fun e => hnm (.inr e)
      have h3 := I.fut m hm (fun h => hnm (.inl h)) b h1 h2
      cases hj : j' (x.n + b) with
      | none => rfl
      | some p =>
        rcases he.dom _ _ hj with h4 | ⟨h4, h5⟩
        · rw [h3] at h4; cases h4
        · have hfm := R.facts hc (i := m) (o := ops[m]) (by simp [hm])
          rw [hfm.lo] at h1
          rw [hfm.hi] at h2
          rcases Nat.lt_or_ge m i with h6 | h6
          · have := R.mono hc (i := m + 1) (k := i) (by omega) (by omega)
            omega
          · have := R.mono hc (i := i + 1) (k := m) (by omega) (by omega)
            omega
    · have h1 : ¬ (A i).wrote b := fun h => by
        have h3 := hf.acc b (by rcases h with h | ⟨h, h2⟩; exact .inr (.inl h); exact .inr (.inr ⟨by rw [h]; simp, h2⟩))
        omega
      have h2 : ¬ ((A i).lo ≤ b ∧ b < (A i).hi) := fun h => by
        have := h.2
        rw [hf.hi] at this
        omega
      rw [hw2 b hm h1 h2]
      exact I.bey b hb (hold b hm h2)

theorem draw_any (ht : TabsOK P T) {call : CallF} (hc : CallOK P call) {nt : Nat} (hnt : nt ≤ bigger) {ops : Array Oper} {S : Nat → St} {A : Nat → Acc} (R : Run P T call nt ops S A) (hx : (S 0).h.of x) (hng : x.ng ≤ x.n) {j0 : Inj} {B0 : Nat → Option AO} {w0 : World}
    {Q : Exit → Act → World → Prop} (hQ : ∀ act' w' j', CR x j' B0 w' act' (S ops.size) nt → Ext0 x j0 (S 0).h.sz w0 j' (S ops.size).h.sz w' → Q .normal act' w') :
    ∀ (fuel : Nat) (listed : Array Bool) (act : Act) (w : World) (j : Inj) (B : Nat → Option AO), listed.size = ops.size → DInv P T nt ops S A x j0 B0 w0 (fun k => listed.getD k false = true) act w j B → cnt (fun k => !listed.getD k false) ops.size = fuel →
      wpAny P .any ops Q fuel listed act w := by
  have fin : ∀ (listed : Array Bool) (act : Act) (w : World) (j : Inj) (B : Nat → Option AO), DInv P T nt ops S A x j0 B0 w0 (fun k => listed.getD k false = true) act w j B → (∀ k, k < ops.size → listed.getD k false = true) → Q .normal act w := by
    intro listed act w j B I hall
    refine hQ act w j ⟨I.rel.congr fun b hb => ?_, I.size, fun t v hv => ?_, I.defers⟩ I.ext
    · unfold AH.view
      split
      · rename_i hlt
        exact (I.bl b ops.size (Nat.le_refl _) hlt hb fun m hm _ => ⟨fun _ => hm, fun _ => hall m hm⟩).symm
      · rename_i hlt
        exact (I.bey b (by omega) hb).symm
    · refine I.tm t ops.size (Nat.le_refl _) (fun k o ho _ => ?_) v hv
      have hk := (Array.getElem?_eq_some_iff.1 ho).1
      exact ⟨fun _ => hk, fun _ => hall k hk⟩
  intro fuel
  induction fuel with
  | zero =>
    intro listed act w j B hsz I hcnt
    have hall : ∀ k, k < ops.size → listed.getD k false = true := fun k hk => by have := cnt_zero hcnt k hk; simpa using this
    refine ⟨?_, fin listed act w j B I hall⟩
    cases hr : Region.ready .any ops listed with
    | nil => rfl
    | cons i rest =>
      have hi : i ∈ Region.ready .any ops listed := by rw [hr]; simp
      obtain ⟨h1, o, ho, _⟩ := mem_ready.1 hi
      have hk := (Array.getElem?_eq_some_iff.1 ho).1
      have := hall i hk
      have hlt : i < listed.size := by omega
      simp [Array.getD, hlt] at this h1
      rw [h1] at this; cases this
  | succ fuel ih =>
    intro listed act w j B hsz I hcnt
    have geq : ∀ k, k < ops.size → listed.getD k true = listed.getD k false := fun k hk => by
      have : k < listed.size := by omega
      simp [Array.getD, this]
    refine ⟨fun hr => ?_, fun i hi => ?_⟩
    · have hall : ∀ k, k < ops.size → listed.getD k false = true := by
        intro k
        induction k using Nat.strongRecOn with
        | _ k ihk =>
          intro hk
          cases hl : listed.getD k false with
          | true => rfl
          | false =>
            have : k ∈ Region.ready .any ops listed := mem_ready.2 ⟨by rw [geq k hk]; exact hl, ops[k], by simp [hk], fun e he hb => by
              have h1 := R.edges k ops[k] (by simp [hk]) e he hb
              exact ihk e.on h1 (by omega)⟩
            rw [hr] at this
            simp at this
      exact fin listed act w j B I hall
    · obtain ⟨h1, o, ho, h2⟩ := mem_ready.1 hi
      have hk := (Array.getElem?_eq_some_iff.1 ho).1
      have hni : ¬ listed.getD i false = true := by rw [← geq i hk, h1]; simp
      have hset : ∀ k, (listed.setIfInBounds i true).getD k false = if k = i then true else listed.getD k false := fun k => by
        by_cases e : k = i
        · subst e
          have : k < listed.size := by omega
          simp [Array.getD_eq_getD_getElem?, this]
        · rw [if_neg e, getD_set_ne false (fun h => e h.symm)]
      refine draw_step ht hc hnt R hx hng I ho hni h2 fun act' w' j' B' I' => ?_
      refine ih _ act' w' j' B' (by simpa using hsz) ?_ ?_
      · have : (fun k => (listed.setIfInBounds i true).getD k false = true) = fun k => listed.getD k false = true ∨ k = i := by
          funext k
          rw [hset k]
          by_cases e : k = i
          · simp [e]
          · simp [e]
        rw [this]
        exact I'
      · have h3 := cnt_upd (p := fun k => !listed.getD k false) (q := fun k => !(listed.setIfInBounds i true).getD k false) (i := i) (by simpa using hni) (by simp only [hset]; simp) (fun k hk => by simp only [hset, if_neg hk]) hk
        omega

theorem draw_ok (ht : TabsOK P T) {call : CallF} (hc : CallOK P call) {nt : Nat} (hnt : nt ≤ bigger) {ops : Array Oper} {s s' : St} {acs : List Acc} (h : steps T call nt ops.toList ops.toList s = some (s', acs)) (hwf : s.h.wf) (hx : s.h.of x) (hng : x.ng ≤ x.n)
    (hdr : drawOK ops = true) (hmem : ∀ (i k : Nat) (a b : Acc), i < k → acs[i]? = some a → acs[k]? = some b → a.clash b = true → ∃ m, (Region.before ops).toList[k]? = some m ∧ Nat.testBit m i = true)
    {act : Act} (r : CR x j B w act s nt) (hfut : ∀ k, s.h.sz ≤ k → k < s'.h.sz → j (x.n + k) = none) {Q : Exit → Act → World → Prop}
    (hQ : ∀ act' w' j', CR x j' B w' act' s' nt → Ext0 x j s.h.sz w j' s'.h.sz w' → Q .normal act' w') {id : Nat} : (Code.region id ops true).wp P Q act w := by
  obtain ⟨S, e1, e2, e3, e4⟩ := steps_seq h
  have hA : ∀ (i : Nat) (o : Oper), ops[i]? = some o → acs[i]? = some (acs.getD i ⟨[], [], 0, 0, none⟩) ∧ step1 T call nt ops.toList o (S i) = some (S (i + 1), acs.getD i ⟨[], [], 0, 0, none⟩) := fun i o ho => by
    obtain ⟨a, h1, h2⟩ := e4 i o (by rw [Array.getElem?_toList]; exact ho)
    rw [List.getD_eq_getElem?_getD, h1]
    exact ⟨rfl, h2⟩
  simp only [drawOK, Bool.and_eq_true] at hdr
  have hlen : ops.toList.length = ops.size := by simp
  rw [hlen] at e2 e3
  have R : Run P T call nt ops S (fun i => acs.getD i ⟨[], [], 0, 0, none⟩) := by
    refine ⟨fun i o ho => (hA i o ho).2, by rw [e1]; exact hwf, fun i k oi ok hik hi hk hq => ?_, fun i k hik hk hcl => ?_, fun i o ho e he hb => ?_⟩
    · obtain ⟨m, h1, h2⟩ := pairsOK_spec hdr.2 i k oi ok hik (by rw [Array.getElem?_toList]; exact hi) (by rw [Array.getElem?_toList]; exact hk) hq
      exact ⟨m, h1, by simpa using h2⟩
    · exact hmem i k _ _ hik (hA i (ops[i]'(by omega)) (Array.getElem?_eq_getElem _)).1 (hA k ops[k] (by simp [hk])).1 hcl
    · have := edgesOK_spec hdr.1 i o (by rw [Array.getElem?_toList]; exact ho) e he hb
      omega
  refine wp_region_any ht.mixed (draw_any ht hc hnt R (by rw [e1]; exact hx) hng (j0 := j) (B0 := B) (w0 := w) (fun act' w' j' h1 h2 => ?_) ops.size _ act _ j (s.h.view B) (by simp) ?_ ?_)
  · rw [e2] at h1 h2
    rw [e1] at h2
    exact hQ act' w' j' h1 h2
  · have hno : ∀ k, ¬ (Array.replicate ops.size false).getD k false = true := fun k => by
      simp [Array.getD_eq_getD_getElem?, Array.getElem?_replicate]
      split <;> simp
    have hsame : Same w { w with drawn := w.drawn + 1 } := ⟨rfl, rfl, rfl, Nat.le_refl _⟩
    refine ⟨fun k hk => absurd hk (hno k), fun k hk => absurd hk (hno k), r.rel.heap rfl, r.fr.size, r.fr.defers, fun t i hi hcond v hv => ?_, fun b i hi hlt hm hcond => ?_, fun m hm _ b h1 h2 => ?_, fun b hb hm => ?_, by rw [e1]; exact (Ext0.draw x j s.h.sz hsame rfl).wide (Nat.le_refl _) (R.mono hc (Nat.zero_le _) (Nat.le_refl _) |> fun h => by rw [e1] at h; exact h)⟩
    · rw [R.tmp_stays hc (t := t) (i := 0) (k := i) (by omega) hi fun m o _ h2 h3 h4 => hno m ((hcond m o h3 h4).2 h2), e1] at hv
      exact r.fr.at_ t v hv
    · rcases Nat.lt_or_ge b s.h.sz with h1 | h1
      · rw [R.blk_stays hc (b := b) (i := 0) (k := i) (by omega) hi (by rw [e1]; exact h1) fun m _ h2 h3 => hno m ((hcond m (by omega) h3).2 h2), e1]
        unfold AH.view
        rw [if_pos h1]
      · have h2 := R.mono hc hi (Nat.le_refl _)
        rw [e2] at h2
        rw [hfut b h1 (by omega)] at hm
        cases hm
    · have hfm := R.facts hc (i := m) (o := ops[m]) (by simp [hm])
      rw [hfm.lo] at h1
      rw [hfm.hi] at h2
      have h3 := R.mono hc (i := 0) (k := m) (by omega) (by omega)
      have h4 := R.mono hc (i := m + 1) (k := ops.size) (by omega) (by omega)
      rw [e1] at h3
      rw [e2] at h4
      exact hfut b (by omega) (by omega)
    · rw [e2] at hb
      unfold AH.view
      split
      · rename_i hlt
        rcases Nat.lt_or_ge b s.h.sz with h1 | h1
        · have h2 := R.mono hc (i := 0) (k := ops.size) (by omega) (Nat.le_refl _)
          rw [e1, e2] at h2
          omega
        · omega
      · rfl
  · have : ∀ n m, m ≤ n → cnt (fun k => !(Array.replicate n false).getD k false) m = m := by
      intro n m
      induction m with
      | zero => intro _; rfl
      | succ m ih =>
        intro hm
        simp only [cnt]
        rw [ih (by omega)]
        have : (Array.replicate n false).getD m false = false := by simp [Array.getD_eq_getD_getElem?, Array.getElem?_replicate]; split <;> simp
        simp [this]
    exact this ops.size ops.size (Nat.le_refl _)

end Go.Vae

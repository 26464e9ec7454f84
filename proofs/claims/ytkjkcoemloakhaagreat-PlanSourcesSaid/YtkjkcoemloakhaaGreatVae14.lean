/- The evaluator's runs are the machine's calls. -/
import Derived.Test.YtkjkcoemloakhaaGreatVae13
set_option linter.unusedVariables false
set_option linter.unusedSimpArgs false
namespace Go.Vae
open Go Go.RowKit

variable {P : Program} {T : Tabs} {x : Cx} {j : Inj} {B : Nat → Option AO} {w : World}

theorem quiet_clash {acs : List Acc} (h : anyWrites acs = false) {a b : Acc} (ha : a ∈ acs) (hb : b ∈ acs) : a.clash b = false := by
  have each : ∀ {l : List Acc}, anyWrites l = false → ∀ a ∈ l, a.wr = [] ∧ a.call ≠ some true := by
    intro l
    induction l with
    | nil => intro _ a ha; simp at ha
    | cons c l ih =>
      intro h a ha
      simp only [anyWrites, Bool.or_eq_false_iff] at h
      rcases List.mem_cons.1 ha with ha | ha
      · subst ha
        have h1 := h.1
        unfold Acc.writes at h1
        simp only [Bool.or_eq_false_iff] at h1
        refine ⟨?_, fun h2 => ?_⟩
        · cases hw : a.wr
          · rfl
          · rw [hw] at h1; simp at h1
        · rw [h2] at h1; simp at h1
      · exact ih h.2 a ha
  have one : ∀ {a b : Acc}, a.wr = [] → a.call ≠ some true → b.wr = [] → a.clash1 b = false := by
    intro a b h1 h2 h3
    unfold Acc.clash1
    rw [h1, h3]
    cases hc : a.call with
    | none => rfl
    | some t => cases t
                · rfl
                · exact absurd hc h2
  obtain ⟨h1, h2⟩ := each h a ha
  obtain ⟨h3, h4⟩ := each h b hb
  unfold Acc.clash
  rw [one h1 h2 h3, one h3 h4 h1]
  rfl

theorem region_ok (ht : TabsOK P T) {call : CallF} (hc : CallOK P call) {nt : Nat} (hnt : nt ≤ bigger) {ops : Array Oper} {draw : Bool} {s s' : St} (h : region T call nt ops draw s = some s') (hwf : s.h.wf) (hdr : (!draw || drawOK ops) = true) :
    (∃ lw, Grow s.h lw s'.h ∧ s'.low = Nat.min s.low lw) ∧ ∀ (x : Cx) (j : Inj) (B : Nat → Option AO) (w : World) (act : Act) (Q : Exit → Act → World → Prop) (id : Nat), s.h.of x → x.ng ≤ x.n → CR x j B w act s nt → (∀ k, s.h.sz ≤ k → k < s'.h.sz → j (x.n + k) = none) →
      (∀ act' w' j', CR x j' B w' act' s' nt → Ext0 x j s.h.sz w j' s'.h.sz w' → Q .normal act' w') → (Code.region id ops draw).wp P Q act w := by
  unfold region at h
  split at h
  · rename_i s1 acs hst
    have hs : s1 = s' := by
      cases hb : (draw && anyWrites acs) <;> rw [hb] at h <;> simp only [cond] at h
      · injection h
      · cases ho : orderOK acs (Region.before ops).toList <;> rw [ho] at h <;> simp only at h
        · cases h
        · injection h
    subst hs
    refine ⟨steps_grow hc hst hwf, fun x j B w act Q id hx hng r hfut hQ => ?_⟩
    cases draw with
    | false =>
      refine wp_region ?_
      have := seq_ok ht hc hnt hng (Q := Q) ops.toList 0 (fun i => by simp) hst hwf hx r hfut hQ
      rw [List.range_eq_range']
      simpa using this
    | true =>
      refine draw_ok ht hc hnt hst hwf hx hng (by simpa using hdr) (fun i k a b hik ha hb hcl => ?_) r hfut hQ
      cases hw : anyWrites acs with
      | false =>
        rw [quiet_clash hw (List.mem_of_getElem? ha) (List.mem_of_getElem? hb)] at hcl
        cases hcl
      | true =>
        rw [hw] at h
        simp only [Bool.and_self, cond] at h
        cases ho : orderOK acs (Region.before ops).toList with
        | false => rw [ho] at h; cases h
        | true =>
          obtain ⟨m, h1, h2⟩ := pairsOK_spec ho i k a b hik ha hb hcl
          exact ⟨m, h1, by simpa using h2⟩
  · cases h

def exOf : Ex → Exit
  | .normal => .normal
  | .exit id => .exit id
  | .ret => .ret

/-- What is to be shown of a piece of text: it does the same on the machine. -/
def Does (P : Program) (nt : Nat) (s s' : St) (ex : Ex) (wp : (Exit → Act → World → Prop) → Act → World → Prop) : Prop :=
  (∃ lw, Grow s.h lw s'.h ∧ s'.low = Nat.min s.low lw) ∧ ∀ (x : Cx) (j : Inj) (B : Nat → Option AO) (w : World) (act : Act) (Q : Exit → Act → World → Prop), s.h.of x → x.ng ≤ x.n → CR x j B w act s nt →
    (∀ k, s.h.sz ≤ k → k < s'.h.sz → j (x.n + k) = none) → (∀ act' w' j', CR x j' B w' act' s' nt → Ext0 x j s.h.sz w j' s'.h.sz w' → Q (exOf ex) act' w') → wp Q act w

theorem Does.seq {nt : Nat} {s s1 s2 : St} {ex : Ex} {wp1 wp2 wp3 : (Exit → Act → World → Prop) → Act → World → Prop} (d1 : Does P nt s s1 .normal wp1) (d2 : Does P nt s1 s2 ex wp2)
    (h : ∀ Q act w, wp1 (Exit.then (wp2 Q) Q) act w → wp3 Q act w) : Does P nt s s2 ex wp3 := by
  obtain ⟨⟨l1, g1, e1⟩, f1⟩ := d1
  obtain ⟨⟨l2, g2, e2⟩, f2⟩ := d2
  refine ⟨⟨_, g1.trans g2, by rw [e2, e1]; exact Nat.min_assoc _ _ _⟩, fun x j B w act Q hx hng r hfut hQ => h Q act w (f1 x j B w act _ hx hng r (fun k h1 h2 => hfut k h1 (Nat.lt_of_lt_of_le h2 g2.le)) fun act1 w1 j1 r1 he1 => ?_)⟩
  refine f2 x j1 B w1 act1 Q (g1.of hx) hng r1 (fun k h1 h2 => ?_) fun act2 w2 j2 r2 he2 => hQ act2 w2 j2 r2 (Ext0.trans g1.le g2.le he1 he2)
  cases hj : j1 (x.n + k) with
  | none => rfl
  | some p =>
    rcases he1.dom _ _ hj with h3 | ⟨h3, h4⟩
    · rw [hfut k (Nat.le_trans g1.le h1) h2] at h3; cases h3
    · omega

theorem Does.exit {nt : Nat} {s s' : St} {ex : Ex} {wp1 wp3 : (Exit → Act → World → Prop) → Act → World → Prop} (d1 : Does P nt s s' ex wp1) (ex' : Ex)
    (h : ∀ Q : Exit → Act → World → Prop, ∃ Q' : Exit → Act → World → Prop, (∀ act w, Q (exOf ex') act w → Q' (exOf ex) act w) ∧ ∀ act w, wp1 Q' act w → wp3 Q act w) : Does P nt s s' ex' wp3 := by
  obtain ⟨g1, f1⟩ := d1
  refine ⟨g1, fun x j B w act Q hx hng r hfut hQ => ?_⟩
  obtain ⟨Q', h1, h2⟩ := h Q
  exact h2 act w (f1 x j B w act Q' hx hng r hfut fun act' w' j' r' he' => h1 act' w' (hQ act' w' j' r' he'))

theorem Does.here {nt : Nat} {s : St} (hwf : s.h.wf) {ex : Ex} {wp : (Exit → Act → World → Prop) → Act → World → Prop} (h : ∀ Q act w, Q (exOf ex) act w → wp Q act w) : Does P nt s s ex wp :=
  ⟨⟨s.low, Grow.refl hwf _, (Nat.min_self _).symm⟩, fun x j B w act Q _ _ r _ hQ => h Q act w (hQ act w j r (Ext0.refl _ _ _ _))⟩

theorem Does.wf {nt : Nat} {s s' : St} {ex : Ex} {wp : (Exit → Act → World → Prop) → Act → World → Prop} (d : Does P nt s s' ex wp) : s'.h.wf := by
  obtain ⟨⟨l, g, _⟩, _⟩ := d
  exact g.wf

theorem loop_ok {nt : Nat} {c : Code} {body : St → Option (Ex × St)} (hbody : ∀ s ex s', body s = some (ex, s') → s.h.wf → Does P nt s s' ex (c.wp P)) : ∀ (n : Nat) (s : St) (ex : Ex) (s' : St), loopN body n s = some (ex, s') → s.h.wf →
    Does P nt s s' ex (fun Q => Code.rounds P c Q n)
  | 0, s, ex, s', h, _ => by simp [loopN] at h
  | n + 1, s, ex, s', h, hwf => by
    unfold loopN at h
    split at h
    · rename_i s1 h1
      have d1 := hbody s _ s1 h1 hwf
      exact d1.seq (loop_ok hbody n s1 ex s' h d1.wf) fun Q act w h => h
    · rename_i hne
      have d1 := hbody s ex s' h hwf
      refine d1.exit ex fun Q => ⟨Exit.then (Code.rounds P c Q n) Q, fun act w hq => ?_, fun act w h => h⟩
      cases ex with
      | normal => exact absurd h (hne s')
      | exit id => exact hq
      | ret => exact hq

theorem code_ok (ht : TabsOK P T) {call : CallF} (hc : CallOK P call) {nt : Nat} (hnt : nt ≤ bigger) (k : Nat) : ∀ (c : Code) (s : St) (ex : Ex) (s' : St), codeOK c = true → runC T call nt k c s = some (ex, s') → s.h.wf → Does P nt s s' ex (c.wp P)
  | .skip, s, ex, s', _, h, hwf => by
    simp only [runC, Option.some.injEq, Prod.mk.injEq] at h
    obtain ⟨rfl, rfl⟩ := h
    exact Does.here hwf fun Q act w h => wp_skip h
  | .region id ops draw, s, ex, s', hd, h, hwf => by
    simp only [runC] at h
    split at h
    · rename_i s1 h1
      simp only [Option.some.injEq, Prod.mk.injEq] at h
      obtain ⟨rfl, rfl⟩ := h
      obtain ⟨g, f⟩ := region_ok ht hc hnt h1 hwf hd
      exact ⟨g, fun x j B w act Q hx hng r hfut hQ => f x j B w act Q id hx hng r hfut hQ⟩
    · cases h
  | .seq a b, s, ex, s', hd, h, hwf => by
    simp only [codeOK, Bool.and_eq_true] at hd
    simp only [runC] at h
    split at h
    · rename_i s1 h1
      have d1 := code_ok ht hc hnt k a s _ s1 hd.1 h1 hwf
      exact d1.seq (code_ok ht hc hnt k b s1 ex s' hd.2 h d1.wf) fun Q act w h => wp_seq h
    · rename_i hne
      have d1 := code_ok ht hc hnt k a s ex s' hd.1 h hwf
      refine d1.exit ex fun Q => ⟨Exit.then (b.wp P Q) Q, fun act w hq => ?_, fun act w h => wp_seq h⟩
      cases ex with
      | normal => exact absurd h (hne s')
      | exit id => exact hq
      | ret => exact hq
  | .cond c a b, s, ex, s', hd, h, hwf => by
    simp only [codeOK, Bool.and_eq_true] at hd
    simp only [runC] at h
    split at h
    · rename_i t hev
      cases t with
      | true =>
        simp only [cond] at h
        obtain ⟨g, f⟩ := code_ok ht hc hnt k a s ex s' hd.1 h hwf
        refine ⟨g, fun x j B w act Q hx hng r hfut hQ => wp_cond_true ?_ (f x j B w act Q hx hng r hfut hQ)⟩
        have := r.fr.ev hx r.rel c
        rw [hev] at this
        exact this.bool
      | false =>
        simp only [cond] at h
        obtain ⟨g, f⟩ := code_ok ht hc hnt k b s ex s' hd.2 h hwf
        refine ⟨g, fun x j B w act Q hx hng r hfut hQ => wp_cond_false ?_ (f x j B w act Q hx hng r hfut hQ)⟩
        have := r.fr.ev hx r.rel c
        rw [hev] at this
        exact this.bool
    · cases h
  | .block id c, s, ex, s', hd, h, hwf => by
    simp only [codeOK] at hd
    simp only [runC] at h
    split at h
    · rename_i i s1 h1
      cases hb : Nat.beq i id with
      | true =>
        rw [hb] at h
        simp only [cond, Option.some.injEq, Prod.mk.injEq] at h
        obtain ⟨rfl, rfl⟩ := h
        have hid : i = id := by simpa [Nat.beq_eq] using hb
        subst hid
        refine (code_ok ht hc hnt k c s _ _ hd h1 hwf).exit .normal fun Q => ⟨Exit.inBlock i Q, fun act w hq => ?_, fun act w h => wp_block h⟩
        simpa [Exit.inBlock, exOf] using hq
      | false =>
        rw [hb] at h
        simp only [cond, Option.some.injEq, Prod.mk.injEq] at h
        obtain ⟨rfl, rfl⟩ := h
        have hid : ¬ i = id := by intro e; subst e; simp at hb
        refine (code_ok ht hc hnt k c s _ _ hd h1 hwf).exit (.exit i) fun Q => ⟨Exit.inBlock id Q, fun act w hq => ?_, fun act w h => wp_block h⟩
        simpa [Exit.inBlock, exOf, hid] using hq
    · rename_i hne
      refine (code_ok ht hc hnt k c s ex s' hd h hwf).exit ex fun Q => ⟨Exit.inBlock id Q, fun act w hq => ?_, fun act w h => wp_block h⟩
      cases ex with
      | normal => exact hq
      | exit i => exact absurd h (hne i s')
      | ret => exact hq
  | .loop c, s, ex, s', hd, h, hwf => by
    simp only [codeOK] at hd
    simp only [runC] at h
    have d := loop_ok (P := P) (nt := nt) (c := c) (fun s ex s' h1 h2 => code_ok ht hc hnt k c s ex s' hd h1 h2) k s ex s' h hwf
    exact d.exit ex fun Q => ⟨Q, fun act w hq => hq, fun act w h => wp_loop_rounds k h⟩
  | .exit id, s, ex, s', _, h, hwf => by
    simp only [runC, Option.some.injEq, Prod.mk.injEq] at h
    obtain ⟨rfl, rfl⟩ := h
    exact Does.here hwf fun Q act w h => wp_exit h
  | .ret, s, ex, s', _, h, hwf => by
    simp only [runC, Option.some.injEq, Prod.mk.injEq] at h
    obtain ⟨rfl, rfl⟩ := h
    exact Does.here hwf fun Q act w h => wp_ret h
  | .rangeFunc _ _ _ _, s, ex, s', _, h, hwf => by simp [runC] at h
  | .scope _, s, ex, s', _, h, hwf => by simp [runC] at h
  | .label _, s, ex, s', _, h, hwf => by simp [runC] at h
  | .goto _, s, ex, s', _, h, hwf => by simp [runC] at h
  | .refuse _, s, ex, s', _, h, hwf => by simp [runC] at h

/-! ### results and arguments -/
def resOne (act : Act) : ResultVar → Sem Value
  | .tmp t => pure (act.tmps.getD t undef)
  | .cell a t => do loadVar t (← asAddr (act.tmps.getD a undef))

theorem results_eq (F : Func) (act : Act) : results F act.tmps = (F.results.mapM (resOne act) >>= fun vs => (pure (if h : vs.size = 1 then vs[0] else .tuple vs) : Sem Value)) := by
  have : (resOne act) = fun | .tmp t => (pure (act.tmps.getD t undef) : Sem Value) | .cell a t => (do loadVar t (← asAddr (act.tmps.getD a undef))) := by
    funext rv
    cases rv <;> rfl
  rw [this]
  rfl

theorem resV_ok (ht : TabsOK P T) {nt : Nat} {s : St} {act : Act} (hwf : s.h.wf) (hx : s.h.of x) (r : CR x j B w act s nt) {rv : ResultVar} {v : Value} (h : resV T s.h s.fr rv = some v) :
    ∃ v', VR j v v' ∧ (resOne act rv).run P w = .ok v' w := by
  cases rv with
  | tmp t =>
    simp only [resV, Option.some.injEq] at h
    subst h
    refine ⟨act.tmps.getD t undef, ?_, rfl⟩
    cases ht : Tr.get s.fr t with
    | none => exact VR.undef _
    | some v => exact r.fr.at_ t v ht
  | cell a t =>
    simp only [resV] at h
    split at h
    · rename_i b off ha
      obtain ⟨a', h1, h2⟩ := (r.fr.at_ a _ ha).ptr
      obtain ⟨v', h3, h4⟩ := loadT_rel ht hx r.rel (fun hle => by
        show s.h.view B (b - x.n) = _
        unfold AH.view
        split
        · rfl
        · rename_i hlt
          exfalso
          have hcc := loadT_acc h (b - x.n) (by
            unfold rdOf
            rw [hx.2.1]
            have : Nat.blt b x.n = false := by
              cases hq : Nat.blt b x.n
              · rfl
              · have := blt_true hq; omega
            rw [this]
            simp)
          obtain ⟨o, ho⟩ := Option.isSome_iff_exists.1 hcc
          exact hlt (AH.wf_lt hwf ho)) h h2
      refine ⟨v', h4, ?_⟩
      simp only [resOne, h1, asAddr, Sem.run_bind, Sem.run_pure, Result.andThen_ok]
      exact h3
    · cases h

theorem resVs_ok (ht : TabsOK P T) {nt : Nat} {s : St} {act : Act} (hwf : s.h.wf) (hx : s.h.of x) (r : CR x j B w act s nt) : ∀ {rs : List ResultVar} {vs : List Value}, resVs T s.h s.fr rs = some vs →
    ∃ vs', All2 (UR j) vs vs' ∧ (rs.mapM (resOne act)).run P w = .ok vs' w
  | [], vs, h => by
    simp only [resVs, Option.some.injEq] at h
    subst h
    exact ⟨[], .nil, rfl⟩
  | rv :: rs, vs, h => by
    simp only [resVs] at h
    split at h
    · rename_i v vs1 h1 h2
      cases hb : isOne v with
      | false => rw [hb] at h; cases h
      | true =>
        rw [hb] at h
        simp only [cond, Option.some.injEq] at h
        subst h
        obtain ⟨v', h3, h4⟩ := resV_ok ht hwf hx r h1
        obtain ⟨vs', h5, h6⟩ := resVs_ok ht hwf hx r h2
        have h7 : UR j v v' := by
          cases h3 with
          | one h => exact h
          | tup h => simp [isOne] at hb
          | skip => simp [isOne, skipV] at hb
        refine ⟨v' :: vs', .cons h7 h5, ?_⟩
        rw [List.mapM_cons, Sem.run_bind, h4, Result.andThen_ok, Sem.run_bind, h6]
        rfl
    · cases h

theorem resAll_ok (ht : TabsOK P T) {nt : Nat} {s : St} {act : Act} (hwf : s.h.wf) (hx : s.h.of x) (r : CR x j B w act s nt) {F : Func} {v : Value} (h : resAll T s.h s.fr F.results.toList = some v) :
    ∃ v', VR j v v' ∧ (results F act.tmps).run P w = .ok v' w := by
  unfold resAll at h
  have hres : ∀ vs' : List Value, (F.results.toList.mapM (resOne act)).run P w = .ok vs' w →
      (results F act.tmps).run P w = .ok (if h : (⟨vs'⟩ : Array Value).size = 1 then (⟨vs'⟩ : Array Value)[0] else .tuple ⟨vs'⟩) w := by
    intro vs' h1
    rw [results_eq, Array.mapM_eq_mapM_toList, Sem.run_bind]
    have : (List.toArray <$> (F.results.toList.mapM (resOne act))).run P w = .ok ⟨vs'⟩ w := by
      rw [map_eq_pure_bind, Sem.run_bind, h1]
      rfl
    rw [this]
    rfl
  split at h
  · rename_i v1 h1
    injection h with h
    subst h
    obtain ⟨vs', h2, h3⟩ := resVs_ok ht hwf hx r h1
    cases h2 with
    | cons h4 h5 =>
      cases h5
      refine ⟨_, .one h4, ?_⟩
      rw [hres _ h3]
      rfl
  · rename_i vs hne h1
    injection h with h
    subst h
    obtain ⟨vs', h2, h3⟩ := resVs_ok ht hwf hx r h1
    refine ⟨_, .tup h2, ?_⟩
    rw [hres _ h3, dif_neg]
    intro h4
    have h4 : vs'.length = 1 := h4
    rw [h2.length] at h4
    match vs, h4 with
    | [v], _ => exact hne v rfl
  · cases h

theorem argsFr_get : ∀ (args : List Value) (i : Nat) (fr : Fr) (t : Nat) (v : Value), i + args.length ≤ bigger → Tr.get (argsFr i args fr) t = some v → (∃ k, t = i + k ∧ args[k]? = some v) ∨ (Tr.get fr t = some v ∧ (t < i ∨ i + args.length ≤ t))
  | [], i, fr, t, v, _, h => .inr ⟨h, by simp only [List.length_nil]; omega⟩
  | u :: args, i, fr, t, v, hi, h => by
    simp only [List.length_cons] at hi
    simp only [argsFr] at h
    rcases argsFr_get args (i + 1) _ t v (by omega) h with ⟨k, h1, h2⟩ | ⟨h1, h2⟩
    · exact .inl ⟨k + 1, by omega, by simpa using h2⟩
    · by_cases e : t = i
      · subst e
        rw [Tr.get_set_eq _ _ _] at h1
        injection h1 with h1
        subst h1
        exact .inl ⟨0, by omega, rfl⟩
      · rw [Tr.get_set_ne _ _ e] at h1
        exact .inr ⟨h1, by simp only [List.length_cons]; omega⟩

/-- A run of the evaluator is a call of the machine's. -/
theorem runF_ok (ht : TabsOK P T) : ∀ k, CallOK P (runF T k)
  | 0 => fun f args h v h' low hr _ => by simp [runF] at hr
  | k + 1 => fun f args h v h' low hr hwf => by
    have hc := runF_ok ht k
    unfold runF at hr
    split at hr
    · rename_i v0 hv0
      cases hb : args.isEmpty with
      | false => rw [hb] at hr; cases hr
      | true =>
        rw [hb] at hr
        simp only [cond, Option.some.injEq, Prod.mk.injEq] at hr
        obtain ⟨rfl, rfl, rfl⟩ := hr
        have hnil : args = [] := by cases args with | nil => rfl | cons _ _ => cases hb
        subst hnil
        obtain ⟨h1, h2, h3⟩ := ht.known f v0 hv0
        refine ⟨Grow.refl hwf _, h2, fun x j B w args' hx hng r hB hfut hargs => ?_⟩
        cases hargs
        refine Calls.mono (h3 w) fun e w' he => ?_
        obtain ⟨rfl, hbel⟩ := he
        have hold : ∀ c, c < w.heap.size → w'.heap[c]? = w.heap[c]? := fun c hc => hbel.block c hc
        refine ⟨v0, j, rfl, h1 j, ?_, ⟨⟨hbel.os, hbel.tape, hbel.output, hbel.size⟩, Sub.refl j, fun _ _ h => .inl h, fun c hc => hold c (Nat.lt_of_lt_of_le hc r.room)⟩⟩
        have r1 : Rel x j (h.view B) w := r.congr fun b hb => by
          unfold AH.view
          split
          · rename_i hlt; exact (hB b hlt hb).symm
          · rfl
        refine ⟨r1.glob, fun b i v hb hv => ?_, r1.blow, fun k c s cs g1 g2 => ?_, r1.excl, fun k c s g1 => ?_, Nat.le_trans r1.room hbel.size, fun c l g1 => ?_⟩
        · obtain ⟨c, s, v', g1, g2, g3⟩ := r1.base b i v hb hv
          refine ⟨c, s, v', g1, ?_, g3⟩
          rw [cell_heap (w := w) (hold c (Nat.lt_of_lt_of_le (r1.blow b c s hb g1) r1.room))]
          exact g2
        · obtain ⟨cur, t, g3, g4⟩ := r1.cells k c s cs g1 g2
          exact ⟨cur, t, by rw [hold c (r1.low k c s g1).2]; exact g3, g4⟩
        · have := r1.low k c s g1
          exact ⟨this.1, Nat.lt_of_lt_of_le this.2 hbel.size⟩
        · obtain ⟨cur, t, g3, g4⟩ := r1.lens c l g1
          exact ⟨cur, t, by rw [hold c (r1.len_lt g1)]; exact g3, g4⟩
    split at hr
    · rename_i fi hfi
      have hfn := ht.fn f fi hfi
      cases hb : Nat.ble args.length fi.nt with
      | false => rw [hb] at hr; cases hr
      | true =>
        rw [hb] at hr
        simp only [cond] at hr
        have hb := Nat.le_of_ble_eq_true hb
        have key : ∀ (ex : Ex) (s : St), (ex = .normal ∨ ex = .ret) → runC T (runF T k) fi.nt k fi.code ⟨argsFr 0 args .e, h, h.sz⟩ = some (ex, s) → (match resAll T s.h s.fr fi.res with | some v => some (v, s.h, s.low) | none => none) = some (v, h', low) →
            Grow h low h' ∧ Go.Proofs.Enters P f ∧ ∀ (x : Cx) (j : Inj) (B : Nat → Option AO) (w : World) (args' : List Value), h.of x → x.ng ≤ x.n → Rel x j B w → (∀ k, k < h.sz → (j (x.n + k)).isSome = true → B k = h.blk k) →
              (∀ k, h.sz ≤ k → k < h'.sz → j (x.n + k) = none) → All2 (VR j) args args' →
              Calls P f ⟨args'⟩ w fun e w' => ∃ v' j', e = .returned v' ∧ VR j' v v' ∧ Rel x j' (h'.view B) w' ∧ Ext0 x j h.sz w j' h'.sz w' := by
          intro ex s hex hrun hres
          obtain ⟨⟨l, g, e⟩, d⟩ := code_ok ht hc hfn.small k fi.code _ ex s hfn.draws hrun hwf
          split at hres
          · rename_i v1 hv1
            simp only [Option.some.injEq, Prod.mk.injEq] at hres
            obtain ⟨rfl, rfl, rfl⟩ := hres
            refine ⟨g.mono (by rw [e]; exact Nat.min_le_right _ _), hfn.enters, fun x j B w args' hx hng r hB hfut hargs => ?_⟩
            obtain ⟨F, f1, f2, f3, f4⟩ := hfn.func
            refine calls_of_wp f1 f2 (d x j B w _ _ hx hng ⟨r.congr fun b hb => ?_, ?_, fun t u hu => ?_, rfl⟩ hfut fun act' w' j' r' he => ?_)
            · show h.view B b = B b
              unfold AH.view
              split
              · rename_i hlt; exact (hB b hlt hb).symm
              · rfl
            · have := hargs.length
              simp [f3]
              omega
            · have hl := hargs.length
              have hsm := hfn.small
              rcases argsFr_get args 0 .e t u (by omega) hu with ⟨q, h1, h2⟩ | ⟨h1, _⟩
              · obtain rfl : t = q := by omega
                obtain ⟨u', h3, h4⟩ := hargs.at_ t u h2
                have h5 : t < args'.length := (List.getElem?_eq_some_iff.1 h3).1
                have h6 : ((⟨args'⟩ : Array Value) ++ Array.replicate (F.ntmps - (⟨args'⟩ : Array Value).size) undef).getD t undef = u' := by
                  rw [Array.getD_eq_getD_getElem?, Array.getElem?_append_left (by exact h5)]
                  have : (⟨args'⟩ : Array Value)[t]? = some u' := by simpa using h3
                  rw [this]
                  rfl
                rw [h6]
                exact h4
              · rw [Tr.get_e] at h1; cases h1
            · rw [← f4] at hv1
              obtain ⟨v', h1, h2⟩ := resAll_ok ht g.wf (g.of hx) r' hv1
              have goal : act'.defers = [] ∧ ∃ v', (results F act'.tmps).run P w' = .ok v' w' ∧ ∃ v'' j'', Ending.returned v' = .returned v'' ∧ VR j'' v1 v'' ∧ Rel x j'' (s.h.view B) w' ∧ Ext0 x j h.sz w j'' s.h.sz w' :=
                ⟨r'.fr.defers, v', h2, v', j', rfl, h1, r'.rel, he⟩
              rcases hex with rfl | rfl
              · exact goal
              · exact goal
          · cases hres
        split at hr
        · rename_i s hs
          exact key _ s (.inl rfl) hs hr
        · rename_i s hs
          exact key _ s (.inr rfl) hs hr
        · cases hr
    · cases hr

end Go.Vae

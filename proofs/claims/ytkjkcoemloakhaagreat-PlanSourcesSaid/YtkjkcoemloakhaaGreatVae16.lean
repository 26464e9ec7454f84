/- Runs of the evaluator from frames of which some temporaries are known. -/
import Derived.Test.YtkjkcoemloakhaaGreatVae15
set_option linter.unusedVariables false
set_option linter.unusedSimpArgs false
namespace Go.Vae
open Go Go.RowKit

variable {T : Tabs}

abbrev Bs := List (Nat × Value)

def look : Bs → Nat → Option Value
  | [], _ => none
  | (k, v) :: r, t => bif Nat.beq k t then some v else look r t

def Has (fr : Fr) (bs : Bs) : Prop := ∀ t v, look bs t = some v → Tr.get fr t = some v

def evB (bs : Bs) (h : AH) : Operand → Option Value
  | .tmp t => look bs t
  | .const v => bif cOK v then some v else none
  | .global g => bif Nat.blt g h.ng then some (.pointer (some ⟨g, 0, none⟩)) else none
  | .func f => some (.func (.func f) #[] #[])

def rho (bs : Bs) (h : AH) (o : Operand) : Value := (evB bs h o).getD undef

def allB (bs : Bs) (h : AH) : List Operand → Bool
  | [] => true
  | o :: os => (evB bs h o).isSome && allB bs h os

theorem allB_mem {bs : Bs} {h : AH} : ∀ {os : List Operand}, allB bs h os = true → ∀ o ∈ os, evB bs h o = some (rho bs h o)
  | [], _, o, ho => by simp at ho
  | p :: os, ha, o, ho => by
    simp only [allB, Bool.and_eq_true] at ha
    rcases List.mem_cons.1 ho with ho | ho
    · subst ho
      obtain ⟨v, hv⟩ := Option.isSome_iff_exists.1 ha.1
      simp [rho, hv]
    · exact allB_mem ha.2 o ho

theorem Has.ev {fr : Fr} {bs : Bs} (hh : Has fr bs) {h : AH} {o : Operand} {v : Value} (he : evB bs h o = some v) : fr.ev h o = v := by
  cases o with
  | tmp t =>
    simp only [evB] at he
    simp [Fr.ev, hh t v he]
  | const u =>
    simp only [evB] at he
    simp only [Fr.ev]
    cases hc : cOK u <;> rw [hc] at he
    · cases he
    · injection he
  | global g =>
    simp only [evB] at he
    simp only [Fr.ev]
    cases hc : Nat.blt g h.ng <;> rw [hc] at he
    · cases he
    · injection he
  | func f =>
    simp only [evB] at he
    injection he

theorem Has.set {fr : Fr} {bs : Bs} (hh : Has fr bs) (d : Nat) (v : Value) : Has (Tr.set fr d v) ((d, v) :: bs) := by
  intro t u hu
  simp only [look] at hu
  cases hb : Nat.beq d t with
  | true =>
    rw [hb] at hu
    injection hu with hu
    subst hu
    have : d = t := by simpa [Nat.beq_eq] using hb
    subst this
    exact Tr.get_set_eq _ _ _
  | false =>
    rw [hb] at hu
    have : t ≠ d := fun e => by subst e; simp at hb
    rw [Tr.get_set_ne _ _ this]
    exact hh t u hu

theorem Has.sub {fr : Fr} {bs bs' : Bs} (hh : Has fr bs) (h : ∀ t v, look bs' t = some v → look bs t = some v) : Has fr bs' := fun t v hv => hh t v (h t v hv)

theorem aop_congr {h : AH} {ρ ρ' : Operand → Value} {o : Oper} (hρ : ∀ x ∈ o.op.operands.toList, ρ x = ρ' x) : aop T h ρ o = aop T h ρ' o := by
  obtain ⟨dst, op, ty, pos, after, guard⟩ := o
  have maps : ∀ (l : List Operand), (∀ x ∈ l, ρ x = ρ' x) → l.map ρ = l.map ρ' := fun l hl => List.map_congr_left hl
  have parts : ∀ (l : List (Nat × Operand)), (∀ x ∈ l, ρ x.2 = ρ' x.2) → (l.map fun p => (p.1, ρ p.2)) = l.map fun p => (p.1, ρ' p.2) := fun l hl => List.map_congr_left fun p hp => by rw [hl p hp]
  cases op <;> simp only [Op.operands] at hρ <;> simp only [aop]
  case build t ps => rw [parts ps.toList fun p hp => hρ p.2 (by simp; exact ⟨p.1, by simpa using hp⟩)]
  case buildSlice t n ps => rw [parts ps.toList fun p hp => hρ p.2 (by simp; exact ⟨p.1, by simpa using hp⟩)]
  case makeFunc fn first caps => rw [maps caps.toList fun p hp => hρ p (by simp at hp ⊢; exact .inr hp)]
  case call c =>
    have h1 : ∀ x ∈ c.args.toList, ρ x = ρ' x := fun x hx => hρ x (by simp only [Call.operands]; simp at hx ⊢; exact .inr hx)
    simp only [acall, maps _ h1]
    cases hc : c.callee with
    | value f =>
      have hf : ρ f = ρ' f := hρ f (by simp [Call.operands, hc])
      simp only [hf]
    | _ => rfl
  case slice t x lo hi mx => cases lo <;> cases hi <;> cases mx <;> simp_all
  all_goals first | rfl | (simp_all; done)

def wantedB (ops : List Oper) (bs : Bs) (o : Oper) : Option Bool :=
  match o.guard with
  | none => some true
  | some (j, want) => match lget ops j with
    | some oj => match oj.dst with
      | some d => match look bs d with
        | some (.bool b) => some (b == want)
        | some (.chan none) => some false
        | _ => none
      | none => none
    | none => none

theorem wantedB_eq {ops : List Oper} {fr : Fr} {bs : Bs} (hh : Has fr bs) {o : Oper} {b : Bool} (h : wantedB ops bs o = some b) : wantedA ops fr o = some b := by
  unfold wantedB at h
  unfold wantedA
  split at h
  · rename_i hg; rw [hg]; exact h
  · rename_i g want hg
    rw [hg]
    simp only
    split at h
    · rename_i oj hoj
      rw [hoj]
      simp only
      split at h
      · rename_i d hd
        rw [hd]
        simp only
        split at h
        · rename_i c hc; rw [hh _ _ hc]; exact h
        · rename_i hc; rw [hh _ _ hc]; exact h
        · cases h
      · cases h
    · cases h

/-! ### text and regions -/
def WpB (T : Tabs) (nt : Nat) (c : Code) (bs : Bs) (h : AH) (low : Nat) (Q : Ex → Bs → AH → Nat → Prop) : Prop :=
  ∀ fr, Has fr bs → Wp T nt c ⟨fr, h, low⟩ fun ex s => ∃ bs', Has s.fr bs' ∧ Q ex bs' s.h s.low

def SpB (T : Tabs) (nt : Nat) (ops l : List Oper) (bs : Bs) (h : AH) (low : Nat) (Q : Bs → AH → Nat → List Acc → Prop) : Prop :=
  ∀ fr, Has fr bs → Sp T nt ops l ⟨fr, h, low⟩ fun s acs => ∃ bs', Has s.fr bs' ∧ Q bs' s.h s.low acs

theorem SpB.nil {nt : Nat} {ops : List Oper} {bs : Bs} {h : AH} {low : Nat} {Q : Bs → AH → Nat → List Acc → Prop} (hq : Q bs h low []) : SpB T nt ops [] bs h low Q :=
  fun fr hf => Sp.nil ⟨bs, hf, hq⟩

section
variable {nt : Nat} {ops l : List Oper} {o : Oper} {bs : Bs} {h : AH} {low : Nat} {Q : Bs → AH → Nat → List Acc → Prop}

/-- An operation with a result. -/
theorem SpB.eff {v : Value} {e : Eff} {rd : List Nat} {d : Nat} (hw : wantedB ops bs o = some true) (hall : allB bs h o.op.operands.toList = true) (ha : aop T h (rho bs h) o = some (.val v e rd)) (hd : o.dst = some d) (hlt : Nat.blt d nt = true)
    (h2 : SpB T nt ops l ((d, v) :: bs) (h.app e) (Nat.min low (e.lowD low)) fun b h' l' acs => Q b h' l' (⟨rd, e.wr, h.sz, (h.app e).sz, none⟩ :: acs)) : SpB T nt ops (o :: l) bs h low Q := by
  intro fr hf
  refine Sp.cons (s1 := ⟨Tr.set fr d v, h.app e, Nat.min low (e.lowD low)⟩) (a := ⟨rd, e.wr, h.sz, (h.app e).sz, none⟩) ⟨0, ?_⟩ (h2 _ (hf.set d v))
  have : aop T h (fr.ev h) o = some (.val v e rd) := by
    rw [← ha]
    exact aop_congr fun x hx => hf.ev (allB_mem hall x hx)
  simp [step1, wantedB_eq hf hw, this, putT, hd, hlt]

/-- An operation that has no effect on the memory. -/
theorem SpB.pure {v : Value} {rd : List Nat} {d : Nat} (hw : wantedB ops bs o = some true) (hall : allB bs h o.op.operands.toList = true) (ha : aop T h (rho bs h) o = some (.val v .nil rd)) (hd : o.dst = some d) (hlt : Nat.blt d nt = true)
    (h2 : SpB T nt ops l ((d, v) :: bs) h low fun b h' l' acs => Q b h' l' (⟨rd, [], h.sz, h.sz, none⟩ :: acs)) : SpB T nt ops (o :: l) bs h low Q :=
  SpB.eff hw hall ha hd hlt (by
    have : Nat.min low (Eff.lowD low .nil) = low := Nat.min_self low
    rw [this]
    exact h2)

/-- An operation without a result. -/
theorem SpB.done {v : Value} {e : Eff} {rd : List Nat} (hw : wantedB ops bs o = some true) (hall : allB bs h o.op.operands.toList = true) (ha : aop T h (rho bs h) o = some (.val v e rd)) (hd : o.dst = none)
    (h2 : SpB T nt ops l bs (h.app e) (Nat.min low (e.lowD low)) fun b h' l' acs => Q b h' l' (⟨rd, e.wr, h.sz, (h.app e).sz, none⟩ :: acs)) : SpB T nt ops (o :: l) bs h low Q := by
  intro fr hf
  refine Sp.cons (s1 := ⟨fr, h.app e, Nat.min low (e.lowD low)⟩) (a := ⟨rd, e.wr, h.sz, (h.app e).sz, none⟩) ⟨0, ?_⟩ (h2 _ hf)
  have : aop T h (fr.ev h) o = some (.val v e rd) := by
    rw [← ha]
    exact aop_congr fun x hx => hf.ev (allB_mem hall x hx)
  simp [step1, wantedB_eq hf hw, this, putT, hd]

/-- An operation that isn't wanted. -/
theorem SpB.skip {d : Nat} (hw : wantedB ops bs o = some false) (hd : o.dst = some d) (hlt : Nat.blt d nt = true)
    (h2 : SpB T nt ops l ((d, skipV) :: bs) h low fun b h' l' acs => Q b h' l' (⟨[], [], h.sz, h.sz, none⟩ :: acs)) : SpB T nt ops (o :: l) bs h low Q := by
  intro fr hf
  refine Sp.cons (s1 := ⟨Tr.set fr d skipV, h, low⟩) (a := ⟨[], [], h.sz, h.sz, none⟩) ⟨0, ?_⟩ (h2 _ (hf.set d skipV))
  simp [step1, wantedB_eq hf hw, putT, hd, hlt]

/-- A call. -/
theorem SpB.call {f : FuncId} {args : List Value} {d : Nat} {R : Value → AH → Nat → Prop} (hw : wantedB ops bs o = some true) (hall : allB bs h o.op.operands.toList = true) (ha : aop T h (rho bs h) o = some (.go f args)) (hf : Fp T f args h R) (hd : o.dst = some d) (hlt : Nat.blt d nt = true)
    (h2 : ∀ v h' low', R v h' low' → SpB T nt ops l ((d, v) :: bs) h' (Nat.min low low') fun b h'' l' acs => Q b h'' l' (⟨[], [], h.sz, h'.sz, some (Nat.blt low' h.sz)⟩ :: acs)) : SpB T nt ops (o :: l) bs h low Q := by
  intro fr hfr
  obtain ⟨v, h', low', ⟨k, hk⟩, hr⟩ := hf
  refine Sp.cons (s1 := ⟨Tr.set fr d v, h', Nat.min low low'⟩) (a := ⟨[], [], h.sz, h'.sz, some (Nat.blt low' h.sz)⟩) ⟨k, ?_⟩ (h2 v h' low' hr _ (hfr.set d v))
  have : aop T h (fr.ev h) o = some (.go f args) := by
    rw [← ha]
    exact aop_congr fun x hx => hfr.ev (allB_mem hall x hx)
  simp [step1, wantedB_eq hfr hw, this, hk, putT, hd, hlt]
end

section
variable {nt : Nat} {bs : Bs} {h : AH} {low : Nat} {Q : Ex → Bs → AH → Nat → Prop}

theorem WpB.region {id : Nat} {ops : Array Oper} (hs : SpB T nt ops.toList ops.toList bs h low fun b h' l' _ => Q .normal b h' l') : WpB T nt (.region id ops false) bs h low Q :=
  fun fr hf => Wp.region (hs fr hf)

theorem WpB.draw {id : Nat} {ops : Array Oper} (hs : SpB T nt ops.toList ops.toList bs h low fun b h' l' acs => (anyWrites acs = true → orderOK acs (Region.before ops).toList = true) ∧ Q .normal b h' l') : WpB T nt (.region id ops true) bs h low Q :=
  fun fr hf => Wp.draw (by
    obtain ⟨s', acs, h1, bs', h2, h3, h4⟩ := hs fr hf
    exact ⟨s', acs, h1, h3, bs', h2, h4⟩)

def thenB (Q1 : Bs → AH → Nat → Prop) (Q : Ex → Bs → AH → Nat → Prop) : Ex → Bs → AH → Nat → Prop
  | .normal, b, h, l => Q1 b h l
  | ex, b, h, l => Q ex b h l

theorem WpB.mono {c : Code} {Q' : Ex → Bs → AH → Nat → Prop} (hw : WpB T nt c bs h low Q) (hq : ∀ ex b h' l, Q ex b h' l → Q' ex b h' l) : WpB T nt c bs h low Q' :=
  fun fr hf => (hw fr hf).mono fun ex s ⟨b, h1, h2⟩ => ⟨b, h1, hq _ _ _ _ h2⟩

theorem WpB.seq {a b : Code} (hw : WpB T nt a bs h low (thenB (fun bs' h' l' => WpB T nt b bs' h' l' Q) Q)) : WpB T nt (.seq a b) bs h low Q :=
  fun fr hf => Wp.seq ((hw fr hf).mono fun ex s hq => by
    obtain ⟨bs', h1, h2⟩ := hq
    cases ex with
    | normal => exact h2 s.fr h1
    | exit i => exact ⟨bs', h1, h2⟩
    | ret => exact ⟨bs', h1, h2⟩)

theorem WpB.skip (hq : Q .normal bs h low) : WpB T nt .skip bs h low Q := fun fr hf => Wp.skip ⟨bs, hf, hq⟩
theorem WpB.exit {id : Nat} (hq : Q (.exit id) bs h low) : WpB T nt (.exit id) bs h low Q := fun fr hf => Wp.exit ⟨bs, hf, hq⟩
theorem WpB.ret (hq : Q .ret bs h low) : WpB T nt .ret bs h low Q := fun fr hf => Wp.ret ⟨bs, hf, hq⟩

theorem WpB.cond {c : Operand} {a b : Code} {t : Bool} (hc : evB bs h c = some (.bool t)) (ha : t = true → WpB T nt a bs h low Q) (hb : t = false → WpB T nt b bs h low Q) : WpB T nt (.cond c a b) bs h low Q :=
  fun fr hf => Wp.cond (hf.ev hc) (fun e => ha e fr hf) (fun e => hb e fr hf)

def blockB (id : Nat) (Q : Ex → Bs → AH → Nat → Prop) : Ex → Bs → AH → Nat → Prop
  | .exit i, b, h, l => if i = id then Q .normal b h l else Q (.exit i) b h l
  | ex, b, h, l => Q ex b h l

theorem WpB.block {id : Nat} {c : Code} (hw : WpB T nt c bs h low (blockB id Q)) : WpB T nt (.block id c) bs h low Q :=
  fun fr hf => Wp.block ((hw fr hf).mono fun ex s hq => by
    obtain ⟨bs', h1, h2⟩ := hq
    cases ex with
    | normal => exact ⟨bs', h1, h2⟩
    | exit i =>
      simp only [blockB] at h2
      simp only [blockQ]
      split
      · rename_i e; rw [if_pos e] at h2; exact ⟨bs', h1, h2⟩
      · rename_i e; rw [if_neg e] at h2; exact ⟨bs', h1, h2⟩
    | ret => exact ⟨bs', h1, h2⟩)

theorem WpB.sub {c : Code} {bs' : Bs} (hw : WpB T nt c bs' h low Q) (hs : ∀ t v, look bs' t = some v → look bs t = some v) : WpB T nt c bs h low Q :=
  fun fr hf => hw fr (hf.sub hs)

/-- A loop with an invariant and a measure. -/
theorem WpB.loop {c : Code} (I : Nat → Bs → AH → Nat → Prop) (hr : ∀ n bs h low, I n bs h low → WpB T nt c bs h low (thenB (fun bs' h' l' => ∃ m b, m < n ∧ (∀ t v, look b t = some v → look bs' t = some v) ∧ I m b h' l') Q)) {n : Nat} {b0 : Bs} (h0 : I n b0 h low)
    (hs : ∀ t v, look b0 t = some v → look bs t = some v) : WpB T nt (.loop c) bs h low Q := fun fr hf =>
  Wp.loop (fun n s => ∃ bs, Has s.fr bs ∧ I n bs s.h s.low) (fun n s ⟨bs, h1, h2⟩ => (hr n bs s.h s.low h2 s.fr h1).mono fun ex s' hq => by
    obtain ⟨bs', h3, h4⟩ := hq
    cases ex with
    | normal =>
      obtain ⟨m, b, h5, h6, h7⟩ := h4
      exact ⟨m, h5, b, h3.sub h6, h7⟩
    | exit i => exact ⟨bs', h3, h4⟩
    | ret => exact ⟨bs', h3, h4⟩) n ⟨fr, h, low⟩ ⟨b0, hf.sub hs, h0⟩
end

/-! ### functions -/
def resVB (T : Tabs) (h : AH) (bs : Bs) : ResultVar → Option Value
  | .tmp t => look bs t
  | .cell a t => match look bs a with
    | some (.pointer (some ⟨b, off, none⟩)) => loadT T h t b off
    | _ => none

def resVsB (T : Tabs) (h : AH) (bs : Bs) : List ResultVar → Option (List Value)
  | [] => some []
  | r :: rs => match resVB T h bs r, resVsB T h bs rs with
    | some v, some vs => bif isOne v then some (v :: vs) else none
    | _, _ => none

def resAllB (T : Tabs) (h : AH) (bs : Bs) (rs : List ResultVar) : Option Value :=
  match resVsB T h bs rs with
  | some [v] => some v
  | some vs => some (.tuple ⟨vs⟩)
  | none => none

theorem resVB_eq {h : AH} {fr : Fr} {bs : Bs} (hf : Has fr bs) {r : ResultVar} {v : Value} (hv : resVB T h bs r = some v) : resV T h fr r = some v := by
  cases r with
  | tmp t => simp only [resVB] at hv; simp [resV, hf _ _ hv]
  | cell a t =>
    simp only [resVB] at hv
    split at hv
    · rename_i b off ha
      simp [resV, hf _ _ ha, hv]
    · cases hv

theorem resVsB_eq {h : AH} {fr : Fr} {bs : Bs} (hf : Has fr bs) : ∀ {rs : List ResultVar} {vs : List Value}, resVsB T h bs rs = some vs → resVs T h fr rs = some vs
  | [], vs, hv => hv
  | r :: rs, vs, hv => by
    simp only [resVsB] at hv
    split at hv
    · rename_i v vs1 h1 h2
      simp [resVs, resVB_eq hf h1, resVsB_eq hf h2, hv]
    · cases hv

theorem resAllB_eq {h : AH} {fr : Fr} {bs : Bs} (hf : Has fr bs) {rs : List ResultVar} {v : Value} (hv : resAllB T h bs rs = some v) : resAll T h fr rs = some v := by
  unfold resAllB at hv
  unfold resAll
  split at hv
  · rename_i h1; rw [resVsB_eq hf h1]; exact hv
  · rename_i vs hne h1
    rw [resVsB_eq hf h1]
    split
    · rename_i e; injection e with e; exact absurd e (hne _)
    · rename_i e; injection e with e; subst e; exact hv
    · rename_i e; cases e
  · cases hv

def bsOf : Nat → List Value → Bs → Bs
  | _, [], bs => bs
  | i, v :: vs, bs => bsOf (i + 1) vs ((i, v) :: bs)

theorem has_args : ∀ (args : List Value) (i : Nat) (fr : Fr) (bs : Bs), Has fr bs → Has (argsFr i args fr) (bsOf i args bs)
  | [], _, _, _, h => h
  | v :: vs, i, fr, bs, h => has_args vs (i + 1) _ _ (h.set i v)

def endB (T : Tabs) (fi : FI) (Q : Value → AH → Nat → Prop) : Ex → Bs → AH → Nat → Prop
  | .normal, b, h, l | .ret, b, h, l => ∃ v, resAllB T h b fi.res = some v ∧ Q v h l
  | _, _, _, _ => False

theorem FpB.of {f : FuncId} {args : List Value} {h : AH} {Q : Value → AH → Nat → Prop} {fi : FI} (hkn : T.known f = none) (hf : T.fn f = some fi) (hl : Nat.ble args.length fi.nt = true)
    (hw : WpB T fi.nt fi.code (bsOf 0 args []) h h.sz (endB T fi Q)) : Fp T f args h Q :=
  Fp.of hkn hf (Nat.le_of_ble_eq_true hl) ((hw _ (has_args args 0 .e [] fun t v hv => by simp [look] at hv)).mono fun ex s hq => by
    obtain ⟨bs, h1, h2⟩ := hq
    cases ex with
    | normal => obtain ⟨v, h3, h4⟩ := h2; exact ⟨.inl rfl, v, resAllB_eq h1 h3, h4⟩
    | ret => obtain ⟨v, h3, h4⟩ := h2; exact ⟨.inr rfl, v, resAllB_eq h1 h3, h4⟩
    | exit i => exact h2.elim)

end Go.Vae

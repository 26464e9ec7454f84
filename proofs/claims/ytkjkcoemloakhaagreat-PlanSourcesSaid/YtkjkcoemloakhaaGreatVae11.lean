/- One step of the evaluator and one of the machine. -/
import Derived.Test.YtkjkcoemloakhaaGreatVae10
set_option linter.unusedVariables false
set_option linter.unusedSimpArgs false
namespace Go.Vae
open Go Go.RowKit

variable {P : Program} {T : Tabs} {x : Cx} {j : Inj} {B : Nat → Option AO} {w : World}

/-- The blocks of the heap below its size, others as given. -/
def AH.view (h : AH) (B : Nat → Option AO) : Nat → Option AO := fun k => if k < h.sz then h.blk k else B k

theorem Rel.congr {B' : Nat → Option AO} (r : Rel x j B w) (h : ∀ k, (j (x.n + k)).isSome = true → B' k = B k) : Rel x j B' w :=
  ⟨r.glob, r.base, r.blow, fun k c s cs h1 h2 => r.cells k c s cs h1 (by rw [← h k (by rw [h1]; rfl)]; exact h2),
   fun k1 k2 c s1 s2 h1 h2 h3 => (r.excl k1 k2 c s1 s2 h1 h2 h3).imp (fun h4 => by rw [h k1 (by rw [h1]; rfl)]; exact h4) (fun h4 => by rw [h k2 (by rw [h2]; rfl)]; exact h4),
   r.low, r.room, r.lens⟩

/-- What a run may have done to what was there. -/
structure Ext0 (x : Cx) (j : Inj) (sz : Nat) (w : World) (j' : Inj) (sz' : Nat) (w' : World) : Prop where
  same : Same w w'
  sub : Sub j j'
  dom : ∀ b p, j' b = some p → j b = some p ∨ (x.n + sz ≤ b ∧ b < x.n + sz')
  keep : ∀ c, c < x.lo → w'.heap[c]? = w.heap[c]?

theorem Ext.ext0 {j' : Inj} {sz m sz' : Nat} {w' : World} (r : Rel x j B w) (e : Ext x j sz m w j' sz' w') : Ext0 x j sz w j' sz' w' :=
  ⟨e.same, e.sub, e.dom, fun c hc => e.keep c (Nat.lt_of_lt_of_le hc r.room) fun k s _ _ h => by have := (r.low k c s h).1; omega⟩

theorem Ext0.refl (x : Cx) (j : Inj) (sz : Nat) (w : World) : Ext0 x j sz w j sz w := ⟨Same.refl w, Sub.refl j, fun _ _ h => .inl h, fun _ _ => rfl⟩

theorem Ext0.draw (x : Cx) (j : Inj) (sz : Nat) {w w' : World} (h : Same w w') (hh : w'.heap = w.heap) : Ext0 x j sz w j sz w' := ⟨h, Sub.refl j, fun _ _ h => .inl h, fun _ _ => by rw [hh]⟩

theorem Ext0.wide {j' : Inj} {sz sz' a b : Nat} {w' : World} (e : Ext0 x j sz w j' sz' w') (h1 : a ≤ sz) (h2 : sz' ≤ b) : Ext0 x j a w j' b w' :=
  ⟨e.same, e.sub, fun b p h => (e.dom b p h).imp id fun ⟨h3, h4⟩ => ⟨by omega, by omega⟩, e.keep⟩

theorem Ext0.trans {j1 j2 : Inj} {sz sz1 sz2 : Nat} {w1 w2 : World} (h1 : sz ≤ sz1) (h2 : sz1 ≤ sz2) (e : Ext0 x j sz w j1 sz1 w1) (f : Ext0 x j1 sz1 w1 j2 sz2 w2) : Ext0 x j sz w j2 sz2 w2 :=
  ⟨e.same.trans f.same, e.sub.trans f.sub, fun b p h => by
    rcases f.dom b p h with h | ⟨h3, h4⟩
    · rcases e.dom b p h with h | ⟨h3, h4⟩
      · exact .inl h
      · exact .inr ⟨h3, by omega⟩
    · exact .inr ⟨by omega, h4⟩, fun c hc => (f.keep c hc).trans (e.keep c hc)⟩

/-- Two behind each other within one range. -/
theorem Ext0.join {j1 j2 : Inj} {sz sz' : Nat} {w1 w2 : World} (e : Ext0 x j sz w j1 sz' w1) (f : Ext0 x j1 sz w1 j2 sz' w2) : Ext0 x j sz w j2 sz' w2 :=
  ⟨e.same.trans f.same, e.sub.trans f.sub, fun b p h => by
    rcases f.dom b p h with h | h
    · exact e.dom b p h
    · exact .inr h, fun c hc => (f.keep c hc).trans (e.keep c hc)⟩

/-- Calls are carried out by the machine in the same way. -/
def CallOK (P : Program) (call : CallF) : Prop :=
  ∀ f args h v h' low, call f args h = some (v, h', low) → h.wf → Grow h low h' ∧ Go.Proofs.Enters P f ∧
    ∀ (x : Cx) (j : Inj) (B : Nat → Option AO) (w : World) (args' : List Value), h.of x → x.ng ≤ x.n → Rel x j B w → (∀ k, k < h.sz → (j (x.n + k)).isSome = true → B k = h.blk k) →
      (∀ k, h.sz ≤ k → k < h'.sz → j (x.n + k) = none) → All2 (VR j) args args' →
      Calls P f ⟨args'⟩ w fun e w' => ∃ v' j', e = .returned v' ∧ VR j' v v' ∧ Rel x j' (h'.view B) w' ∧ Ext0 x j h.sz w j' h'.sz w'

def Acc.wrote (a : Acc) (k : Nat) : Prop := k ∈ a.wr ∨ (a.call = some true ∧ k < a.lo)
def Acc.looks (a : Acc) (k : Nat) : Prop := k ∈ a.rd ∨ k ∈ a.wr ∨ (a.call ≠ none ∧ k < a.lo)

/-- What a step does to the evaluator's own state. -/
structure StepF (nt : Nat) (o : Oper) (s : St) (s' : St) (a : Acc) : Prop where
  lo : a.lo = s.h.sz
  hi : a.hi = s'.h.sz
  grow : ∃ l, Grow s.h l s'.h ∧ s'.low = Nat.min s.low l
  acc : ∀ k, a.looks k → k < s.h.sz
  frame : ∀ k, k < s.h.sz → ¬ a.wrote k → s'.h.blk k = s.h.blk k
  dst : (o.dst = none ∧ s'.fr = s.fr) ∨ ∃ d v, o.dst = some d ∧ d < nt ∧ s'.fr = Tr.set s.fr d v

theorem putT_spec {nt : Nat} {fr fr' : Fr} {d : Option Tmp} {v : Value} (h : putT nt fr d v = some fr') : (d = none ∧ fr' = fr) ∨ ∃ d', d = some d' ∧ d' < nt ∧ fr' = Tr.set fr d' v := by
  unfold putT at h
  split at h
  · injection h with h; exact .inl ⟨rfl, h.symm⟩
  · rename_i d'
    cases hb : Nat.blt d' nt <;> rw [hb] at h
    · cases h
    · injection h with h; exact .inr ⟨d', rfl, blt_true hb, h.symm⟩

theorem Bapp_old {B : Nat → Option AO} {sz : Nat} {e : Eff} {k : Nat} (h1 : k ∉ e.wr) (h2 : ¬ (sz ≤ k ∧ k < esz sz e)) : Bapp B sz e k = B k := by
  cases e with
  | nil => rfl
  | new cs => simp only [esz] at h2; simp only [Bapp, Bput]; rw [if_neg (by omega)]
  | set k' cs => simp only [Eff.wr, List.mem_singleton] at h1; simp only [Bapp, Bput]; rw [if_neg h1]
  | grow k' cs => simp only [esz] at h2; simp only [Eff.wr, List.mem_singleton] at h1; simp only [Bapp, Bput]; rw [if_neg (by omega), if_neg h1]

theorem Bapp_new {B B' : Nat → Option AO} {sz : Nat} {e : Eff} {k : Nat} (h : k ∈ e.wr ∨ (sz ≤ k ∧ k < esz sz e)) : Bapp B sz e k = Bapp B' sz e k := by
  cases e with
  | nil => simp only [esz, Eff.wr] at h; rcases h with h | h; simp at h; omega
  | new cs =>
    simp only [esz, Eff.wr] at h
    rcases h with h | h
    · simp at h
    · obtain rfl : k = sz := by omega
      simp [Bapp, Bput]
  | set k' cs =>
    simp only [esz, Eff.wr, List.mem_singleton] at h
    rcases h with h | h
    · subst h; simp [Bapp, Bput]
    · omega
  | grow k' cs =>
    simp only [esz, Eff.wr, List.mem_singleton] at h
    rcases h with h | h
    · subst h; simp [Bapp, Bput]
    · obtain rfl : k = sz := by omega
      simp [Bapp, Bput]

theorem step1_facts {call : CallF} (hc : CallOK P call) {nt : Nat} {ops : List Oper} {o : Oper} {s s' : St} {a : Acc} (h : step1 T call nt ops o s = some (s', a)) (hwf : s.h.wf) : StepF nt o s s' a := by
  unfold step1 at h
  split at h
  · split at h
    · rename_i v e rd hop
      · split at h
        · rename_i fr hp
          injection h with h
          injection h with h1 h2
          subst h1 h2
          have hacc := aop_acc hop
          have lt : ∀ k, (s.h.blk k).isSome = true → k < s.h.sz := fun k hk => by
            obtain ⟨o, ho⟩ := Option.isSome_iff_exists.1 hk
            exact AH.wf_lt hwf ho
          refine ⟨rfl, rfl, ⟨e.lowD s.low, Grow.app hwf hacc.2 _, rfl⟩, fun k hk => ?_, fun k hk hw => ?_, ?_⟩
          · rcases hk with hk | hk | ⟨hk, _⟩
            · exact lt k (hacc.1 k hk)
            · exact lt k (hacc.2 k hk)
            · exact absurd rfl hk
          · show (s.h.app e).blk k = _
            rw [app_blk hwf hacc.2]
            exact Bapp_old (fun h => hw (.inl h)) (by omega)
          · rcases putT_spec hp with ⟨h1, h2⟩ | ⟨d, h1, h2, h3⟩
            · exact .inl ⟨h1, h2⟩
            · exact .inr ⟨d, v, h1, h2, h3⟩
        · cases h
    · rename_i f args hop
      split at h
      · rename_i v hh low hcall
        split at h
        · rename_i fr hp
          injection h with h
          injection h with h1 h2
          subst h1 h2
          obtain ⟨g, _, _⟩ := hc _ _ _ _ _ _ hcall hwf
          refine ⟨rfl, rfl, ⟨low, g, rfl⟩, fun k hk => ?_, fun k hk hw => ?_, ?_⟩
          · rcases hk with hk | hk | ⟨_, hk⟩
            · simp at hk
            · simp at hk
            · exact hk
          · refine g.frame k hk ?_
            have h1 : Nat.blt low s.h.sz ≠ true := fun h1 => hw (.inr ⟨by rw [h1], hk⟩)
            have h2 : Nat.blt low s.h.sz = false := by
              cases hq : Nat.blt low s.h.sz
              · rfl
              · exact absurd hq h1
            have := blt_false h2
            omega
          · rcases putT_spec hp with ⟨h1, h2⟩ | ⟨d, h1, h2, h3⟩
            · exact .inl ⟨h1, h2⟩
            · exact .inr ⟨d, v, h1, h2, h3⟩
        · cases h
      · cases h
    · cases h
  · split at h
    · rename_i fr hp
      injection h with h
      injection h with h1 h2
      subst h1 h2
      refine ⟨rfl, rfl, ⟨s.low, Grow.refl hwf _, (Nat.min_self _).symm⟩, fun k hk => ?_, fun k hk hw => rfl, ?_⟩
      · rcases hk with hk | hk | ⟨hk, _⟩
        · simp at hk
        · simp at hk
        · exact absurd rfl hk
      · rcases putT_spec hp with ⟨h1, h2⟩ | ⟨d, h1, h2, h3⟩
        · exact .inl ⟨h1, h2⟩
        · exact .inr ⟨d, skipV, h1, h2, h3⟩
    · cases h
  · cases h

theorem tmpsOf_mem : ∀ {os : List Operand} {t : Nat}, Operand.tmp t ∈ os → t ∈ tmpsOf os
  | [], t, h => by simp at h
  | o :: os, t, h => by
    rcases List.mem_cons.1 h with h | h
    · subst h; simp [tmpsOf]
    · have := tmpsOf_mem h
      cases o <;> simp [tmpsOf, this]

/-- The temporaries that an operation looks at stand for the machine's. -/
def LooksR (j : Inj) (ops : List Oper) (o : Oper) (fr : Fr) (a : Act) : Prop := ∀ t, t ∈ namesOf ops o → ∀ v, Tr.get fr t = some v → VR j v (a.tmps.getD t undef)

theorem LooksR.ev {h : AH} (hx : h.of x) (r : Rel x j B w) {ops : List Oper} {o : Oper} {fr : Fr} {a : Act} (hl : LooksR j ops o fr a) : EvR j h fr a o.op.operands := by
  intro y hy
  cases y with
  | tmp t =>
    simp only [Fr.ev, Act.eval]
    cases ht : Tr.get fr t with
    | none => exact VR.undef _
    | some v => exact hl t (by simp only [namesOf, List.mem_append]; exact .inr (tmpsOf_mem (by simpa using hy))) v ht
  | const v =>
    simp only [Fr.ev, Act.eval]
    cases hv : cOK v with
    | false => exact VR.undef _
    | true => exact cOK_vr j hv
  | global g =>
    simp only [Fr.ev, Act.eval]
    cases hg : Nat.blt g h.ng with
    | false => exact VR.undef _
    | true =>
      refine .of (.ptr ⟨rfl, rfl, g, 0, r.glob g ?_, rfl, rfl⟩)
      rw [← hx.1]
      exact blt_true hg
  | func f => exact .of (.func .nil)

theorem wanted_rel {ops : Array Oper} {o : Oper} {fr : Fr} {a : Act} (hl : LooksR j ops.toList o fr a) {b : Bool} (h : wantedA ops.toList fr o = some b) : Region.wanted o (yielded ops a.tmps) = b := by
  unfold wantedA at h
  unfold Region.wanted
  split at h
  · rename_i hg
    rw [hg]
    injection h
  · rename_i g want hg
    rw [hg]
    simp only
    split at h
    · rename_i oj hoj
      split at h
      · rename_i d hd
        rw [lget_eq, Array.getElem?_toList] at hoj
        have hn : d ∈ namesOf ops.toList o := by
          simp only [namesOf, guardT, hg, lget_eq, Array.getElem?_toList, hoj, hd, List.mem_append]
          exact .inl (by simp)
        split at h
        · rename_i c hc
          injection h with h
          have h1 := (hl d hn _ hc).bool
          have h2 : a.tmps[d]? = some (.bool c) := by
            rcases Nat.lt_or_ge d a.tmps.size with h3 | h3
            · simp [Array.getD, h3] at h1
              simp [h3, h1]
            · have : a.tmps.getD d undef = undef := by simp [Array.getD, Nat.not_lt.2 h3]
              rw [this] at h1
              cases h1
          have h3 : yielded ops a.tmps g = some c := by simp [yielded, hoj, hd, h2]
          rw [h3, ← h]
          cases c <;> cases want <;> rfl
        · rename_i hc
          injection h with h
          have h1 : a.tmps.getD d undef = undef := by
            have h0 := hl d hn _ hc
            generalize a.tmps.getD d undef = u at h0
            generalize hk : (Value.chan none) = v0 at h0
            cases h0 with
            | one h0 =>
              cases h0 with
              | any => cases hk
              | val h0 => subst hk; cases h0 with | one h0 => cases h0
            | tup h0 => cases hk
            | skip => rfl
          have h3 : yielded ops a.tmps g = none := by
            simp only [yielded, hoj, Option.bind_some, hd]
            cases h4 : a.tmps[d]? with
            | none => rfl
            | some u =>
              have h5 : a.tmps.getD d undef = u := by
                have h6 := (Array.getElem?_eq_some_iff.1 h4)
                obtain ⟨h6, h7⟩ := h6
                simp [Array.getD, h6, h7]
              rw [h1] at h5
              subst h5
              rfl
          rw [h3, ← h]
          rfl
        · cases h
      · cases h
    · cases h

theorem put_size (a : Act) (d : Option Tmp) (v : Value) : (a.put d v).tmps.size = a.tmps.size := by
  cases d <;> simp [Act.put]

theorem put_defers (a : Act) (d : Option Tmp) (v : Value) : (a.put d v).defers = a.defers := by
  cases d <;> rfl

theorem put_ne {a : Act} {d : Option Tmp} {v : Value} {t : Nat} (h : d ≠ some t) : (a.put d v).tmps.getD t undef = a.tmps.getD t undef := by
  cases d with
  | none => rfl
  | some d =>
    have : d ≠ t := fun e => h (by rw [e])
    simp [Act.put, Array.getD_eq_getD_getElem?, Array.getElem?_setIfInBounds_ne this]

theorem put_eq {a : Act} {d : Nat} {v : Value} (h : d < a.tmps.size) : (a.put (some d) v).tmps.getD d undef = v := by
  simp [Act.put, Array.getD_eq_getD_getElem?, h]

/-- A step of the machine for a step of the evaluator: of what was written or is new, the evaluator's new heap tells; of the rest, what was told before. -/
theorem step_ok (ht : TabsOK P T) {call : CallF} (hc : CallOK P call) {nt : Nat} {ops : Array Oper} {i : Nat} {o : Oper} (ho : ops[i]? = some o) {s s' : St} {a : Acc} (h : step1 T call nt ops.toList o s = some (s', a)) (hwf : s.h.wf)
    (hx : s.h.of x) (hng : x.ng ≤ x.n) (r : Rel x j B w) (hfut : ∀ k, s.h.sz ≤ k → k < s'.h.sz → j (x.n + k) = none) (hB : ∀ k, a.looks k → (j (x.n + k)).isSome = true → B k = s.h.blk k)
    {act : Act} (hl : LooksR j ops.toList o s.fr act) {Q : Exit → Act → World → Prop} {K : Act → World → Prop}
    (hK : ∀ (v v' : Value) (j' : Inj) (B' : Nat → Option AO) (w' : World), VR j' v v' → ((o.dst = none ∧ s'.fr = s.fr) ∨ ∃ d, o.dst = some d ∧ d < nt ∧ s'.fr = Tr.set s.fr d v) → Rel x j' B' w' →
      (∀ k, (j' (x.n + k)).isSome = true → (a.wrote k ∨ (a.lo ≤ k ∧ k < a.hi)) → B' k = s'.h.blk k) → (∀ k, (j' (x.n + k)).isSome = true → ¬ a.wrote k → ¬ (a.lo ≤ k ∧ k < a.hi) → B' k = B k) →
      Ext0 x j s.h.sz w j' s'.h.sz w' → K (act.put o.dst v') w') : wpOp P ops Q i K act w := by
  have hf := step1_facts hc h hwf
  have hfit : ∀ v, ∀ fr', putT nt s.fr o.dst v = some fr' → (o.dst = none ∧ fr' = s.fr) ∨ ∃ d, o.dst = some d ∧ d < nt ∧ fr' = Tr.set s.fr d v := fun v fr' hp => putT_spec hp
  unfold wpOp
  rw [ho]
  simp only
  unfold step1 at h
  split at h
  · rename_i hw
    rw [wanted_rel hl hw]
    simp only [if_true]
    split at h
    · rename_i v e rd hop
      · split at h
        · rename_i fr hp
          injection h with h
          injection h with h1 h2
          subst h1 h2
          refine .inl ?_
          have hacc := aop_acc hop
          classical
          let B1 : Nat → Option AO := fun k => if (j (x.n + k)).isSome = true then B k else s.h.blk k
          have r1 : Rel x j B1 w := r.congr fun k hk => by simp only [B1]; rw [if_pos hk]
          have hB1 : ∀ k, Acc.looks ⟨rd, e.wr, s.h.sz, (s.h.app e).sz, none⟩ k → B1 k = s.h.blk k := fun k hk => by
            simp only [B1]
            split
            · rename_i hm; exact hB k hk hm
            · rfl
          have hsz : esz s.h.sz e = (s.h.app e).sz := (AH.app_sz _ _).symm
          obtain ⟨n, v', w', j', h3, h4, h5, h6, h7⟩ := op_ok (o := o) ht hx hwf hng r1 (fun hlt => hfut _ (Nat.le_refl _) (by rw [← hsz]; exact hlt)) hop (hl.ev hx r) (fun k hk => hB1 k (.inl hk)) (fun k hk => hB1 k (.inr (.inl hk)))
          have h8 := h7.ext0 r1
          rw [hsz] at h8
          have hold : ∀ k, (j' (x.n + k)).isSome = true → ¬ (s.h.sz ≤ k ∧ k < (s.h.app e).sz) → (j (x.n + k)).isSome = true := fun k hk hn => by
            obtain ⟨p, hp⟩ := Option.isSome_iff_exists.1 hk
            rcases h8.dom _ _ hp with h9 | ⟨h9, h10⟩
            · rw [h9]; rfl
            · exact absurd ⟨by omega, by omega⟩ hn
          have goal : K (act.put o.dst v') w' := by
            refine hK v v' j' _ w' h5 (hfit v _ hp) h6 (fun k _ hk => ?_) (fun k hk h9 h10 => ?_) h8
            · show Bapp B1 s.h.sz e k = (s.h.app e).blk k
              rw [app_blk hwf hacc.2]
              refine Bapp_new (hk.imp (fun h => ?_) fun h => by rw [hsz]; exact h)
              rcases h with h | ⟨h, _⟩
              · exact h
              · cases h
            · rw [Bapp_old (fun h => h9 (.inl h)) (by rw [hsz]; exact h10)]
              simp only [B1]
              rw [if_pos (hold k hk h10)]
          simp only [Oper.wp, h3]
          rcases h4 with rfl | ⟨rfl, rfl⟩
          · exact goal
          · exact goal
        · cases h
    · rename_i f args hop
      split at h
      · rename_i v hh low hcall
        split at h
        · rename_i fr hp
          injection h with h
          injection h with h1 h2
          subst h1 h2
          refine .inl ?_
          obtain ⟨g, hent, hcalls⟩ := hc _ _ _ _ _ _ hcall hwf
          -- the call, resolved
          have hres : ∃ args', (execOp act.eval o).run P w = .ok (.enter f ⟨args'⟩) w ∧ All2 (VR j) args args' := by
            have hev := hl.ev (h := s.h) hx r
            obtain ⟨c, fo, hoc, hcal⟩ := aop_go hop
            obtain ⟨dst, op, ty, pos, after, guard⟩ := o
            have hoc : op = .call c := hoc
            subst hoc
            · have hEc : ∀ o ∈ c.args.toList, o ∈ (Op.call c).operands := fun o ho => by
                simp only [Op.operands, Call.operands]
                simp [Array.mem_def.2 ho]
              have hargs := hev.list c.args.toList hEc
              simp only [aop, acall] at hop
              rw [hcal] at hop
              simp only at hop
              · have hfo := hev fo (by simp [Op.operands, Call.operands, hcal])
                split at hop
                · rename_i g first caps hfv
                  injection hop with hop
                  injection hop with h1 h2
                  subst h1 h2
                  rw [hfv] at hfo
                  have := hfo.sr (by simp) (by simp)
                  generalize hvv : act.eval fo = fv at this
                  cases this with
                  | func hcs =>
                    rename_i cs cs'
                    refine ⟨c.args.toList.map act.eval ++ cs', ?_, ?_⟩
                    · simp only [execOp, resolve, hcal, hvv, Deferred.ofValue, Sem.run_bind, Sem.run_pure, Result.andThen_ok, invoke]
                      rw [hent]
                      congr 2
                      apply Array.ext'
                      simp
                    · simp only [List.nil_append]
                      refine hargs.append (hcs.mono fun v v' ⟨a, a', h1, h2, h3⟩ => ?_)
                      subst h1 h2
                      exact .of (.ptr h3)
                · cases hop
          obtain ⟨args', hrun, hargs⟩ := hres
          have hBc : ∀ k, k < s.h.sz → (j (x.n + k)).isSome = true → B k = s.h.blk k := fun k hk hm => hB k (.inr (.inr ⟨by simp, hk⟩)) hm
          have hcl := hcalls x j B w args' hx hng r hBc hfut hargs
          simp only [Oper.wp, hrun, Oper.upon]
          refine Calls.mono hcl fun e w' he => ?_
          obtain ⟨v', j', rfl, h5, h6, h8⟩ := he
          have hold : ∀ k, (j' (x.n + k)).isSome = true → ¬ (s.h.sz ≤ k ∧ k < hh.sz) → (j (x.n + k)).isSome = true := fun k hk hn => by
            obtain ⟨p, hp⟩ := Option.isSome_iff_exists.1 hk
            rcases h8.dom _ _ hp with h9 | ⟨h9, h10⟩
            · rw [h9]; rfl
            · exact absurd ⟨by omega, by omega⟩ hn
          refine hK v v' j' _ w' h5 (hfit v _ hp) h6 (fun k _ hk => ?_) (fun k hk h9 h10 => ?_) h8
          · have : k < hh.sz := by
              rcases hk with (hk | ⟨_, hk⟩) | ⟨_, hk⟩
              · simp at hk
              · exact Nat.lt_of_lt_of_le hk g.le
              · exact hk
            show AH.view hh B k = hh.blk k
            unfold AH.view
            rw [if_pos this]
          · show AH.view hh B k = B k
            unfold AH.view
            split
            · rename_i hlt
              have hlt2 : k < s.h.sz := by
                rcases Nat.lt_or_ge k s.h.sz with h11 | h11
                · exact h11
                · exact absurd ⟨h11, hlt⟩ h10
              have h11 := hf.frame k hlt2 h9
              have h12 := hBc k hlt2 (hold k hk h10)
              rw [h12]
              exact h11
            · rfl
        · cases h
      · cases h
    · cases h
  · rename_i hw
    rw [wanted_rel hl hw]
    simp only [Bool.false_eq_true, if_false]
    split at h
    · rename_i fr hp
      injection h with h
      injection h with h1 h2
      subst h1 h2
      refine hK skipV Go.undef j B w .skip (hfit _ _ hp) r (fun k _ hk => ?_) (fun _ _ _ _ => rfl) (Ext0.refl _ _ _ _)
      rcases hk with (hk | ⟨hk, _⟩) | ⟨h1, h2⟩
      · simp at hk
      · cases hk
      · have h1 : s.h.sz ≤ k := h1
        have h2 : k < s.h.sz := h2
        omega
    · cases h
  · cases h

end Go.Vae

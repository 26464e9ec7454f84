/- Every operation of the evaluator is carried out by the machine in the same way. -/
import Derived.Test.YtkjkcoemloakhaaGreatVae8
set_option linter.unusedVariables false
set_option linter.unusedSimpArgs false
namespace Go.Vae
open Go Go.RowKit

variable {P : Program} {T : Tabs} {x : Cx} {j : Inj} {B : Nat → Option AO} {w : World}

/-- The operands of an operation stand for the machine's. -/
def EvR (j : Inj) (h : AH) (fr : Fr) (a : Act) (os : Array Operand) : Prop := ∀ o ∈ os, VR j (fr.ev h o) (a.eval o)

theorem FrR.evs {h : AH} (hx : h.of x) (r : Rel x j B w) {nt : Nat} {fr : Fr} {a : Act} (hf : FrR j nt fr a) (os : Array Operand) : EvR j h fr a os := fun o _ => hf.ev hx r o

theorem EvR.list {h : AH} {fr : Fr} {a : Act} {os : Array Operand} (hE : EvR j h fr a os) : ∀ (l : List Operand), (∀ o ∈ l, o ∈ os) → All2 (VR j) (l.map (fr.ev h)) (l.map a.eval)
  | [], _ => .nil
  | o :: l, hl => .cons (hE o (hl o (by simp))) (hE.list l fun o' ho => hl o' (by simp [ho]))

theorem EvR.parts {h : AH} {fr : Fr} {a : Act} {os : Array Operand} (hE : EvR j h fr a os) : ∀ (l : List (Nat × Operand)), (∀ o ∈ l, o.2 ∈ os) →
    All2 (fun p p' => p.1 = p'.1 ∧ VR j p.2 p'.2) (l.map fun p => (p.1, fr.ev h p.2)) (l.map fun p => (p.1, a.eval p.2))
  | [], _ => .nil
  | o :: l, hl => .cons ⟨rfl, hE o.2 (hl o (by simp))⟩ (hE.parts l fun o' ho => hl o' (by simp [ho]))

theorem EvR.opt {h : AH} {fr : Fr} {a : Act} {os : Array Operand} (hE : EvR j h fr a os) : ∀ (l : Option Operand), (∀ o, l = some o → o ∈ os) → OR j (l.map (fr.ev h)) (l.map a.eval)
  | none, _ => .none
  | some o, hl => .some (hE o (hl o rfl))

theorem all_ptr : ∀ {l l' : List Value}, All2 (VR j) l l' → l.all isPtr = true → All2 (fun v v' => ∃ a a', v = .pointer (some a) ∧ v' = .pointer (some a') ∧ AddrR j a a') l l'
  | [], _, .nil, _ => .nil
  | v :: l, _, .cons h t, hp => by
    simp only [List.all_cons, Bool.and_eq_true] at hp
    refine .cons ?_ (all_ptr t hp.2)
    have h1 := hp.1
    unfold isPtr at h1
    split at h1
    · rename_i a
      obtain ⟨a', rfl, h2⟩ := h.ptr
      exact ⟨a, a', rfl, rfl, h2⟩
    · cases h1

theorem op_ok {hp : AH} (ht : TabsOK P T) (hx : hp.of x) (hwf : hp.wf) (hng : x.ng ≤ x.n) (r : Rel x j B w) {fr : Fr} {a : Act} {o : Oper} {v : Value} {e : Eff} {rd : List Nat} (hn : hp.sz < esz hp.sz e → j (x.n + hp.sz) = none) (h : aop T hp (fr.ev hp) o = some (.val v e rd))
    (hE : EvR j hp fr a o.op.operands) (hB : ∀ k, k ∈ rd → B k = hp.blk k) (hBw : ∀ k, k ∈ e.wr → B k = hp.blk k) : Out P x j B hp.sz w (execOp a.eval o) v e := by
  obtain ⟨dst, op, ty, pos, after, guard⟩ := o
  cases op
  case move y =>
    obtain ⟨rfl, rfl, rfl⟩ := ok_some h
    exact Out.pure r rfl (hE y (by simp [Op.operands]))
  case assign y =>
    obtain ⟨rfl, rfl, rfl⟩ := ok_some h
    exact Out.pure r rfl (hE y (by simp [Op.operands]))
  case pick c p q =>
    have hc := hE c (by simp [Op.operands])
    have hp' := hE p (by simp [Op.operands])
    have hq := hE q (by simp [Op.operands])
    simp only [aop] at h
    generalize fr.ev hp c = vc at h hc
    split at h
    · rename_i b
      obtain ⟨rfl, rfl, rfl⟩ := ok_some h
      have hc := hc.bool
      cases b with
      | true => exact Out.pure (v' := a.eval p) r (by simp [execOp, hc, asBool]) hp'
      | false => exact Out.pure (v' := a.eval q) r (by simp [execOp, hc, asBool]) hq
    · cases h
  case alloc t =>
    simp only [aop] at h
    split at h
    · rename_i ti hti
      injection h with h
      injection h with h1 h2 h3
      subst h1 h2
      exact alloc_ok ht hx hng r (hn (Nat.lt_succ_self _)) hti
    · cases h
  case box t y =>
    simp only [aop] at h
    split at h
    · rename_i cs hcs
      injection h with h
      injection h with h1 h2 h3
      subst h1 h2
      exact box_ok hx hng r (hn (Nat.lt_succ_self _)) t (hE y (by simp [Op.operands])) hcs
    · cases h
  case build t ps =>
    have := hE.parts ps.toList (fun o ho => by simp only [Op.operands]; simp; exact ⟨o.1, by simpa using ho⟩)
    exact build_ok ht r h (by rw [Array.toList_map]; exact this)
  case buildSlice t len ps =>
    have := hE.parts ps.toList (fun o ho => by simp only [Op.operands]; simp; exact ⟨o.1, by simpa using ho⟩)
    exact buildSlice_ok ht hx hng r hn h (by rw [Array.toList_map]; exact this)
  case load t y => exact load_ok ht hx r h (hE y (by simp [Op.operands])) hB
  case store t y z => exact store_ok ht hx hwf r h (hE y (by simp [Op.operands])) (hE z (by simp [Op.operands])) hBw
  case nilCheck y =>
    have hy := hE y (by simp [Op.operands])
    rcases nil_ok (sz := hp.sz) r h hy with ⟨⟨b, h1⟩, rfl, rfl⟩ | ⟨⟨f, p, c, h1⟩, rfl, rfl⟩
    · exact Out.pure (v' := a.eval y) r (by simp [execOp, h1]) hy
    · exact Out.pure (v' := a.eval y) r (by simp [execOp, h1]) hy
  case binOp op t y z yt =>
    obtain ⟨h1, rfl, rfl⟩ := okO_some h
    exact bin_ok ht r h1 (hE y (by simp [Op.operands])) (hE z (by simp [Op.operands]))
  case unOp op t y =>
    obtain ⟨h1, rfl, rfl⟩ := okO_some h
    exact un_ok r h1 (hE y (by simp [Op.operands]))
  case convert s d y =>
    simp only [aop] at h
    split at h
    · rename_i ti hti
      obtain ⟨d', d1, _⟩ := (ht.ty s ti hti).desc
      exact convert_ok ht r (by rw [d1]; rfl) h (hE y (by simp [Op.operands]))
    · cases h
  case makeFunc fn first caps =>
    simp only [aop] at h
    cases hf : first.toList.isEmpty with
    | false => rw [hf] at h; cases h
    | true =>
      rw [hf] at h
      simp only [cond] at h
      have hfe : first = #[] := by
        apply Array.ext'
        simpa using hf
      subst hfe
      unfold afunc at h
      split at h
      · rename_i g
        cases hc : (caps.toList.map (fr.ev hp)).all isPtr with
        | false => rw [hc] at h; cases h
        | true =>
          rw [hc] at h
          obtain ⟨rfl, rfl, rfl⟩ := ok_some h
          have h1 := hE.list caps.toList (fun o ho => by simp only [Op.operands]; simpa using ho)
          refine Out.pure (v' := .func (.func g) #[] ⟨caps.toList.map a.eval⟩) r ?_ (.of (.func (all_ptr h1 hc)))
          simp only [execOp, Instr.makeFunc]
          have : caps.map a.eval = ⟨caps.toList.map a.eval⟩ := by apply Array.ext'; simp
          rw [this]
          simp
      · cases h
  case makeSlice t l c => exact make_ok ht hx hng r hn h (hE l (by simp [Op.operands])) (hE c (by simp [Op.operands]))
  case slice t y lo hi mx =>
    exact slice_ok ht r h (hE y (by simp [Op.operands])) (hE.opt lo fun o ho => by simp [Op.operands, ho]) (hE.opt hi fun o ho => by simp [Op.operands, ho]) (hE.opt mx fun o ho => by simp [Op.operands, ho])
  case fieldAddr s y f => exact fieldAddr_ok ht r h (hE y (by simp [Op.operands]))
  case field s y f => exact field_ok ht r h (hE y (by simp [Op.operands]))
  case indexAddr t y i => exact indexAddr_ok ht r h (hE y (by simp [Op.operands])) (hE i (by simp [Op.operands]))
  case index t y i => exact index_ok ht r h (hE y (by simp [Op.operands])) (hE i (by simp [Op.operands]))
  case extract y i => exact extract_ok r h (hE y (by simp [Op.operands]))
  case call c =>
    have hEc : ∀ o ∈ c.args.toList, o ∈ (Op.call c).operands := fun o ho => by
      simp only [Op.operands, Call.operands]
      simp [Array.mem_def.2 ho]
    have hargs := hE.list c.args.toList hEc
    simp only [aop, acall] at h
    split at h
    · rename_i b hcal
      have hres : execOp a.eval ⟨dst, .call c, ty, pos, after, guard⟩ = builtin b c.argTypes ty (c.args.map fun | .const _ => true | _ => false) (c.args.map a.eval) := by
        simp only [execOp, resolve, hcal]
        rfl
      rw [hres]
      have hts : c.argTypes = ⟨c.argTypes.toList⟩ := rfl
      have has : c.args.map a.eval = ⟨c.args.toList.map a.eval⟩ := by apply Array.ext'; simp
      rw [has]
      generalize c.args.toList.map (fr.ev hp) = xs at h hargs
      generalize c.args.toList.map a.eval = ys at hargs ⊢
      generalize (c.args.map fun | .const _ => true | _ => false) = consts
      unfold abuiltin at h
      split at h
      · rename_i t y htl
        cases hargs with
        | cons hy hz => cases hz; exact len_ok ht r (by rw [← Array.getElem?_toList, htl]; rfl) h hy
      · rename_i t y htl
        cases hargs with
        | cons hy hz => cases hz; exact cap_ok ht r (by rw [← Array.getElem?_toList, htl]; rfl) h hy
      · rename_i t u s y htl
        cases hargs with
        | cons hs hz => cases hz with
          | cons hy hz => cases hz; rw [show c.argTypes = #[t, u] from Array.ext' htl]; exact append_ok ht hx hwf hng r hn h hs hy hB hBw
      · rename_i t ts d s htl
        cases hargs with
        | cons hs hz => cases hz with
          | cons hy hz => cases hz; exact copy_ok ht hx hwf r (by rw [← Array.getElem?_toList, htl]; rfl) h hs hy hB hBw
      · rename_i t y htl
        cases hargs with
        | cons hy hz => cases hz; exact clear_ok ht hx hwf r (by rw [← Array.getElem?_toList, htl]; rfl) h hy hBw
      · rename_i y rest
        obtain ⟨h0, rfl, rfl⟩ := okO_some h
        clear h
        cases hargs with
        | cons hy hz =>
          rename_i y' rest'
          by_cases hk : ∃ k n, y = .int k n
          · obtain ⟨h1, h2⟩ := extreme_run (P := P) false _ _ _ _ _ h0 hk hy hz
            obtain ⟨k, n, rfl⟩ := h1
            exact Out.pure r (nv_run (h2 w)) (.of (.int _ _))
          · cases hz with
            | nil =>
              simp only [aextreme, Option.some.injEq] at h0
              subst h0
              exact Out.pure r (nv_run (v := y') rfl) hy
            | cons _ _ =>
              unfold aextreme at h0
              split at h0
              · rename_i h1; cases h1
              · exact absurd ⟨_, _, rfl⟩ hk
              · cases h0
      · rename_i y rest
        obtain ⟨h0, rfl, rfl⟩ := okO_some h
        clear h
        cases hargs with
        | cons hy hz =>
          rename_i y' rest'
          by_cases hk : ∃ k n, y = .int k n
          · obtain ⟨h1, h2⟩ := extreme_run (P := P) true _ _ _ _ _ h0 hk hy hz
            obtain ⟨k, n, rfl⟩ := h1
            exact Out.pure r (nv_run (h2 w)) (.of (.int _ _))
          · cases hz with
            | nil =>
              simp only [aextreme, Option.some.injEq] at h0
              subst h0
              exact Out.pure r (nv_run (v := y') rfl) hy
            | cons _ _ =>
              unfold aextreme at h0
              split at h0
              · rename_i h1; cases h1
              · exact absurd ⟨_, _, rfl⟩ hk
              · cases h0
      · cases h
    · rename_i f hcal
      split at h <;> cases h
    · cases h
  all_goals (simp only [aop] at h; cases h)

end Go.Vae

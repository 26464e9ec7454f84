/- The evaluator in a form that the kernel runs quickly: each operation's text is looked at once; and that it does what the evaluator does. -/
import Derived.Test.YtkjkcoemloakhaaGreatVae18
set_option linter.unusedVariables false
set_option linter.unusedSimpArgs false
namespace Go.Vae
open Go Go.RowKit

variable {T : Tabs}

/-! ### places of a tree, looked up once -/
inductive Gt where | mk (f : Tr Value → Option Value)
inductive Pt where | mk (f : Tr Value → Value → Tr Value)

def Gt.run : Gt → Tr Value → Option Value | .mk f => f
def Pt.run : Pt → Tr Value → Value → Tr Value | .mk f => f

noncomputable section

/-- d: enough steps. -/
def getS (d : Nat) : Nat → Gt :=
  Nat.rec (motive := fun _ => Nat → Gt) (fun _ => .mk fun _ => none)
    (fun _ ih i => Nat.rec (motive := fun _ => Gt) (.mk fun t => Tr.rec (motive := fun _ => Option Value) none (fun _ v _ _ _ => v) t)
      (fun j _ => Gt.rec (motive := fun _ => Gt) (fun f => Bool.rec (motive := fun _ => Gt) (.mk fun t => Tr.rec (motive := fun _ => Option Value) none (fun _ _ r _ _ => f r) t) (.mk fun t => Tr.rec (motive := fun _ => Option Value) none (fun l _ _ _ _ => f l) t) (Nat.beq (Nat.mod j 2) 0)) (ih (Nat.div j 2))) i) d

def putS (d : Nat) : Nat → Pt :=
  Nat.rec (motive := fun _ => Nat → Pt) (fun _ => .mk fun t _ => t)
    (fun _ ih i => Nat.rec (motive := fun _ => Pt) (.mk fun t x => Tr.rec (motive := fun _ => Tr Value) (.n .e (some x) .e) (fun l _ r _ _ => .n l (some x) r) t)
      (fun j _ => Pt.rec (motive := fun _ => Pt) (fun f => Bool.rec (motive := fun _ => Pt) (.mk fun t x => Tr.rec (motive := fun _ => Tr Value) (.n .e none (f .e x)) (fun l v r _ _ => .n l v (f r x)) t) (.mk fun t x => Tr.rec (motive := fun _ => Tr Value) (.n (f .e x) none .e) (fun l v r _ _ => .n (f l x) v r) t) (Nat.beq (Nat.mod j 2) 0)) (ih (Nat.div j 2))) i) d

theorem getS_eq : ∀ (d i : Nat), i < 2 ^ d - 1 → ∀ t, (getS d i).run t = Tr.get t i
  | 0, i, h, t => by simp at h
  | d + 1, 0, h, t => by cases t <;> rfl
  | d + 1, i + 1, h, t => by
    have ih := getS_eq d (i / 2) (by rw [Nat.pow_succ] at h; omega)
    show (Gt.run (Gt.rec (motive := fun _ => Gt) (fun f => Bool.rec (motive := fun _ => Gt) (.mk fun t => Tr.rec (motive := fun _ => Option Value) none (fun _ _ r _ _ => f r) t) (.mk fun t => Tr.rec (motive := fun _ => Option Value) none (fun l _ _ _ _ => f l) t) (Nat.beq (i % 2) 0)) (getS d (i / 2))) t) = _
    generalize hg : getS d (i / 2) = g at ih
    cases g with
    | mk f =>
      have ih' : ∀ t, f t = Tr.get t (i / 2) := ih
      cases t with
      | e => cases hb : Nat.beq (i % 2) 0 <;> simp [Gt.run, Tr.get, hb]
      | n l v r => cases hb : Nat.beq (i % 2) 0 <;> simp [Gt.run, Tr.get, hb, ih']

theorem putS_eq : ∀ (d i : Nat) (t : Tr Value) (x : Value), (putS d i).run t x = Tr.put d t i x
  | 0, i, t, x => rfl
  | d + 1, 0, t, x => by cases t <;> rfl
  | d + 1, i + 1, t, x => by
    have ih := putS_eq d (i / 2)
    show (Pt.run (Pt.rec (motive := fun _ => Pt) (fun f => Bool.rec (motive := fun _ => Pt) (.mk fun t x => Tr.rec (motive := fun _ => Tr Value) (.n .e none (f .e x)) (fun l v r _ _ => .n l v (f r x)) t) (.mk fun t x => Tr.rec (motive := fun _ => Tr Value) (.n (f .e x) none .e) (fun l v r _ _ => .n (f l x) v r) t) (Nat.beq (i % 2) 0)) (putS d (i / 2))) t x) = _
    generalize hg : putS d (i / 2) = g at ih
    cases g with
    | mk f =>
      have ih' : ∀ t x, f t x = Tr.put d t (i / 2) x := ih
      cases t with
      | e => cases hb : Nat.beq (i % 2) 0 <;> simp [Pt.run, Tr.put, hb, ih']
      | n l v r => cases hb : Nat.beq (i % 2) 0 <;> simp [Pt.run, Tr.put, hb, ih']

end
end Go.Vae

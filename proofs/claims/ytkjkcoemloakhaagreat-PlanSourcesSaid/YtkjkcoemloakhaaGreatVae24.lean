/- The tables are the program's: what the kernel is to check of each type and each function. -/
import Derived.Test.YtkjkcoemloakhaaGreatVae23
set_option linter.unusedVariables false
set_option linter.unusedSimpArgs false
namespace Go.Vae
open Go Go.RowKit

variable {P : Program} {T : Tabs}

def kindB (P : Program) (t : TypeId) (ti : TI) : Bool :=
  match P.underlying t with
  | none => false
  | some d => ((match d with | .struct _ | .array _ _ => true | _ => false) == ti.agg) && match ti.k, d with
    | .other, _ => true
    | .int k, .int k' => decide (k = k')
    | .bool, .bool => true
    | .string, .string => true
    | .slice e, .slice e' => Nat.beq e e'
    | .array n e, .array n' e' => Nat.beq n n' && Nat.beq e e'
    | .struct fs, .struct fields => decide (fields.toList.map (fun f => (f.type, f.offset)) = fs) && fields.toList.all fun f => (P.info? f.type).isSome
    | _, _ => false

theorem TyOK.of {t : TypeId} {ti : TI} (h1 : (P.info? t).map (fun i => (i.size, i.bytes, i.zero.map Value.cells)) = some (ti.size, ti.bytes, some ⟨ti.zero⟩)) (h2 : Nat.beq ti.zero.length ti.size = true) (h3 : (ti.zero.all cOK && ti.zero.all Value.oneCell') = true) (h4 : kindB P t ti = true)
    (h5 : ti.flat = true → ∀ (a b : List Value) (r : Bool) (w : World), likeZ ti.zero a = true → likeZ ti.zero b = true → cellsEq a b = some r →
      (Op.equal t (.agg ⟨a⟩) (.agg ⟨b⟩)).run P w = .ok r w ∧ ∀ op x y, (eqGuard op t x y (.agg ⟨a⟩) (.agg ⟨b⟩)).run P w = .ok () w) : TyOK P t ti := by
  refine ⟨?_, by simpa [Nat.beq_eq] using h2, by simpa using h3, ?_, h5⟩
  · cases hi : P.info? t with
    | none => rw [hi] at h1; cases h1
    | some i =>
      rw [hi] at h1
      simp only [Option.map_some, Option.some.injEq, Prod.mk.injEq] at h1
      obtain ⟨g1, g2, g3⟩ := h1
      cases hz : i.zero with
      | none => rw [hz] at g3; cases g3
      | some z =>
        rw [hz] at g3
        simp only [Option.map_some, Option.some.injEq] at g3
        exact ⟨i, z, rfl, g1, g2, hz, g3⟩
  · unfold kindB at h4
    cases hd : P.underlying t with
    | none => rw [hd] at h4; cases h4
    | some d =>
      rw [hd] at h4
      simp only [Bool.and_eq_true, beq_iff_eq] at h4
      obtain ⟨g1, g2⟩ := h4
      refine ⟨d, rfl, g1, ?_⟩
      unfold kindOK
      split at g2
      · rename_i hk; rw [hk]; trivial
      · rename_i k k' hk; rw [hk]; simp only [decide_eq_true_eq] at g2; subst g2; rfl
      · rename_i hk; rw [hk]
      · rename_i hk; rw [hk]
      · rename_i e e' hk; rw [hk]; simp only [Nat.beq_eq] at g2; subst g2; rfl
      · rename_i n e n' e' hk; rw [hk]; simp only [Bool.and_eq_true, Nat.beq_eq] at g2; obtain ⟨g2, g3⟩ := g2; subst g2 g3; rfl
      · rename_i fs fields hk
        rw [hk]
        simp only [Bool.and_eq_true, decide_eq_true_eq] at g2
        exact ⟨fields, rfl, g2.1, fun f hf => (List.all_eq_true.1 g2.2) f hf⟩
      · cases g2

theorem FnOK.of {f : FuncId} {F : Func} {c : Code} (hf : P.funcs[f]? = some F) (hn : (F.name == "runtime.NumGoroutine") = false) (hb : F.body = some c) (hs : Nat.ble F.ntmps bigger = true) (hd : codeOK c = true) : FnOK P f ⟨F.ntmps, F.results.toList, c⟩ :=
  ⟨Go.Proofs.enters_of hf hn hb, Nat.le_of_ble_eq_true hs, hd, F, hf, hb, rfl, rfl⟩

/-- Something of every entry of a tree. -/
def TrAll {α : Type} : (Nat → α → Prop) → Tr α → Prop
  | _, .e => True
  | p, .n l v r => (∀ x, v = some x → p 0 x) ∧ TrAll (fun i => p (2 * i + 1)) l ∧ TrAll (fun i => p (2 * i + 2)) r

theorem TrAll.get {α : Type} : ∀ {t : Tr α} {p : Nat → α → Prop}, TrAll p t → ∀ i x, t.get i = some x → p i x
  | .e, p, _, i, x, h => by rw [Tr.get_e] at h; cases h
  | .n l v r, p, ha, 0, x, h => ha.1 x h
  | .n l v r, p, ha, i + 1, x, h => by
    simp only [Tr.get] at h
    cases hb : Nat.beq (i % 2) 0 with
    | true =>
      rw [hb] at h
      have := TrAll.get ha.2.1 (i / 2) x h
      have h2 : i % 2 = 0 := by simpa [Nat.beq_eq] using hb
      rwa [show 2 * (i / 2) + 1 = i + 1 by omega] at this
    | false =>
      rw [hb] at h
      have := TrAll.get ha.2.2 (i / 2) x h
      have h2 : i % 2 ≠ 0 := fun e => by rw [e] at hb; cases hb
      rwa [show 2 * (i / 2) + 2 = i + 1 by omega] at this

end Go.Vae

/- Equality of a value of three fields (kind, number, text), cell by cell; conditions: none. -/
import Derived.Test.YtkjkcoemloakhaaGreatVae24
import Derived.Test.YtkjkcoemloakhaaGreatProg
import Derived.KernelRfl
namespace Go.Proofs.YtkjkcoemloakhaaGreat
open Go Go.Vae
set_option maxRecDepth 1000000
def Tryz.ti27z : List Value := [(.int .i64 0), (.int .i64 0), (.string ⟨#[]⟩)]
theorem u27 : Tryz.prog.underlying 27 = some (.struct (Tryz.prog.fieldsOf 27)) := by kernel_rfl
theorem h27 : Tryz.prog.stoodInHeld 27 = false := by kernel_rfl
theorem g27 : Tryz.prog.eqGuardType Tryz.prog.depth 27 = false := by kernel_rfl
theorem f27 : (Tryz.prog.fieldsOf 27).toList = [{ name := "Kind", type := 3, offset := 0, embedded := false, tag := "", pkgPath := "", byteOffset := 0 },
        { name := "Int", type := 2, offset := 1, embedded := false, tag := "", pkgPath := "", byteOffset := 8 },
        { name := "Text", type := 9, offset := 2, embedded := false, tag := "", pkgPath := "", byteOffset := 16 }] := by kernel_rfl
theorem eq27 (w : World) (x0 y0 x1 y1 : Int) (x2 y2 : ByteArray) : (Op.equal 27 (.agg ⟨[.int .i64 x0, .int .i64 x1, .string x2]⟩) (.agg ⟨[.int .i64 y0, .int .i64 y1, .string y2]⟩)).run Tryz.prog w = .ok (x0 == y0 && (x1 == y1 && x2.toList == y2.toList)) w := by
  unfold Op.equal Op.maxDepth
  rw [run_equalIn_struct w 9999 27 _ _ u27 h27, f27]
  have a3 := run_isAgg_plain (P := Tryz.prog) (t := 3) Tryz.underlying3 rfl w
  have a2 := run_isAgg_plain (P := Tryz.prog) (t := 2) Tryz.underlying2 rfl w
  have a9 := run_isAgg_plain (P := Tryz.prog) (t := 9) Tryz.underlying9 rfl w
  have e3 := run_equalIn_int (P := Tryz.prog) (w := w) 9998 3 .i64 _ x0 y0 Tryz.underlying3
  have e2 := run_equalIn_int (P := Tryz.prog) (w := w) 9998 2 .i64 _ x1 y1 Tryz.underlying2
  have e9 := run_equalIn_string (P := Tryz.prog) (w := w) 9998 9 x2 y2 Tryz.underlying9
  have p : ∀ (t : TypeId) (l : List Value) (o : Nat) (v : Value), (isAgg t).run Tryz.prog w = .ok false w → l[o]? = some v → (part t ⟨l⟩ o).run Tryz.prog w = .ok v w := fun t l o v h1 h2 => by simp [part, h1, h2]
  have n1 : ("Kind" : String) ≠ "_" := by decide
  have n2 : ("Int" : String) ≠ "_" := by decide
  have n3 : ("Text" : String) ≠ "_" := by decide
  simp only [Op.eqFields, if_pos n1, if_pos n2, if_pos n3, Sem.run_bind]
  rw [p 3 _ 0 (.int .i64 x0) a3 rfl, Result.andThen_ok, p 3 _ 0 (.int .i64 y0) a3 rfl, Result.andThen_ok, e3, Result.andThen_ok]
  cases h0 : (x0 == y0) with
  | false => simp
  | true =>
    simp only [Bool.not_true, Bool.false_eq_true, if_false, Sem.run_bind]
    rw [p 2 _ 1 (.int .i64 x1) a2 rfl, Result.andThen_ok, p 2 _ 1 (.int .i64 y1) a2 rfl, Result.andThen_ok, e2, Result.andThen_ok]
    cases h1 : (x1 == y1) with
    | false => simp
    | true =>
      simp only [Bool.not_true, Bool.false_eq_true, if_false, Sem.run_bind]
      rw [p 9 _ 2 (.string x2) a9 rfl, Result.andThen_ok, p 9 _ 2 (.string y2) a9 rfl, Result.andThen_ok, e9, Result.andThen_ok]
      cases h2 : (x2.toList == y2.toList) <;> simp

theorem flat27 : ∀ (a b : List Value) (r : Bool) (w : World), likeZ Tryz.ti27z a = true → likeZ Tryz.ti27z b = true → cellsEq a b = some r →
      (Op.equal 27 (.agg ⟨a⟩) (.agg ⟨b⟩)).run Tryz.prog w = .ok r w ∧ ∀ op x y, (eqGuard op 27 x y (.agg ⟨a⟩) (.agg ⟨b⟩)).run Tryz.prog w = .ok () w := by
  intro a b r w ha hb hr
  have sh : ∀ l : List Value, likeZ Tryz.ti27z l = true → ∃ x0 x1 x2, l = [.int .i64 x0, .int .i64 x1, .string x2] := by
    intro l hl
    match l, hl with
    | [.int .i64 x0, .int .i64 x1, .string x2], _ => exact ⟨x0, x1, x2, rfl⟩
  obtain ⟨x0, x1, x2, rfl⟩ := sh a ha
  obtain ⟨y0, y1, y2, rfl⟩ := sh b hb
  refine ⟨?_, fun op x y => ?_⟩
  · rw [eq27]
    have hr : some ((x0 == y0) && ((x1 == y1) && (leq x2.data.toList y2.data.toList && true))) = some r := hr
    injection hr with hr
    rw [← hr, leq_eq, ByteArray.toList_eq, ByteArray.toList_eq, Bool.and_true]
  · unfold eqGuard
    cases op <;> simp
end Go.Proofs.YtkjkcoemloakhaaGreat

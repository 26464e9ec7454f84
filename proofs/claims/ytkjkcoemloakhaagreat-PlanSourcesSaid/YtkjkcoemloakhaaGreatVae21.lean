/- The quick form does what the evaluator does: values and operations. -/
import Derived.Test.YtkjkcoemloakhaaGreatVae20
set_option linter.unusedVariables false
set_option linter.unusedSimpArgs false
namespace Go.Vae
open Go Go.RowKit

variable {T : Tabs}

def Ok.run : Ok → Fr → AH → Value | .mk f => f
def Up.run : Up → Fr → Value → (Fr → Bool) → Bool | .mk f => f
def Bk.run : Bk → Value → Value → Option Value | .mk f => f

theorem opK_eq (D : Nat) (o : Operand) (fr : Fr) (h : AH) : (opK D o).run fr h = fr.ev h o := by
  cases o with
  | tmp t =>
    simp only [opK]
    split
    · rename_i g hb hg
      have hb' := blt_true hb
      have h1 := getS_eq D t (by omega) fr
      rw [hg] at h1
      have h1 : g fr = Tr.get fr t := h1
      simp only [Ok.run, Fr.ev, h1]
      cases Tr.get fr t <;> rfl
    · rfl
  | const v => unfold opK; simp only; cases hc : cOK v <;> simp [Ok.run, Fr.ev, hc]
  | global g => rfl
  | func f => rfl

theorem getF_eq {α : Type} : ∀ (t : Tr α) (i : Nat), getF t i = t.get i
  | .e, i => by cases i <;> rfl
  | .n l v r, 0 => rfl
  | .n l v r, i + 1 => by
    have h1 := getF_eq l (i / 2)
    have h2 := getF_eq r (i / 2)
    show Bool.rec (motive := fun _ => Option α) (getF r (i / 2)) (getF l (i / 2)) (Nat.beq (i % 2) 0) = _
    simp only [Tr.get]
    cases Nat.beq (i % 2) 0 <;> simp [h1, h2]

theorem lgetF_eq {α : Type} : ∀ (l : List α) (i : Nat), lgetF l i = lget l i
  | [], i => rfl
  | x :: l, 0 => rfl
  | x :: l, i + 1 => lgetF_eq l i

theorem cellF_eq (h : AH) (b off : Nat) : cellF h b off = h.cell b off := by
  unfold cellF AH.cell
  cases Nat.blt b h.n with
  | true => rfl
  | false =>
    simp only [cond, getF_eq]
    show Option.rec (motive := fun _ => Option Value) none (fun o => AO.rec (motive := fun _ => Option Value) (fun cs => lgetF cs off) none o) (h.st.get (b - h.n)) = _
    unfold AH.blk
    cases h.st.get (b - h.n) with
    | none => rfl
    | some o => cases o with
      | cells cs => exact lgetF_eq cs off
      | dead => rfl

theorem load1K_ok {h : AH} {t : TypeId} {ti : TI} {a v : Value} (ht : T.ty t = some ti) (ha : ti.agg = false) (hv : load1K h a = some v) : aload T h t a = some (.val v .nil (ptrRd h a)) := by
  unfold load1K at hv
  split at hv
  · rename_i b off
    simp only [aload, loadT, ht, ha, cond]
    rw [cellF_eq] at hv
    rw [hv]
    rfl
  · cases hv

theorem lenF_eq {α : Type} : ∀ (l : List α), lenF l = l.length
  | [] => rfl
  | x :: l => by show Nat.succ (lenF l) = _; rw [lenF_eq l]; rfl

theorem takeF_eq : ∀ (l : List UInt8) (n : Nat), takeF l n = l.take n
  | [], n => by cases n <;> rfl
  | x :: l, 0 => rfl
  | x :: l, n + 1 => by show x :: takeF l n = _; rw [takeF_eq l n]; rfl

theorem dropF_eq : ∀ (l : List UInt8) (n : Nat), dropF l n = l.drop n
  | [], n => by cases n <;> rfl
  | x :: l, 0 => rfl
  | x :: l, n + 1 => by show dropF l n = _; rw [dropF_eq l n]; rfl

theorem leqF_eq : ∀ (a b : List UInt8), leqF a b = leq a b
  | [], [] => rfl
  | [], _ :: _ => rfl
  | _ :: _, [] => rfl
  | x :: a, y :: b => by
    show Bool.rec (motive := fun _ => Bool) false (leqF a b) (Nat.beq x.toNat y.toNat) = _
    rw [leqF_eq a b]
    simp only [leq]
    cases Nat.beq x.toNat y.toNat <;> rfl

theorem iltK_eq (a b : Int) : iltK a b = decide (a < b) := by
  cases a with
  | ofNat m => cases b with
    | ofNat n =>
      show Nat.blt m n = _
      rw [Bool.eq_iff_iff]
      simp [Nat.blt_eq]
    | negSucc n =>
      show false = _
      have h0 : (0 : Int) ≤ Int.ofNat m := Int.natCast_nonneg m
      have h1 : Int.negSucc n < 0 := Int.negSucc_lt_zero n
      have : ¬ (Int.ofNat m < Int.negSucc n) := by omega
      simp only [this, decide_false]
  | negSucc m => cases b with
    | ofNat n =>
      show true = _
      have h0 : (0 : Int) ≤ Int.ofNat n := Int.natCast_nonneg n
      have h1 : Int.negSucc m < 0 := Int.negSucc_lt_zero m
      have : Int.negSucc m < Int.ofNat n := by omega
      simp only [this, decide_true]
    | negSucc n =>
      show Nat.blt n m = _
      rw [Bool.eq_iff_iff]
      simp only [Nat.blt_eq, decide_eq_true_eq]
      omega

theorem ieqK_eq (a b : Int) : ieqK a b = (a == b) := by
  rw [Bool.eq_iff_iff]
  simp only [beq_iff_eq]
  cases a with
  | ofNat m => cases b with
    | ofNat n => show Nat.beq m n = true ↔ _; simp only [Nat.beq_eq, Int.ofNat.injEq]
    | negSucc n => show false = true ↔ _; simp
  | negSucc m => cases b with
    | ofNat n => show false = true ↔ _; simp
    | negSucc n => show Nat.beq n m = true ↔ _; simp only [Nat.beq_eq, Int.negSucc.injEq]; omega

theorem fN_eq (n : Nat) (k : Nat → Option Value) : fN n k = k n := by cases n <;> rfl

theorem binK_ok (op : BinOp) (t : TypeId) (x y v : Value) (h : (binK T op t).run x y = some v) : abin T op t x y = some v := by
  unfold binK at h
  split at h
  · simp only [Bk.run] at h
    split at h
    · rename_i k a k' b
      rw [iltK_eq] at h
      rw [← h]
      cases k <;> cases k' <;> rfl
    · exact h
  · simp only [Bk.run] at h
    split at h
    · rename_i k a k' b
      rw [ieqK_eq] at h
      rw [← h]
      cases k <;> cases k' <;> rfl
    · rename_i a b
      rw [leqF_eq] at h
      rw [← h]
      rfl
    · exact h
  · simp only [Bk.run] at h
    split at h
    · rename_i k a k' b
      rw [← h]
      cases k' <;> try rfl
      cases a with
      | negSucc m => rfl
      | ofNat m => cases b with
        | negSucc n => rfl
        | ofNat n =>
          cases k <;> try rfl
          show _ = fN (m + n) fun s => Bool.rec (motive := fun _ => Option Value) (abin T .add t (.int .i64 (.ofNat m)) (.int .i64 (.ofNat n))) (some (.int .i64 (.ofNat s))) (Nat.blt s 9223372036854775808)
          rw [fN_eq]
          cases hb : Nat.blt (m + n) 9223372036854775808 with
          | false => rfl
          | true =>
            have hb' := blt_true hb
            show _ = some (Value.int .i64 (.ofNat (m + n)))
            show some (Value.int .i64 (IntKind.i64.wrap ((m : Int) + (n : Int)))) = _
            rw [wrap_small (by omega) (by omega)]
            rfl
    · exact h
  · exact h

end Go.Vae

/- Seat Z (chapter 44): the tables are the program's; the example that each statement checks first holds in every world. -/
import Derived.Test.YtkjkcoemloakhaaGreatTab
set_option linter.unusedVariables false
namespace Go.Proofs.YtkjkcoemloakhaaGreat
open Go Go.Vae
set_option maxRecDepth 1000000

theorem Tryz.T0OK : TabsOK Tryz.prog (Tryz.T fun _ => none) :=
  ⟨fun t ti h => Tryz.tyAll.get t ti h, fun f fi h => Tryz.fnAll.get f fi h, Tryz.mixed, fun f v h => by cases h⟩

theorem Tryz.awakeRun : true = runK (Tryz.T fun _ => none) 2000 10 [] AH.empty (fun v _ _ => isTrue v) := by kernel_rfl

theorem Tryz.awakeCalls : ∀ W, Calls Tryz.prog 10 ⟨[]⟩ W fun e w' => e = .returned (.bool true) ∧ Go.RowKit.Below W.heap.size W w' := run_closed Tryz.T0OK Tryz.awakeRun

def Tryz.known (f : Nat) : Option Value := bif Nat.beq f 10 then some (.bool true) else none

theorem Tryz.T1OK : TabsOK Tryz.prog (Tryz.T Tryz.known) := by
  refine ⟨fun t ti h => Tryz.tyAll.get t ti h, fun f fi h => Tryz.fnAll.get f fi h, Tryz.mixed, fun f v h => ?_⟩
  have h : Tryz.known f = some v := h
  unfold Tryz.known at h
  cases hb : Nat.beq f 10 with
  | false => rw [hb] at h; cases h
  | true =>
    rw [hb] at h
    have hf : f = 10 := by simpa [Nat.beq_eq] using hb
    subst hf
    injection h with h
    subst h
    exact ⟨fun j => .of (.bool true), (Tryz.fnOK10).enters, Tryz.awakeCalls⟩

#print axioms Tryz.T1OK
end Go.Proofs.YtkjkcoemloakhaaGreat

/- A part of the evaluator, of its proof or of the walks (laid together by a program of my own); conditions: none. -/
import Derived.Test.YtkjkcoemloakhaaGreatRows
import Derived.WalkKit
import Derived.ProofKit
import Derived.OpenShut
import Derived.ShutString
import Derived.ChangeOld
import Derived.Below
import Derived.SizedLaws
import Derived.Test.YtkjkcoemloakhaaGreatP1
import Derived.Test.YtkjkcoemloakhaaGreatP2
import Derived.Test.YtkjkcoemloakhaaGreatP3
import Derived.Test.YtkjkcoemloakhaaGreatP4
import Derived.Test.YtkjkcoemloakhaaGreatP5
import Derived.Test.YtkjkcoemloakhaaGreatP6
section
set_option linter.unusedVariables false
namespace Go.Proofs.YtkjkcoemloakhaaGreat
open Go Go.Vae
open Go.ChangeShapes Go.WideShapes Go.ChangeAt Go.RowKit

theorem own : ownKnob Tryz.prog.godebug = none := by kernel_rfl
theorem laidOut : laidOutB Tryz.prog = true := by kernel_rfl

noncomputable abbrev TQ : Tabs := Tryz.T Tryz.known

theorem exprT : ExprT TQ 30 27 3 2 9 28 :=
  ⟨⟨Tryz.ti30, rfl, rfl, rfl, by decide⟩, ⟨Tryz.ti27, rfl, rfl, rfl⟩, ⟨Tryz.ti3, rfl, rfl, rfl⟩, ⟨Tryz.ti2, rfl, rfl, rfl⟩, ⟨Tryz.ti9, rfl, rfl, rfl⟩, ⟨Tryz.ti28, rfl, rfl, rfl⟩⟩

theorem planT : PlanT TQ 35 30 27 3 2 9 28 24 33 :=
  ⟨⟨Tryz.ti35, rfl, rfl, rfl, by decide⟩, exprT, ⟨Tryz.ti24, rfl, rfl, rfl⟩, ⟨Tryz.ti33, rfl, rfl, rfl⟩, ⟨Tryz.ti3, rfl, by decide⟩⟩

theorem caseT : CaseT TQ 32 23 75 24 25 3 2 4 9 122 36 72 73 115 30 27 28 where
  ex := exprT
  hc := ⟨Tryz.ti32, rfl, rfl, rfl⟩
  hs := ⟨Tryz.ti23, rfl, rfl, rfl⟩
  his := ⟨Tryz.ti24, rfl, rfl, rfl⟩
  hss := ⟨Tryz.ti25, rfl, rfl, rfl⟩
  htb := ⟨Tryz.ti75, rfl, rfl, rfl, by decide⟩
  hcs := ⟨Tryz.ti36, rfl, rfl, rfl⟩
  hcl := ⟨Tryz.ti122, rfl, rfl, rfl, by decide⟩
  hks := ⟨Tryz.ti72, rfl, rfl, rfl⟩
  hfs := ⟨Tryz.ti73, rfl, rfl, rfl⟩
  hfo := ⟨Tryz.ti115, rfl, rfl, rfl, by decide⟩
  hb := ⟨Tryz.ti4, rfl, rfl, rfl⟩
  ib := ⟨Tryz.ti3, rfl, by decide⟩
  sb := ⟨Tryz.ti9, rfl, by decide⟩
  isb := ⟨Tryz.ti24, rfl, by decide⟩

def planS : List TypeId := [2, 3, 9, 24, 27, 28, 30, 33, 35]
def caseS : List TypeId := [2, 3, 4, 9, 23, 24, 25, 27, 28, 30, 32, 36, 72, 73, 75, 115, 122]

theorem planPlain : plainB TQ planS = true := by kernel_rfl
theorem casePlain : plainB TQ caseS = true := by kernel_rfl

theorem hp_base (W : World) : Hp W.heap.size 0 (AH.base W 0).rd (AH.base W 0) := hpBase W 0

/-- What is read of a plan. -/
theorem plan_read {H : Type} {enc : TypeId × Value → H} {W : World} {fuel : Nat} {cs : List Value} {d : DataW H} {pl : List MemPlace} (h : DataW.trod enc Tryz.prog W 0 (fun _ => true) true fuel 35 cs = some (d, pl)) (hw : ∀ n ∈ d.weights Tryz.prog 35, n ≤ reachBytes) :
    okA W.heap.size (.agg ⟨cs⟩) = true ∧ ∃ p : Pl, canA W.heap.size (.agg ⟨cs⟩) = .agg ⟨p.cells⟩ ∧ p.At (AH.base W 0).rd := by
  obtain ⟨h1, h2⟩ := rd_of_trod (ng := 0) Tryz.T1OK planPlain fuel 35 cs d pl (by decide) h hw
  obtain ⟨p, h3, h4⟩ := Pl.of_rd planT fuel _ h2
  refine ⟨List.all_eq_true.2 h1, p, ?_, h4⟩
  rw [h3]
  rfl

/-- What is read of a case. -/
theorem case_read {H : Type} {enc : TypeId × Value → H} {W : World} {fuel : Nat} {cs : List Value} {d : DataW H} {pl : List MemPlace} (h : DataW.trod enc Tryz.prog W 0 (fun _ => true) true fuel 32 cs = some (d, pl)) (hw : ∀ n ∈ d.weights Tryz.prog 32, n ≤ reachBytes) :
    okA W.heap.size (.agg ⟨cs⟩) = true ∧ ∃ c : Cs, canA W.heap.size (.agg ⟨cs⟩) = .agg ⟨c.cells⟩ ∧ c.At (AH.base W 0).rd := by
  obtain ⟨h1, h2⟩ := rd_of_trod (ng := 0) Tryz.T1OK casePlain fuel 32 cs d pl (by decide) h hw
  obtain ⟨p, h3, h4⟩ := Cs.of_rd caseT h2
  refine ⟨List.all_eq_true.2 h1, p, ?_, h4⟩
  rw [h3]
  rfl

end Go.Proofs.YtkjkcoemloakhaaGreat
end


/- The row PlanSources: whatever plan is handed in, the law returns true and the plan reads as it did. -/
import Derived.Test.YtkjkcoemloakhaaGreatRows
import Derived.Test.YtkjkcoemloakhaaGreatWlaw4
import Derived.WalkKit
import Derived.ProofKit
import Derived.OpenShut
import Derived.ShutString
import Derived.ChangeOld
import Derived.Below
import Derived.SizedLaws
set_option linter.unusedVariables false
namespace Go.Proofs.YtkjkcoemloakhaaGreat
open Go Go.Vae
open Go.ChangeShapes Go.WideShapes Go.ChangeAt Go.RowKit

theorem own : ownKnob Tryz.prog.godebug = none := by kernel_rfl
theorem laidOut : laidOutB Tryz.prog = true := by kernel_rfl

theorem exprT : ExprT TT 30 27 3 2 9 28 :=
  ⟨⟨Tryz.ti30, rfl, rfl, rfl, by decide⟩, ⟨Tryz.ti27, rfl, rfl, rfl⟩, ⟨Tryz.ti3, rfl, rfl, rfl⟩, ⟨Tryz.ti2, rfl, rfl, rfl⟩, ⟨Tryz.ti9, rfl, rfl, rfl⟩, ⟨Tryz.ti28, rfl, rfl, rfl⟩⟩

theorem planT : PlanT TT 35 30 27 3 2 9 28 24 33 :=
  ⟨⟨Tryz.ti35, rfl, rfl, rfl, by decide⟩, exprT, ⟨Tryz.ti24, rfl, rfl, rfl⟩, ⟨Tryz.ti33, rfl, rfl, rfl⟩, ⟨Tryz.ti3, rfl, by decide⟩⟩

def planS : List TypeId := [2, 3, 9, 24, 27, 28, 30, 33, 35]

theorem planPlain : plainB TT planS = true := by kernel_rfl

theorem hp_base (W : World) : Hp W.heap.size (AH.base W 0).rd (AH.base W 0) := ⟨fun k _ => Tr.get_e k, rfl, rfl⟩

/-- What is read of a plan. -/
theorem plan_read {H : Type} {enc : TypeId × Value → H} {W : World} {fuel : Nat} {cs : List Value} {d : DataW H} {pl : List MemPlace} (h : DataW.trod enc Tryz.prog W 0 (fun _ => true) true fuel 35 cs = some (d, pl)) (hw : ∀ n ∈ d.weights Tryz.prog 35, n ≤ reachBytes) :
    okA W.heap.size (.agg ⟨cs⟩) = true ∧ ∃ p : Pl, canA W.heap.size (.agg ⟨cs⟩) = .agg ⟨p.cells⟩ ∧ p.At (AH.base W 0).rd := by
  obtain ⟨h1, h2⟩ := rd_of_trod (ng := 0) Tryz.T1OK planPlain fuel 35 cs d pl (by decide) h hw
  obtain ⟨p, h3, h4⟩ := Pl.of_rd planT fuel _ h2
  refine ⟨List.all_eq_true.2 h1, p, ?_, h4⟩
  rw [h3]
  rfl

set_option maxRecDepth 100000 in
theorem planSources_lifted (os : Os) (started : os.Started) (H : Type) (enc : TypeId × Value → H) :
    ReturnsInHanded {} Tryz.checked os 4 .any (Rows.planSourcesSpec.pre6 enc Tryz.prog Tryz.f4 Rows.planSourcesRow.domain false) (Rows.planSourcesSpec.post enc Tryz.prog Tryz.f4 false true false false) := by
  refine returnsInHanded_of_change_sized (C := Tryz.checked) own started (by kernel_rfl) Tryz.func4
    (ChangeSpec.witness6 (enc := enc) (C := Tryz.checked) false ⟨#[], #[.agg ⟨Tryz.ti35.zero⟩], []⟩ 8 (by kernel_rfl) (by kernel_rfl) (by kernel_rfl) (by kernel_rfl)) ?_
  intro W base args ds gs before hval0 hW hcnd hsz0 _
  have hsz : (DataW.weightsEach Tryz.prog (Tryz.f4.params.toList ++ Rows.planSourcesSpec.plain.varTypes Tryz.prog) (ds ++ gs)).all (· ≤ reachBytes) = true := hsz0
  have hval : ∀ (j : Nat) t v, Tryz.f4.params[j]? = some t → args[j]? = some v → Value.okWide Tryz.prog W .any base t v := hval0
  have hW' := hW
  obtain ⟨p, q, hA0, hV, rfl, hfz, hnd⟩ := hW
  have hA : DataW.TrodAll enc Tryz.prog W 0 (fun _ => true) true Tryz.f4.params.toList args.toList ds p := hA0
  rw [Tryz.params4] at hA hval hsz
  obtain ⟨v0, vs0, d0, ds0, p0, q0, hargs, rfl, rfl, h0, r0⟩ := trodAll_cons hA
  obtain ⟨rfl, rfl, rfl⟩ := trodAll_nil r0
  obtain rfl : args = #[v0] := by cases args; simp_all
  obtain ⟨rfl, rfl⟩ := trodVars_none hV
  have k0 := h0
  have lt0 : ∀ x ∈ p0, x.block < W.heap.size := by obtain ⟨m, hm⟩ := k0; exact DataW.trod_lt m _ _ _ hm
  obtain ⟨⟨cs⟩, rfl, hcl, _⟩ : ∃ cs, v0 = .agg cs ∧ cs.size = Tryz.prog.cellsOf 35 ∧ Row.okWide Tryz.prog W .any base 35 cs := by
    have := hval 0 35 v0 rfl rfl
    unfold Value.okWide at this
    rw [Tryz.underlying35] at this
    exact this
  obtain ⟨fuel, hf⟩ := h0
  obtain ⟨g1, pp, g2, g3⟩ := plan_read (cs := cs) hf (fun n hn => by
    have := (List.all_eq_true.1 hsz) n (DataW.weights_mem_each (j := 0) (t := 35) (d := d0) rfl rfl n hn)
    simpa using this)
  clear hA0 hval0 hsz0 hsz
  refine (run_top Tryz.T1OK (W := W) (ng := 0) (Nat.zero_le _) (f := 4) (args := [.agg ⟨cs⟩]) (by simp only [List.all_cons, List.all_nil, g1, Bool.and_self]) (by
    simp only [List.map_cons, List.map_nil, g2]
    exact Fp.mono (law4_ok pp (AH.base W 0) (hp_base W) g3) fun v _ _ h => h.1)).mono fun e W' ⟨he, bel⟩ => ?_
  subst he
  exact ⟨_, rfl, _, _, _, [], _, [], hW', trodAll_mk1 (shut_bool Tryz.underlying4 _), (trodAll_cons_mk (Below.trod laidOut (by kernel_rfl) (of_decide_eq_true (by kernel_rfl)) k0 bel lt0) trodAll_mk0), rfl, bel.frame _, fun h => by cases h⟩

theorem planSources_over : Rows.planSourcesRow.holds Tryz.pinned (OpenSpec.ofChange Rows.planSourcesSpec) :=
  OpenClaim.holds_of_wide 4 Tryz.f4 rfl rfl rfl rfl rfl rfl rfl ⟨rfl, rfl, rfl, rfl, rfl⟩ rfl rfl rfl rfl rfl (by kernel_rfl) Tryz.func4 (by kernel_rfl)
    (of_decide_eq_true (by kernel_rfl)) (by unfold Func.isWrapper; first | (rw [if_pos (by decide +kernel)]; kernel_rfl) | (rw [if_neg (by decide +kernel)]; exact ⟨rfl, rfl⟩))
    (fun os started H enc _ => planSources_lifted os started H enc)

/-- The statement PlanSources. -/
theorem planSources_holds : Rows.PlanSourcesSaid := planSources_over

#print axioms planSources_holds
end Go.Proofs.YtkjkcoemloakhaaGreat

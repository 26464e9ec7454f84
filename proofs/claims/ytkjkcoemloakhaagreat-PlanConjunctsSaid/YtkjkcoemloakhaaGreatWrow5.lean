/- The row PlanConjuncts: whatever case is handed in, the law returns true and the case reads as it did. -/
import Derived.Test.YtkjkcoemloakhaaGreatP1
import Derived.Test.YtkjkcoemloakhaaGreatP2
import Derived.Test.YtkjkcoemloakhaaGreatP3
import Derived.Test.YtkjkcoemloakhaaGreatP4
import Derived.Test.YtkjkcoemloakhaaGreatP5
import Derived.Test.YtkjkcoemloakhaaGreatP6
import Derived.Test.YtkjkcoemloakhaaGreatP7
set_option linter.unusedVariables false
namespace Go.Proofs.YtkjkcoemloakhaaGreat
open Go Go.Vae
open Go.ChangeShapes Go.WideShapes Go.ChangeAt Go.RowKit

set_option maxRecDepth 100000 in
theorem planConjuncts_lifted (os : Os) (started : os.Started) (H : Type) (enc : TypeId × Value → H) :
    ReturnsInHanded {} Tryz.checked os 5 .any (Rows.planConjunctsSpec.pre6 enc Tryz.prog Tryz.f5 Rows.planConjunctsRow.domain false) (Rows.planConjunctsSpec.post enc Tryz.prog Tryz.f5 false true false false) := by
  refine returnsInHanded_of_change_sized (C := Tryz.checked) own started (by kernel_rfl) Tryz.func5
    (ChangeSpec.witness6 (enc := enc) (C := Tryz.checked) false ⟨#[], #[.agg ⟨Tryz.ti32.zero⟩], []⟩ 8 (by kernel_rfl) (by kernel_rfl) (by kernel_rfl) (by kernel_rfl)) ?_
  intro W base args ds gs before hval0 hW hcnd hsz0 _
  have hsz : (DataW.weightsEach Tryz.prog (Tryz.f5.params.toList ++ Rows.planConjunctsSpec.plain.varTypes Tryz.prog) (ds ++ gs)).all (· ≤ reachBytes) = true := hsz0
  have hval : ∀ (j : Nat) t v, Tryz.f5.params[j]? = some t → args[j]? = some v → Value.okWide Tryz.prog W .any base t v := hval0
  have hW' := hW
  obtain ⟨p, q, hA0, hV, rfl, hfz, hnd⟩ := hW
  have hA : DataW.TrodAll enc Tryz.prog W 0 (fun _ => true) true Tryz.f5.params.toList args.toList ds p := hA0
  rw [Tryz.params5] at hA hval hsz
  obtain ⟨v0, vs0, d0, ds0, p0, q0, hargs, rfl, rfl, h0, r0⟩ := trodAll_cons hA
  obtain ⟨rfl, rfl, rfl⟩ := trodAll_nil r0
  obtain rfl : args = #[v0] := by cases args; simp_all
  obtain ⟨rfl, rfl⟩ := trodVars_none hV
  have k0 := h0
  have lt0 : ∀ x ∈ p0, x.block < W.heap.size := by obtain ⟨m, hm⟩ := k0; exact DataW.trod_lt m _ _ _ hm
  obtain ⟨⟨cs⟩, rfl, hcl, _⟩ : ∃ cs, v0 = .agg cs ∧ cs.size = Tryz.prog.cellsOf 32 ∧ Row.okWide Tryz.prog W .any base 32 cs := by
    have := hval 0 32 v0 rfl rfl
    unfold Value.okWide at this
    rw [Tryz.underlying32] at this
    exact this
  obtain ⟨fuel, hf⟩ := h0
  obtain ⟨g1, pp, g2, g3⟩ := case_read (cs := cs) hf (fun n hn => by
    have := (List.all_eq_true.1 hsz) n (DataW.weights_mem_each (j := 0) (t := 32) (d := d0) rfl rfl n hn)
    simpa using this)
  clear hA0 hval0 hsz0 hsz
  refine (run_top Tryz.T1OK (W := W) (ng := 0) (Nat.zero_le _) (f := 5) (args := [.agg ⟨cs⟩]) (by simp only [List.all_cons, List.all_nil, g1, Bool.and_self]) (by
    simp only [List.map_cons, List.map_nil, g2]
    exact Fp.mono (law5_ok pp (AH.base W 0) (hp_base W) g3) fun v _ _ h => h.1)).mono fun e W' ⟨he, bel⟩ => ?_
  subst he
  exact ⟨_, rfl, _, _, _, [], _, [], hW', trodAll_mk1 (shut_bool Tryz.underlying4 _), (trodAll_cons_mk (Below.trod laidOut (by kernel_rfl) (of_decide_eq_true (by kernel_rfl)) k0 bel lt0) trodAll_mk0), rfl, bel.frame _, fun h => by cases h⟩

set_option maxRecDepth 100000 in
theorem planConjuncts_over : Rows.planConjunctsRow.holds Tryz.pinned (OpenSpec.ofChange Rows.planConjunctsSpec) :=
  OpenClaim.holds_of_wide 5 Tryz.f5 rfl rfl rfl rfl rfl rfl rfl ⟨rfl, rfl, rfl, rfl, rfl⟩ rfl rfl rfl rfl rfl (by kernel_rfl) Tryz.func5 (by kernel_rfl)
    (of_decide_eq_true (by kernel_rfl)) (by unfold Func.isWrapper; first | (rw [if_pos (by decide +kernel)]; kernel_rfl) | (rw [if_neg (by decide +kernel)]; exact ⟨rfl, rfl⟩))
    (fun os started H enc _ => planConjuncts_lifted os started H enc)

/-- The statement PlanConjuncts. -/
theorem planConjuncts_holds : Rows.PlanConjunctsSaid := planConjuncts_over

end Go.Proofs.YtkjkcoemloakhaaGreat

/- The statement PlanSources (chapter 44): its walk. -/
import Derived.Test.YtkjkcoemloakhaaGreatWsources
set_option linter.unusedVariables false
namespace Go.Proofs.YtkjkcoemloakhaaGreat
open Go Go.Vae
set_option maxRecDepth 100000

theorem partInt {xs : List Int} {i : Nat} (h : i < xs.length) : partT TT 3 (intsV xs) (0 + i * 1) = some (.int .i64 xs[i]) := by
  show lget (intsV xs) (0 + i * 1) = _
  rw [lget_eq, Nat.mul_one, Nat.zero_add]
  simp [intsV, h]

theorem law4_ok {N : Nat} {rd : RO} (p : Pl) (h0 : AH) (H : Hp N rd h0) (he : p.At rd) : Kp TT 4 [.agg ⟨p.cells⟩] h0 fun v _ => v = .bool true := by
  match p, he with
  | .mk kd sc csl nc cols ksl nk keys .nil asl na args, he => exact he.2.2.2.1.elim
  | .mk kd sc csl nc cols ksl nk keys (.mk op tb nm ix vk vi vt fsl fn fk) asl na args, he =>
    refine Kp.of (fi := Tryz.fi4) rfl rfl rfl ?_
    refine WpB.seq (WpB.region ?_)
    refine SpB.box H rfl rfl rfl rfl rfl rfl fun h g s1 b1 => ?_
    have H := g.hp H
    have l1 : h0.sz < h.sz := by omega
    clear g s1
    repeat first | refine SpB.nil ?_ | refine SpB.move rfl rfl rfl rfl rfl ?_ | refine SpB.assign rfl rfl rfl rfl rfl ?_ | refine SpB.skip rfl rfl rfl ?_ | refine SpB.loadO H b1 rfl rfl rfl rfl rfl rfl ?_ | refine SpB.pure (v := .bool true) rfl rfl rfl rfl rfl ?_ | refine SpB.pure (v := .bool false) rfl rfl rfl rfl rfl ?_ | refine SpB.inc (i := i) (by omega) rfl rfl rfl rfl rfl ?_ | refine SpB.pureS rfl rfl rfl rfl rfl rfl ?_ | refine WpB.seq ?_ | refine WpB.region ?_ | refine WpB.draw ?_ | refine And.intro (fun hw => by have hw : false = true := hw; cases hw) ?_ | refine WpB.skip ?_
    refine SpB.callK (R := fun v _ => v = .bool true) Tryz.T1OK H (by omega) (Kp.known rfl rfl) rfl rfl rfl rfl rfl ?_
    rintro v h rfl g
    have H := g.hp H
    have b1 := g.keep l1 b1
    have l1 := g.lt l1
    repeat first | refine SpB.nil ?_ | refine SpB.move rfl rfl rfl rfl rfl ?_ | refine SpB.assign rfl rfl rfl rfl rfl ?_ | refine SpB.skip rfl rfl rfl ?_ | refine SpB.loadO H b1 rfl rfl rfl rfl rfl rfl ?_ | refine SpB.pure (v := .bool true) rfl rfl rfl rfl rfl ?_ | refine SpB.pure (v := .bool false) rfl rfl rfl rfl rfl ?_ | refine SpB.inc (i := i) (by omega) rfl rfl rfl rfl rfl ?_ | refine SpB.pureS rfl rfl rfl rfl rfl rfl ?_ | refine WpB.seq ?_ | refine WpB.region ?_ | refine WpB.draw ?_ | refine And.intro (fun hw => by have hw : false = true := hw; cases hw) ?_ | refine WpB.skip ?_
    refine SpB.callK Tryz.T1OK H (by omega) (few_ok (.mk kd sc csl nc cols ksl nk keys (.mk op tb nm ix vk vi vt fsl fn fk) asl na args) h H he) rfl rfl rfl rfl rfl ?_
    rintro v h ⟨r, rfl, hr⟩ g
    have H := g.hp H
    have b1 := g.keep l1 b1
    have l1 := g.lt l1
    repeat first | refine SpB.nil ?_ | refine SpB.move rfl rfl rfl rfl rfl ?_ | refine SpB.assign rfl rfl rfl rfl rfl ?_ | refine SpB.skip rfl rfl rfl ?_ | refine SpB.loadO H b1 rfl rfl rfl rfl rfl rfl ?_ | refine SpB.pure (v := .bool true) rfl rfl rfl rfl rfl ?_ | refine SpB.pure (v := .bool false) rfl rfl rfl rfl rfl ?_ | refine SpB.inc (i := i) (by omega) rfl rfl rfl rfl rfl ?_ | refine SpB.pureS rfl rfl rfl rfl rfl rfl ?_ | refine WpB.seq ?_ | refine WpB.region ?_ | refine WpB.draw ?_ | refine And.intro (fun hw => by have hw : false = true := hw; cases hw) ?_ | refine WpB.skip ?_
    refine WpB.cond rfl (fun ht => ?_) fun ht => ?_
    · repeat first | refine SpB.nil ?_ | refine SpB.move rfl rfl rfl rfl rfl ?_ | refine SpB.assign rfl rfl rfl rfl rfl ?_ | refine SpB.skip rfl rfl rfl ?_ | refine SpB.loadO H b1 rfl rfl rfl rfl rfl rfl ?_ | refine SpB.pure (v := .bool true) rfl rfl rfl rfl rfl ?_ | refine SpB.pure (v := .bool false) rfl rfl rfl rfl rfl ?_ | refine SpB.inc (i := i) (by omega) rfl rfl rfl rfl rfl ?_ | refine SpB.pureS rfl rfl rfl rfl rfl rfl ?_ | refine WpB.seq ?_ | refine WpB.region ?_ | refine WpB.draw ?_ | refine And.intro (fun hw => by have hw : false = true := hw; cases hw) ?_ | refine WpB.skip ?_
      refine SpB.callK (R := fun v _ => v = .bool true) Tryz.T1OK H (by omega) (Kp.known rfl rfl) rfl rfl rfl rfl rfl ?_
      rintro v h rfl g
      repeat first | refine SpB.nil ?_ | refine SpB.move rfl rfl rfl rfl rfl ?_ | refine SpB.assign rfl rfl rfl rfl rfl ?_ | refine SpB.skip rfl rfl rfl ?_ | refine SpB.loadO H b1 rfl rfl rfl rfl rfl rfl ?_ | refine SpB.pure (v := .bool true) rfl rfl rfl rfl rfl ?_ | refine SpB.pure (v := .bool false) rfl rfl rfl rfl rfl ?_ | refine SpB.inc (i := i) (by omega) rfl rfl rfl rfl rfl ?_ | refine SpB.pureS rfl rfl rfl rfl rfl rfl ?_ | refine WpB.seq ?_ | refine WpB.region ?_ | refine WpB.draw ?_ | refine And.intro (fun hw => by have hw : false = true := hw; cases hw) ?_ | refine WpB.skip ?_
      exact WpB.ret ⟨_, rfl, rfl, Nat.le_refl _⟩
    · have ht : r = true := by simpa using ht
      obtain ⟨hfew, _⟩ := hr ht
      have hlen := Pl.srcs_le _ _ hfew
      have h3 : 3 ^ 7 ≤ 1000000 := by decide
      repeat first | refine SpB.nil ?_ | refine SpB.move rfl rfl rfl rfl rfl ?_ | refine SpB.assign rfl rfl rfl rfl rfl ?_ | refine SpB.skip rfl rfl rfl ?_ | refine SpB.loadO H b1 rfl rfl rfl rfl rfl rfl ?_ | refine SpB.pure (v := .bool true) rfl rfl rfl rfl rfl ?_ | refine SpB.pure (v := .bool false) rfl rfl rfl rfl rfl ?_ | refine SpB.inc (i := i) (by omega) rfl rfl rfl rfl rfl ?_ | refine SpB.pureS rfl rfl rfl rfl rfl rfl ?_ | refine WpB.seq ?_ | refine WpB.region ?_ | refine WpB.draw ?_ | refine And.intro (fun hw => by have hw : false = true := hw; cases hw) ?_ | refine WpB.skip ?_
      refine SpB.callK Tryz.T1OK H (by omega) (srcs14_ok (.mk kd sc csl nc cols ksl nk keys (.mk op tb nm ix vk vi vt fsl fn fk) asl na args) h H he (by omega)) rfl rfl rfl rfl rfl ?_
      intro v1 h1 o1 g
      have H := g.hp H
      have b1 := g.keep l1 b1
      have l1 := g.lt l1
      have l2 := g.le
      repeat first | refine SpB.nil ?_ | refine SpB.move rfl rfl rfl rfl rfl ?_ | refine SpB.assign rfl rfl rfl rfl rfl ?_ | refine SpB.skip rfl rfl rfl ?_ | refine SpB.loadO H b1 rfl rfl rfl rfl rfl rfl ?_ | refine SpB.pure (v := .bool true) rfl rfl rfl rfl rfl ?_ | refine SpB.pure (v := .bool false) rfl rfl rfl rfl rfl ?_ | refine SpB.inc (i := i) (by omega) rfl rfl rfl rfl rfl ?_ | refine SpB.pureS rfl rfl rfl rfl rfl rfl ?_ | refine WpB.seq ?_ | refine WpB.region ?_ | refine WpB.draw ?_ | refine And.intro (fun hw => by have hw : false = true := hw; cases hw) ?_ | refine WpB.skip ?_
      refine SpB.callK Tryz.T1OK H (by omega) (srcs15_ok (.mk kd sc csl nc cols ksl nk keys (.mk op tb nm ix vk vi vt fsl fn fk) asl na args) h1 H he (by omega)) rfl rfl rfl rfl rfl ?_
      intro v2 h2 o2 g
      have o1 := o1.grow g (Nat.le_refl _)
      have H := g.hp H
      generalize hxs : (Pl.mk kd sc csl nc cols ksl nk keys (.mk op tb nm ix vk vi vt fsl fn fk) asl na args).srcs = xs at o1 o2 hlen
      clear hxs
      obtain ⟨a1, c1, rfl, e1⟩ := o1.shape
      obtain ⟨a2, c2, rfl, e2⟩ := o2.shape
      repeat first | refine SpB.nil ?_ | refine SpB.move rfl rfl rfl rfl rfl ?_ | refine SpB.assign rfl rfl rfl rfl rfl ?_ | refine SpB.skip rfl rfl rfl ?_ | refine SpB.loadO H b1 rfl rfl rfl rfl rfl rfl ?_ | refine SpB.pure (v := .bool true) rfl rfl rfl rfl rfl ?_ | refine SpB.pure (v := .bool false) rfl rfl rfl rfl rfl ?_ | refine SpB.inc (i := i) (by omega) rfl rfl rfl rfl rfl ?_ | refine SpB.pureS rfl rfl rfl rfl rfl rfl ?_ | refine WpB.seq ?_ | refine WpB.region ?_ | refine WpB.draw ?_ | refine And.intro (fun hw => by have hw : false = true := hw; cases hw) ?_ | refine WpB.skip ?_
      refine WpB.cond rfl (fun ht => by simp at ht) fun _ => ?_
      repeat first | refine SpB.nil ?_ | refine SpB.move rfl rfl rfl rfl rfl ?_ | refine SpB.assign rfl rfl rfl rfl rfl ?_ | refine SpB.skip rfl rfl rfl ?_ | refine SpB.loadO H b1 rfl rfl rfl rfl rfl rfl ?_ | refine SpB.pure (v := .bool true) rfl rfl rfl rfl rfl ?_ | refine SpB.pure (v := .bool false) rfl rfl rfl rfl rfl ?_ | refine SpB.inc (i := i) (by omega) rfl rfl rfl rfl rfl ?_ | refine SpB.pureS rfl rfl rfl rfl rfl rfl ?_ | refine WpB.seq ?_ | refine WpB.region ?_ | refine WpB.draw ?_ | refine And.intro (fun hw => by have hw : false = true := hw; cases hw) ?_ | refine WpB.skip ?_
      refine WpB.block ?_
      refine WpB.loopC xs.length (fun i => [(25, .int .i64 (i : Int)), (24, .int .i64 (xs.length : Int)), (3, .slice a1 xs.length c1), (4, .slice a2 xs.length c2)]) (fun i h' => h' = h2) rfl (by repeat first | exact sub_nil | refine sub_cons rfl ?_) ?_
      rintro i _ hi rfl
      repeat first | refine SpB.nil ?_ | refine SpB.move rfl rfl rfl rfl rfl ?_ | refine SpB.assign rfl rfl rfl rfl rfl ?_ | refine SpB.skip rfl rfl rfl ?_ | refine SpB.loadO H b1 rfl rfl rfl rfl rfl rfl ?_ | refine SpB.pure (v := .bool true) rfl rfl rfl rfl rfl ?_ | refine SpB.pure (v := .bool false) rfl rfl rfl rfl rfl ?_ | refine SpB.inc (i := i) (by omega) rfl rfl rfl rfl rfl ?_ | refine SpB.pureS rfl rfl rfl rfl rfl rfl ?_ | refine WpB.seq ?_ | refine WpB.region ?_ | refine WpB.draw ?_ | refine And.intro (fun hw => by have hw : false = true := hw; cases hw) ?_ | refine WpB.skip ?_
      refine WpB.cond rfl (fun ht => ?_) fun ht => ?_
      · have hlt : i < xs.length := by simpa using ht
        obtain ⟨k1, _, _, rfl, b1⟩ := e1 i hlt
        obtain ⟨k2, _, _, rfl, b2⟩ := e2 i hlt
        rw [H.n]
        refine WpB.skip ?_
        refine WpB.seq (WpB.block ?_)
        repeat first | refine SpB.nil ?_ | refine SpB.move rfl rfl rfl rfl rfl ?_ | refine SpB.assign rfl rfl rfl rfl rfl ?_ | refine SpB.skip rfl rfl rfl ?_ | refine SpB.loadO H b1 rfl rfl rfl rfl rfl rfl ?_ | refine SpB.pure (v := .bool true) rfl rfl rfl rfl rfl ?_ | refine SpB.pure (v := .bool false) rfl rfl rfl rfl rfl ?_ | refine SpB.inc (i := i) (by omega) rfl rfl rfl rfl rfl ?_ | refine SpB.pureS rfl rfl rfl rfl rfl rfl ?_ | refine WpB.seq ?_ | refine WpB.region ?_ | refine WpB.draw ?_ | refine And.intro (fun hw => by have hw : false = true := hw; cases hw) ?_ | refine WpB.skip ?_
        refine SpB.indexN hlt rfl rfl rfl rfl rfl rfl rfl rfl rfl ?_
        refine SpB.loadO H b1 rfl rfl rfl (partInt hlt) rfl rfl ?_
        repeat first | refine SpB.nil ?_ | refine SpB.move rfl rfl rfl rfl rfl ?_ | refine SpB.assign rfl rfl rfl rfl rfl ?_ | refine SpB.skip rfl rfl rfl ?_ | refine SpB.loadO H b1 rfl rfl rfl rfl rfl rfl ?_ | refine SpB.pure (v := .bool true) rfl rfl rfl rfl rfl ?_ | refine SpB.pure (v := .bool false) rfl rfl rfl rfl rfl ?_ | refine SpB.inc (i := i) (by omega) rfl rfl rfl rfl rfl ?_ | refine SpB.pureS rfl rfl rfl rfl rfl rfl ?_ | refine WpB.seq ?_ | refine WpB.region ?_ | refine WpB.draw ?_ | refine And.intro (fun hw => by have hw : false = true := hw; cases hw) ?_ | refine WpB.skip ?_
        refine SpB.indexN hlt rfl rfl rfl rfl rfl rfl rfl rfl rfl ?_
        refine SpB.loadO H b2 rfl rfl rfl (partInt hlt) rfl rfl ?_
        repeat first | refine SpB.nil ?_ | refine SpB.move rfl rfl rfl rfl rfl ?_ | refine SpB.assign rfl rfl rfl rfl rfl ?_ | refine SpB.skip rfl rfl rfl ?_ | refine SpB.loadO H b1 rfl rfl rfl rfl rfl rfl ?_ | refine SpB.pure (v := .bool true) rfl rfl rfl rfl rfl ?_ | refine SpB.pure (v := .bool false) rfl rfl rfl rfl rfl ?_ | refine SpB.inc (i := i) (by omega) rfl rfl rfl rfl rfl ?_ | refine SpB.pureS rfl rfl rfl rfl rfl rfl ?_ | refine WpB.seq ?_ | refine WpB.region ?_ | refine WpB.draw ?_ | refine And.intro (fun hw => by have hw : false = true := hw; cases hw) ?_ | refine WpB.skip ?_
        refine WpB.cond rfl (fun ht2 => by simp at ht2) fun _ => ?_
        repeat first | refine SpB.nil ?_ | refine SpB.move rfl rfl rfl rfl rfl ?_ | refine SpB.assign rfl rfl rfl rfl rfl ?_ | refine SpB.skip rfl rfl rfl ?_ | refine SpB.loadO H b1 rfl rfl rfl rfl rfl rfl ?_ | refine SpB.pure (v := .bool true) rfl rfl rfl rfl rfl ?_ | refine SpB.pure (v := .bool false) rfl rfl rfl rfl rfl ?_ | refine SpB.inc (i := i) (by omega) rfl rfl rfl rfl rfl ?_ | refine SpB.pureS rfl rfl rfl rfl rfl rfl ?_ | refine WpB.seq ?_ | refine WpB.region ?_ | refine WpB.draw ?_ | refine And.intro (fun hw => by have hw : false = true := hw; cases hw) ?_ | refine WpB.skip ?_
        exact ⟨hlt, (by repeat first | exact sub_nil | refine sub_cons rfl ?_), rfl, rfl⟩
      · refine WpB.exit ?_
        repeat first | refine SpB.nil ?_ | refine SpB.move rfl rfl rfl rfl rfl ?_ | refine SpB.assign rfl rfl rfl rfl rfl ?_ | refine SpB.skip rfl rfl rfl ?_ | refine SpB.loadO H b1 rfl rfl rfl rfl rfl rfl ?_ | refine SpB.pure (v := .bool true) rfl rfl rfl rfl rfl ?_ | refine SpB.pure (v := .bool false) rfl rfl rfl rfl rfl ?_ | refine SpB.inc (i := i) (by omega) rfl rfl rfl rfl rfl ?_ | refine SpB.pureS rfl rfl rfl rfl rfl rfl ?_ | refine WpB.seq ?_ | refine WpB.region ?_ | refine WpB.draw ?_ | refine And.intro (fun hw => by have hw : false = true := hw; cases hw) ?_ | refine WpB.skip ?_
        exact WpB.ret ⟨_, rfl, rfl, Nat.le_refl _⟩

#print axioms law4_ok
end Go.Proofs.YtkjkcoemloakhaaGreat

/- Walks over plans (chapter 44): Filters, few. -/
import Derived.Test.YtkjkcoemloakhaaGreatWfew
set_option linter.unusedVariables false
namespace Go.Proofs.YtkjkcoemloakhaaGreat
open Go Go.Vae
set_option maxRecDepth 100000

theorem filters_ok {N : Nat} {rd : RO} : ∀ (p : Pl) (h : AH), Hp N rd h → p.At rd → Kp TT 24 [.agg ⟨p.cells⟩] h fun v _ => ∃ b, v = .bool b ∧ (b = true → p.pairs)
  | .nil, h, _, he => he.elim
  | .mk kd sc csl nc cols ksl nk keys .nil asl na args, h, _, he => he.2.2.2.1.elim
  | .mk kd sc csl nc cols ksl nk keys (.mk op tb nm ix vk vi vt fsl fn fk) asl na args, h0, H, he => by
    obtain ⟨⟨_, _, hnc, hnk, hna⟩, ⟨⟨ca, ccap, rfl, _, _, _⟩, _⟩, ⟨⟨ka, kcap, rfl, _, _, hkx⟩, hkk⟩, hflt, ⟨aa, acap, rfl, _, _, hax⟩, hak⟩ := he
    have hreach : reachBytes < 2 ^ 47 := by decide
    refine Kp.of (fi := Tryz.fi24) rfl rfl rfl ?_
    refine WpB.seq (WpB.region ?_)
    refine SpB.box H rfl rfl rfl rfl rfl rfl fun h g s1 b1 => ?_
    have H := g.hp H
    have l1 : h0.sz < h.sz := by omega
    clear g s1
    have hfalse : ∀ h' : AH, (∃ b, Value.bool false = .bool b ∧ (b = true → (Pl.mk kd sc (.slice ca nc ccap) nc cols (.slice ka nk kcap) nk keys (.mk op tb nm ix vk vi vt fsl fn fk) (.slice aa na acap) na args).pairs)) ∧ h0.sz ≤ h0.sz := fun _ => ⟨⟨false, rfl, fun h => by cases h⟩, Nat.le_refl _⟩
    refine SpB.assign rfl rfl rfl rfl rfl (SpB.nil ?_)
    refine WpB.cut [(1, .pointer (some ⟨N + h0.sz, 0, none⟩))] (fun h => Hp N rd h ∧ h.blk h0.sz = some (.cells (Pl.mk kd sc (.slice ca nc ccap) nc cols (.slice ka nk kcap) nk keys (.mk op tb nm ix vk vi vt fsl fn fk) (.slice aa na acap) na args).cells) ∧ h0.sz < h.sz ∧
      (E.mk op tb nm ix vk vi vt fsl fn fk).pairs) ?_ ?_
    · repeat first | refine SpB.nil ?_ | refine SpB.move rfl rfl rfl rfl rfl ?_ | refine SpB.assign rfl rfl rfl rfl rfl ?_ | refine SpB.skip rfl rfl rfl ?_ | refine SpB.loadO H b1 rfl rfl rfl rfl rfl rfl ?_ | refine SpB.pure (v := .bool true) rfl rfl rfl rfl rfl ?_ | refine SpB.pure (v := .bool false) rfl rfl rfl rfl rfl ?_ | refine SpB.inc (i := i) (by omega) rfl rfl rfl rfl rfl ?_ | refine SpB.pureS rfl rfl rfl rfl rfl rfl ?_ | refine WpB.seq ?_ | refine WpB.region ?_ | refine WpB.draw ?_ | refine And.intro (fun hw => by have hw : false = true := hw; cases hw) ?_ | refine WpB.skip ?_
      refine SpB.callK Tryz.T1OK H (by omega) (pairs_ok (.mk op tb nm ix vk vi vt fsl fn fk) h H hflt) rfl rfl rfl rfl rfl ?_
      rintro v h ⟨r, rfl, hr⟩ g
      have H := g.hp H
      have b1 := g.keep l1 b1
      have l1 := g.lt l1
      repeat first | refine SpB.nil ?_ | refine SpB.move rfl rfl rfl rfl rfl ?_ | refine SpB.assign rfl rfl rfl rfl rfl ?_ | refine SpB.skip rfl rfl rfl ?_ | refine SpB.loadO H b1 rfl rfl rfl rfl rfl rfl ?_ | refine SpB.pure (v := .bool true) rfl rfl rfl rfl rfl ?_ | refine SpB.pure (v := .bool false) rfl rfl rfl rfl rfl ?_ | refine SpB.inc (i := i) (by omega) rfl rfl rfl rfl rfl ?_ | refine SpB.pureS rfl rfl rfl rfl rfl rfl ?_ | refine WpB.seq ?_ | refine WpB.region ?_ | refine WpB.draw ?_ | refine And.intro (fun hw => by have hw : false = true := hw; cases hw) ?_ | refine WpB.skip ?_
      refine WpB.cond rfl (fun ht => ?_) fun ht => ?_
      · repeat' first | refine SpB.nil ?_ | refine SpB.move rfl rfl rfl rfl rfl ?_ | refine SpB.assign rfl rfl rfl rfl rfl ?_ | refine SpB.skip rfl rfl rfl ?_ | refine SpB.loadO H b1 rfl rfl rfl rfl rfl rfl ?_ | refine SpB.pure (v := .bool true) rfl rfl rfl rfl rfl ?_ | refine SpB.pure (v := .bool false) rfl rfl rfl rfl rfl ?_ | refine SpB.boolN rfl rfl rfl rfl rfl rfl (fun ht => ?_) fun ht => ?_ | refine SpB.inc (i := i) (by omega) rfl rfl rfl rfl rfl ?_ | refine SpB.pureS rfl rfl rfl rfl rfl rfl ?_ | refine WpB.seq ?_ | refine WpB.region ?_ | refine WpB.draw ?_ | refine And.intro (fun hw => by have hw : false = true := hw; cases hw) ?_ | refine WpB.skip ?_ | refine WpB.condT rfl ?_ | refine WpB.condF rfl ?_ | refine WpB.cond rfl (fun ht => ?_) fun ht => ?_
        exact WpB.ret ⟨_, rfl, hfalse h⟩
      · repeat first | refine SpB.nil ?_ | refine SpB.move rfl rfl rfl rfl rfl ?_ | refine SpB.assign rfl rfl rfl rfl rfl ?_ | refine SpB.skip rfl rfl rfl ?_ | refine SpB.loadO H b1 rfl rfl rfl rfl rfl rfl ?_ | refine SpB.pure (v := .bool true) rfl rfl rfl rfl rfl ?_ | refine SpB.pure (v := .bool false) rfl rfl rfl rfl rfl ?_ | refine SpB.inc (i := i) (by omega) rfl rfl rfl rfl rfl ?_ | refine SpB.pureS rfl rfl rfl rfl rfl rfl ?_ | refine WpB.seq ?_ | refine WpB.region ?_ | refine WpB.draw ?_ | refine And.intro (fun hw => by have hw : false = true := hw; cases hw) ?_ | refine WpB.skip ?_
        refine ⟨(by repeat first | exact sub_nil | refine sub_cons rfl ?_), ⟨H, b1, l1, hr (by simpa using ht)⟩, rfl⟩
    · rintro h ⟨H, b1, l1, c5⟩
      repeat first | refine SpB.nil ?_ | refine SpB.move rfl rfl rfl rfl rfl ?_ | refine SpB.assign rfl rfl rfl rfl rfl ?_ | refine SpB.skip rfl rfl rfl ?_ | refine SpB.loadO H b1 rfl rfl rfl rfl rfl rfl ?_ | refine SpB.pure (v := .bool true) rfl rfl rfl rfl rfl ?_ | refine SpB.pure (v := .bool false) rfl rfl rfl rfl rfl ?_ | refine SpB.inc (i := i) (by omega) rfl rfl rfl rfl rfl ?_ | refine SpB.pureS rfl rfl rfl rfl rfl rfl ?_ | refine WpB.seq ?_ | refine WpB.region ?_ | refine WpB.draw ?_ | refine And.intro (fun hw => by have hw : false = true := hw; cases hw) ?_ | refine WpB.skip ?_
      refine WpB.cut1 [(1, .pointer (some ⟨N + h0.sz, 0, none⟩))] (fun h => Hp N rd h ∧ h.blk h0.sz = some (.cells (Pl.mk kd sc (.slice ca nc ccap) nc cols (.slice ka nk kcap) nk keys (.mk op tb nm ix vk vi vt fsl fn fk) (.slice aa na acap) na args).cells) ∧ h0.sz < h.sz ∧ ∀ j, j < nk → (keys j).pairs) ?_ ?_
      · refine WpB.block ?_
        refine WpB.loopC nk (fun i => [(3, .int .i64 (i : Int)), (1, .pointer (some ⟨N + h0.sz, 0, none⟩))]) (fun i h => Hp N rd h ∧ h.blk h0.sz = some (.cells (Pl.mk kd sc (.slice ca nc ccap) nc cols (.slice ka nk kcap) nk keys (.mk op tb nm ix vk vi vt fsl fn fk) (.slice aa na acap) na args).cells) ∧ h0.sz < h.sz ∧ ∀ j, j < i → (keys j).pairs)
          ⟨H, b1, l1, fun j hj => absurd hj (Nat.not_lt_zero _)⟩ (by repeat first | exact sub_nil | refine sub_cons rfl ?_) ?_
        rintro i h hi ⟨H, b1, l1, hj⟩
        refine WpB.seq (WpB.seq (WpB.region ?_))
        repeat first | refine SpB.nil ?_ | refine SpB.move rfl rfl rfl rfl rfl ?_ | refine SpB.assign rfl rfl rfl rfl rfl ?_ | refine SpB.skip rfl rfl rfl ?_ | refine SpB.loadO H b1 rfl rfl rfl rfl rfl rfl ?_ | refine SpB.pure (v := .bool true) rfl rfl rfl rfl rfl ?_ | refine SpB.pure (v := .bool false) rfl rfl rfl rfl rfl ?_ | refine SpB.inc (i := i) (by omega) rfl rfl rfl rfl rfl ?_ | refine SpB.pureS rfl rfl rfl rfl rfl rfl ?_ | refine WpB.seq ?_ | refine WpB.region ?_ | refine WpB.draw ?_ | refine And.intro (fun hw => by have hw : false = true := hw; cases hw) ?_ | refine WpB.skip ?_
        refine WpB.cond rfl (fun ht => ?_) fun ht => ?_
        · have hlt : i < nk := by simpa using ht
          obtain ⟨b, off, rfl, hc⟩ := hkx i hlt
          refine WpB.skip ?_
          refine WpB.seq (WpB.block ?_)
          repeat first | refine SpB.nil ?_ | refine SpB.move rfl rfl rfl rfl rfl ?_ | refine SpB.assign rfl rfl rfl rfl rfl ?_ | refine SpB.skip rfl rfl rfl ?_ | refine SpB.loadO H b1 rfl rfl rfl rfl rfl rfl ?_ | refine SpB.pure (v := .bool true) rfl rfl rfl rfl rfl ?_ | refine SpB.pure (v := .bool false) rfl rfl rfl rfl rfl ?_ | refine SpB.inc (i := i) (by omega) rfl rfl rfl rfl rfl ?_ | refine SpB.pureS rfl rfl rfl rfl rfl rfl ?_ | refine WpB.seq ?_ | refine WpB.region ?_ | refine WpB.draw ?_ | refine And.intro (fun hw => by have hw : false = true := hw; cases hw) ?_ | refine WpB.skip ?_
          refine SpB.indexN hlt rfl rfl rfl rfl rfl rfl rfl rfl rfl ?_
          refine SpB.loadR H hc rfl rfl rfl rfl rfl rfl rfl ?_
          refine SpB.callK Tryz.T1OK H (by omega) (pairs_ok (keys i) h H (hkk i hlt)) rfl rfl rfl rfl rfl ?_
          rintro v h ⟨r, rfl, hr⟩ g
          have H := g.hp H
          have b1 := g.keep l1 b1
          have l1 := g.lt l1
          repeat first | refine SpB.nil ?_ | refine SpB.move rfl rfl rfl rfl rfl ?_ | refine SpB.assign rfl rfl rfl rfl rfl ?_ | refine SpB.skip rfl rfl rfl ?_ | refine SpB.loadO H b1 rfl rfl rfl rfl rfl rfl ?_ | refine SpB.pure (v := .bool true) rfl rfl rfl rfl rfl ?_ | refine SpB.pure (v := .bool false) rfl rfl rfl rfl rfl ?_ | refine SpB.inc (i := i) (by omega) rfl rfl rfl rfl rfl ?_ | refine SpB.pureS rfl rfl rfl rfl rfl rfl ?_ | refine WpB.seq ?_ | refine WpB.region ?_ | refine WpB.draw ?_ | refine And.intro (fun hw => by have hw : false = true := hw; cases hw) ?_ | refine WpB.skip ?_
          refine WpB.cond rfl (fun ht2 => ?_) fun ht2 => ?_
          · repeat first | refine SpB.nil ?_ | refine SpB.move rfl rfl rfl rfl rfl ?_ | refine SpB.assign rfl rfl rfl rfl rfl ?_ | refine SpB.skip rfl rfl rfl ?_ | refine SpB.loadO H b1 rfl rfl rfl rfl rfl rfl ?_ | refine SpB.pure (v := .bool true) rfl rfl rfl rfl rfl ?_ | refine SpB.pure (v := .bool false) rfl rfl rfl rfl rfl ?_ | refine SpB.inc (i := i) (by omega) rfl rfl rfl rfl rfl ?_ | refine SpB.pureS rfl rfl rfl rfl rfl rfl ?_ | refine WpB.seq ?_ | refine WpB.region ?_ | refine WpB.draw ?_ | refine And.intro (fun hw => by have hw : false = true := hw; cases hw) ?_ | refine WpB.skip ?_
            exact WpB.ret ⟨_, rfl, hfalse h⟩
          · repeat first | refine SpB.nil ?_ | refine SpB.move rfl rfl rfl rfl rfl ?_ | refine SpB.assign rfl rfl rfl rfl rfl ?_ | refine SpB.skip rfl rfl rfl ?_ | refine SpB.loadO H b1 rfl rfl rfl rfl rfl rfl ?_ | refine SpB.pure (v := .bool true) rfl rfl rfl rfl rfl ?_ | refine SpB.pure (v := .bool false) rfl rfl rfl rfl rfl ?_ | refine SpB.inc (i := i) (by omega) rfl rfl rfl rfl rfl ?_ | refine SpB.pureS rfl rfl rfl rfl rfl rfl ?_ | refine WpB.seq ?_ | refine WpB.region ?_ | refine WpB.draw ?_ | refine And.intro (fun hw => by have hw : false = true := hw; cases hw) ?_ | refine WpB.skip ?_
            refine ⟨hlt, (by repeat first | exact sub_nil | refine sub_cons rfl ?_), ⟨H, b1, l1, fun j hj1 => ?_⟩, rfl⟩
            by_cases e : j = i
            · subst e; exact hr (by simpa using ht2)
            · exact hj j (by omega)
        · refine WpB.exit ?_
          have : ¬ i < nk := by simpa using ht
          refine ⟨(by repeat first | exact sub_nil | refine sub_cons rfl ?_), ⟨H, b1, l1, fun j hj1 => hj j (by omega)⟩, rfl⟩
      · rintro h ⟨H, b1, l1, c6⟩
        repeat first | refine SpB.nil ?_ | refine SpB.move rfl rfl rfl rfl rfl ?_ | refine SpB.assign rfl rfl rfl rfl rfl ?_ | refine SpB.skip rfl rfl rfl ?_ | refine SpB.loadO H b1 rfl rfl rfl rfl rfl rfl ?_ | refine SpB.pure (v := .bool true) rfl rfl rfl rfl rfl ?_ | refine SpB.pure (v := .bool false) rfl rfl rfl rfl rfl ?_ | refine SpB.inc (i := i) (by omega) rfl rfl rfl rfl rfl ?_ | refine SpB.pureS rfl rfl rfl rfl rfl rfl ?_ | refine WpB.seq ?_ | refine WpB.region ?_ | refine WpB.draw ?_ | refine And.intro (fun hw => by have hw : false = true := hw; cases hw) ?_ | refine WpB.skip ?_
        refine WpB.block ?_
        refine WpB.loopC na (fun i => [(4, .int .i64 (i : Int)), (1, .pointer (some ⟨N + h0.sz, 0, none⟩))]) (fun i h => Hp N rd h ∧ h.blk h0.sz = some (.cells (Pl.mk kd sc (.slice ca nc ccap) nc cols (.slice ka nk kcap) nk keys (.mk op tb nm ix vk vi vt fsl fn fk) (.slice aa na acap) na args).cells) ∧ h0.sz < h.sz ∧ ∀ j, j < i → (args j).pairs)
          ⟨H, b1, l1, fun j hj => absurd hj (Nat.not_lt_zero _)⟩ (by repeat first | exact sub_nil | refine sub_cons rfl ?_) ?_
        rintro i h hi ⟨H, b1, l1, hj⟩
        refine WpB.seq (WpB.seq (WpB.region ?_))
        repeat first | refine SpB.nil ?_ | refine SpB.move rfl rfl rfl rfl rfl ?_ | refine SpB.assign rfl rfl rfl rfl rfl ?_ | refine SpB.skip rfl rfl rfl ?_ | refine SpB.loadO H b1 rfl rfl rfl rfl rfl rfl ?_ | refine SpB.pure (v := .bool true) rfl rfl rfl rfl rfl ?_ | refine SpB.pure (v := .bool false) rfl rfl rfl rfl rfl ?_ | refine SpB.inc (i := i) (by omega) rfl rfl rfl rfl rfl ?_ | refine SpB.pureS rfl rfl rfl rfl rfl rfl ?_ | refine WpB.seq ?_ | refine WpB.region ?_ | refine WpB.draw ?_ | refine And.intro (fun hw => by have hw : false = true := hw; cases hw) ?_ | refine WpB.skip ?_
        refine WpB.cond rfl (fun ht => ?_) fun ht => ?_
        · have hlt : i < na := by simpa using ht
          obtain ⟨b, off, rfl, hc⟩ := hax i hlt
          refine WpB.skip ?_
          refine WpB.seq (WpB.block ?_)
          repeat first | refine SpB.nil ?_ | refine SpB.move rfl rfl rfl rfl rfl ?_ | refine SpB.assign rfl rfl rfl rfl rfl ?_ | refine SpB.skip rfl rfl rfl ?_ | refine SpB.loadO H b1 rfl rfl rfl rfl rfl rfl ?_ | refine SpB.pure (v := .bool true) rfl rfl rfl rfl rfl ?_ | refine SpB.pure (v := .bool false) rfl rfl rfl rfl rfl ?_ | refine SpB.inc (i := i) (by omega) rfl rfl rfl rfl rfl ?_ | refine SpB.pureS rfl rfl rfl rfl rfl rfl ?_ | refine WpB.seq ?_ | refine WpB.region ?_ | refine WpB.draw ?_ | refine And.intro (fun hw => by have hw : false = true := hw; cases hw) ?_ | refine WpB.skip ?_
          refine SpB.indexN hlt rfl rfl rfl rfl rfl rfl rfl rfl rfl ?_
          refine SpB.loadR H hc rfl rfl rfl rfl rfl rfl rfl ?_
          refine SpB.callK Tryz.T1OK H (by omega) (filters_ok (args i) h H (hak i hlt)) rfl rfl rfl rfl rfl ?_
          rintro v h ⟨r, rfl, hr⟩ g
          have H := g.hp H
          have b1 := g.keep l1 b1
          have l1 := g.lt l1
          repeat first | refine SpB.nil ?_ | refine SpB.move rfl rfl rfl rfl rfl ?_ | refine SpB.assign rfl rfl rfl rfl rfl ?_ | refine SpB.skip rfl rfl rfl ?_ | refine SpB.loadO H b1 rfl rfl rfl rfl rfl rfl ?_ | refine SpB.pure (v := .bool true) rfl rfl rfl rfl rfl ?_ | refine SpB.pure (v := .bool false) rfl rfl rfl rfl rfl ?_ | refine SpB.inc (i := i) (by omega) rfl rfl rfl rfl rfl ?_ | refine SpB.pureS rfl rfl rfl rfl rfl rfl ?_ | refine WpB.seq ?_ | refine WpB.region ?_ | refine WpB.draw ?_ | refine And.intro (fun hw => by have hw : false = true := hw; cases hw) ?_ | refine WpB.skip ?_
          refine WpB.cond rfl (fun ht2 => ?_) fun ht2 => ?_
          · repeat first | refine SpB.nil ?_ | refine SpB.move rfl rfl rfl rfl rfl ?_ | refine SpB.assign rfl rfl rfl rfl rfl ?_ | refine SpB.skip rfl rfl rfl ?_ | refine SpB.loadO H b1 rfl rfl rfl rfl rfl rfl ?_ | refine SpB.pure (v := .bool true) rfl rfl rfl rfl rfl ?_ | refine SpB.pure (v := .bool false) rfl rfl rfl rfl rfl ?_ | refine SpB.inc (i := i) (by omega) rfl rfl rfl rfl rfl ?_ | refine SpB.pureS rfl rfl rfl rfl rfl rfl ?_ | refine WpB.seq ?_ | refine WpB.region ?_ | refine WpB.draw ?_ | refine And.intro (fun hw => by have hw : false = true := hw; cases hw) ?_ | refine WpB.skip ?_
            exact WpB.ret ⟨_, rfl, hfalse h⟩
          · repeat first | refine SpB.nil ?_ | refine SpB.move rfl rfl rfl rfl rfl ?_ | refine SpB.assign rfl rfl rfl rfl rfl ?_ | refine SpB.skip rfl rfl rfl ?_ | refine SpB.loadO H b1 rfl rfl rfl rfl rfl rfl ?_ | refine SpB.pure (v := .bool true) rfl rfl rfl rfl rfl ?_ | refine SpB.pure (v := .bool false) rfl rfl rfl rfl rfl ?_ | refine SpB.inc (i := i) (by omega) rfl rfl rfl rfl rfl ?_ | refine SpB.pureS rfl rfl rfl rfl rfl rfl ?_ | refine WpB.seq ?_ | refine WpB.region ?_ | refine WpB.draw ?_ | refine And.intro (fun hw => by have hw : false = true := hw; cases hw) ?_ | refine WpB.skip ?_
            refine ⟨hlt, (by repeat first | exact sub_nil | refine sub_cons rfl ?_), ⟨H, b1, l1, fun j hj1 => ?_⟩, rfl⟩
            by_cases e : j = i
            · subst e; exact hr (by simpa using ht2)
            · exact hj j (by omega)
        · refine WpB.exit ?_
          repeat first | refine SpB.nil ?_ | refine SpB.move rfl rfl rfl rfl rfl ?_ | refine SpB.assign rfl rfl rfl rfl rfl ?_ | refine SpB.skip rfl rfl rfl ?_ | refine SpB.loadO H b1 rfl rfl rfl rfl rfl rfl ?_ | refine SpB.pure (v := .bool true) rfl rfl rfl rfl rfl ?_ | refine SpB.pure (v := .bool false) rfl rfl rfl rfl rfl ?_ | refine SpB.inc (i := i) (by omega) rfl rfl rfl rfl rfl ?_ | refine SpB.pureS rfl rfl rfl rfl rfl rfl ?_ | refine WpB.seq ?_ | refine WpB.region ?_ | refine WpB.draw ?_ | refine And.intro (fun hw => by have hw : false = true := hw; cases hw) ?_ | refine WpB.skip ?_
          refine WpB.ret ⟨_, rfl, ⟨true, rfl, fun _ => ?_⟩, Nat.le_refl _⟩
          have : ¬ i < na := by simpa using ht
          exact ⟨c5, c6, fun j hj1 => hj j (by omega)⟩

theorem few_ok {N : Nat} {rd : RO} (p : Pl) (h0 : AH) (H : Hp N rd h0) (he : p.At rd) : Kp TT 11 [.agg ⟨p.cells⟩] h0 fun v _ => ∃ b, v = .bool b ∧ (b = true → p.few 7 ∧ p.pairs) := by
  match p, he with
  | .mk kd sc csl nc cols ksl nk keys .nil asl na args, he => exact he.2.2.2.1.elim
  | .mk kd sc csl nc cols ksl nk keys (.mk op tb nm ix vk vi vt fsl fn fk) asl na args, he =>
    refine Kp.of (fi := Tryz.fi11) rfl rfl rfl ?_
    refine WpB.seq (WpB.region ?_)
    refine SpB.box H rfl rfl rfl rfl rfl rfl fun h g s1 b1 => ?_
    have H := g.hp H
    have l1 : h0.sz < h.sz := by omega
    clear g s1
    repeat first | refine SpB.nil ?_ | refine SpB.move rfl rfl rfl rfl rfl ?_ | refine SpB.assign rfl rfl rfl rfl rfl ?_ | refine SpB.skip rfl rfl rfl ?_ | refine SpB.loadO H b1 rfl rfl rfl rfl rfl rfl ?_ | refine SpB.pure (v := .bool true) rfl rfl rfl rfl rfl ?_ | refine SpB.pure (v := .bool false) rfl rfl rfl rfl rfl ?_ | refine SpB.inc (i := i) (by omega) rfl rfl rfl rfl rfl ?_ | refine SpB.pureS rfl rfl rfl rfl rfl rfl ?_ | refine WpB.seq ?_ | refine WpB.region ?_ | refine WpB.draw ?_ | refine And.intro (fun hw => by have hw : false = true := hw; cases hw) ?_ | refine WpB.skip ?_
    refine SpB.callK Tryz.T1OK H (by omega) (few35_ok (.mk kd sc csl nc cols ksl nk keys (.mk op tb nm ix vk vi vt fsl fn fk) asl na args) h 7 H he (by omega)) rfl rfl rfl rfl rfl ?_
    rintro v h ⟨r, rfl, hr⟩ g
    have H := g.hp H
    have b1 := g.keep l1 b1
    have l1 := g.lt l1
    refine SpB.bool rfl rfl rfl rfl rfl (fun ht => ?_) fun ht => ?_
    · repeat first | refine SpB.nil ?_ | refine SpB.move rfl rfl rfl rfl rfl ?_ | refine SpB.assign rfl rfl rfl rfl rfl ?_ | refine SpB.skip rfl rfl rfl ?_ | refine SpB.loadO H b1 rfl rfl rfl rfl rfl rfl ?_ | refine SpB.pure (v := .bool true) rfl rfl rfl rfl rfl ?_ | refine SpB.pure (v := .bool false) rfl rfl rfl rfl rfl ?_ | refine SpB.inc (i := i) (by omega) rfl rfl rfl rfl rfl ?_ | refine SpB.pureS rfl rfl rfl rfl rfl rfl ?_ | refine WpB.seq ?_ | refine WpB.region ?_ | refine WpB.draw ?_ | refine And.intro (fun hw => by have hw : false = true := hw; cases hw) ?_ | refine WpB.skip ?_
      refine SpB.callK Tryz.T1OK H (by omega) (filters_ok (.mk kd sc csl nc cols ksl nk keys (.mk op tb nm ix vk vi vt fsl fn fk) asl na args) h H he) rfl rfl rfl rfl rfl ?_
      rintro v h ⟨r2, rfl, hr2⟩ g
      repeat first | refine SpB.nil ?_ | refine SpB.move rfl rfl rfl rfl rfl ?_ | refine SpB.assign rfl rfl rfl rfl rfl ?_ | refine SpB.skip rfl rfl rfl ?_ | refine SpB.loadO H b1 rfl rfl rfl rfl rfl rfl ?_ | refine SpB.pure (v := .bool true) rfl rfl rfl rfl rfl ?_ | refine SpB.pure (v := .bool false) rfl rfl rfl rfl rfl ?_ | refine SpB.inc (i := i) (by omega) rfl rfl rfl rfl rfl ?_ | refine SpB.pureS rfl rfl rfl rfl rfl rfl ?_ | refine WpB.seq ?_ | refine WpB.region ?_ | refine WpB.draw ?_ | refine And.intro (fun hw => by have hw : false = true := hw; cases hw) ?_ | refine WpB.skip ?_
      exact WpB.ret ⟨_, rfl, ⟨r2, rfl, fun h => ⟨hr ht, hr2 h⟩⟩, Nat.le_refl _⟩
    · repeat first | refine SpB.nil ?_ | refine SpB.move rfl rfl rfl rfl rfl ?_ | refine SpB.assign rfl rfl rfl rfl rfl ?_ | refine SpB.skip rfl rfl rfl ?_ | refine SpB.loadO H b1 rfl rfl rfl rfl rfl rfl ?_ | refine SpB.pure (v := .bool true) rfl rfl rfl rfl rfl ?_ | refine SpB.pure (v := .bool false) rfl rfl rfl rfl rfl ?_ | refine SpB.inc (i := i) (by omega) rfl rfl rfl rfl rfl ?_ | refine SpB.pureS rfl rfl rfl rfl rfl rfl ?_ | refine WpB.seq ?_ | refine WpB.region ?_ | refine WpB.draw ?_ | refine And.intro (fun hw => by have hw : false = true := hw; cases hw) ?_ | refine WpB.skip ?_
      exact WpB.ret ⟨_, rfl, ⟨false, rfl, fun h => by cases h⟩, Nat.le_refl _⟩

end Go.Proofs.YtkjkcoemloakhaaGreat

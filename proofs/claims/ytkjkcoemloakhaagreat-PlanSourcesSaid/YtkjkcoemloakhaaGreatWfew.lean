/- Walks over plans (chapter 44): Few, Filters, few. -/
import Derived.Test.YtkjkcoemloakhaaGreatWnodes
set_option linter.unusedVariables false
namespace Go.Proofs.YtkjkcoemloakhaaGreat
open Go Go.Vae
set_option maxRecDepth 100000

theorem few35_ok {N : Nat} {rd : RO} : ∀ (p : Pl) (h : AH) (d : Nat), Hp N rd h → p.At rd → d ≤ 1000 → Kp TT 35 [.agg ⟨p.cells⟩, .int .i64 (d : Int)] h fun v _ => ∃ b, v = .bool b ∧ (b = true → p.few d)
  | .nil, h, _, _, he, _ => he.elim
  | .mk kd sc csl nc cols ksl nk keys .nil asl na args, h, _, _, he, _ => he.2.2.2.1.elim
  | .mk kd sc csl nc cols ksl nk keys (.mk op tb nm ix vk vi vt fsl fn fk) asl na args, h0, d, H, he, hd => by
    obtain ⟨⟨_, _, hnc, hnk, hna⟩, ⟨⟨ca, ccap, rfl, _, _, _⟩, _⟩, ⟨⟨ka, kcap, rfl, _, _, hkx⟩, hkk⟩, hflt, ⟨aa, acap, rfl, _, _, hax⟩, hak⟩ := he
    have hreach : reachBytes < 2 ^ 47 := by decide
    refine Kp.of (fi := Tryz.fi35) rfl rfl rfl ?_
    refine WpB.seq (WpB.region ?_)
    refine SpB.box H rfl rfl rfl rfl rfl rfl fun h g s1 b1 => ?_
    have H := g.hp H
    have l1 : h0.sz < h.sz := by omega
    clear g s1
    have hfalse : ∀ h' : AH, (∃ b, Value.bool false = .bool b ∧ (b = true → (Pl.mk kd sc (.slice ca nc ccap) nc cols (.slice ka nk kcap) nk keys (.mk op tb nm ix vk vi vt fsl fn fk) (.slice aa na acap) na args).few d)) ∧ h0.sz ≤ h0.sz := fun _ => ⟨⟨false, rfl, fun h => by cases h⟩, Nat.le_refl _⟩
    refine SpB.assign rfl rfl rfl rfl rfl (SpB.nil ?_)
    refine WpB.cut [(2, .pointer (some ⟨N + h0.sz, 0, none⟩)), (1, .int .i64 (d : Int))] (fun h => Hp N rd h ∧ h.blk h0.sz = some (.cells (Pl.mk kd sc (.slice ca nc ccap) nc cols (.slice ka nk kcap) nk keys (.mk op tb nm ix vk vi vt fsl fn fk) (.slice aa na acap) na args).cells) ∧ h0.sz < h.sz ∧
      d ≠ 0 ∧ nc ≤ 10 ∧ nk ≤ 10 ∧ na ≤ 3 ∧ (E.mk op tb nm ix vk vi vt fsl fn fk).tiny) ?_ ?_
    · repeat first | refine SpB.nil ?_ | refine SpB.move rfl rfl rfl rfl rfl ?_ | refine SpB.assign rfl rfl rfl rfl rfl ?_ | refine SpB.skip rfl rfl rfl ?_ | refine SpB.loadO H b1 rfl rfl rfl rfl rfl rfl ?_ | refine SpB.pure (v := .bool true) rfl rfl rfl rfl rfl ?_ | refine SpB.pure (v := .bool false) rfl rfl rfl rfl rfl ?_ | refine SpB.inc (i := i) (by omega) rfl rfl rfl rfl rfl ?_ | refine SpB.pureS rfl rfl rfl rfl rfl rfl ?_ | refine WpB.seq ?_ | refine WpB.region ?_ | refine WpB.draw ?_ | refine And.intro (fun hw => by have hw : false = true := hw; cases hw) ?_ | refine WpB.skip ?_
      refine SpB.boolN rfl rfl rfl rfl rfl rfl (fun c1 => ?_) fun c1 => ?_
      · repeat' first | refine SpB.nil ?_ | refine SpB.move rfl rfl rfl rfl rfl ?_ | refine SpB.assign rfl rfl rfl rfl rfl ?_ | refine SpB.skip rfl rfl rfl ?_ | refine SpB.loadO H b1 rfl rfl rfl rfl rfl rfl ?_ | refine SpB.pure (v := .bool true) rfl rfl rfl rfl rfl ?_ | refine SpB.pure (v := .bool false) rfl rfl rfl rfl rfl ?_ | refine SpB.boolN rfl rfl rfl rfl rfl rfl (fun ht => ?_) fun ht => ?_ | refine SpB.inc (i := i) (by omega) rfl rfl rfl rfl rfl ?_ | refine SpB.pureS rfl rfl rfl rfl rfl rfl ?_ | refine WpB.seq ?_ | refine WpB.region ?_ | refine WpB.draw ?_ | refine And.intro (fun hw => by have hw : false = true := hw; cases hw) ?_ | refine WpB.skip ?_ | refine WpB.condT rfl ?_ | refine WpB.condF rfl ?_ | refine WpB.cond rfl (fun ht => ?_) fun ht => ?_
        exact WpB.ret ⟨_, rfl, hfalse h⟩
      have c1 : d ≠ 0 := by simpa using c1
      repeat first | refine SpB.nil ?_ | refine SpB.move rfl rfl rfl rfl rfl ?_ | refine SpB.assign rfl rfl rfl rfl rfl ?_ | refine SpB.skip rfl rfl rfl ?_ | refine SpB.loadO H b1 rfl rfl rfl rfl rfl rfl ?_ | refine SpB.pure (v := .bool true) rfl rfl rfl rfl rfl ?_ | refine SpB.pure (v := .bool false) rfl rfl rfl rfl rfl ?_ | refine SpB.inc (i := i) (by omega) rfl rfl rfl rfl rfl ?_ | refine SpB.pureS rfl rfl rfl rfl rfl rfl ?_ | refine WpB.seq ?_ | refine WpB.region ?_ | refine WpB.draw ?_ | refine And.intro (fun hw => by have hw : false = true := hw; cases hw) ?_ | refine WpB.skip ?_
      refine SpB.boolN rfl rfl rfl rfl rfl rfl (fun c2 => ?_) fun c2 => ?_
      · repeat' first | refine SpB.nil ?_ | refine SpB.move rfl rfl rfl rfl rfl ?_ | refine SpB.assign rfl rfl rfl rfl rfl ?_ | refine SpB.skip rfl rfl rfl ?_ | refine SpB.loadO H b1 rfl rfl rfl rfl rfl rfl ?_ | refine SpB.pure (v := .bool true) rfl rfl rfl rfl rfl ?_ | refine SpB.pure (v := .bool false) rfl rfl rfl rfl rfl ?_ | refine SpB.boolN rfl rfl rfl rfl rfl rfl (fun ht => ?_) fun ht => ?_ | refine SpB.inc (i := i) (by omega) rfl rfl rfl rfl rfl ?_ | refine SpB.pureS rfl rfl rfl rfl rfl rfl ?_ | refine WpB.seq ?_ | refine WpB.region ?_ | refine WpB.draw ?_ | refine And.intro (fun hw => by have hw : false = true := hw; cases hw) ?_ | refine WpB.skip ?_ | refine WpB.condT rfl ?_ | refine WpB.condF rfl ?_ | refine WpB.cond rfl (fun ht => ?_) fun ht => ?_
        exact WpB.ret ⟨_, rfl, hfalse h⟩
      have c2 : nc ≤ 10 := by simp at c2; omega
      repeat first | refine SpB.nil ?_ | refine SpB.move rfl rfl rfl rfl rfl ?_ | refine SpB.assign rfl rfl rfl rfl rfl ?_ | refine SpB.skip rfl rfl rfl ?_ | refine SpB.loadO H b1 rfl rfl rfl rfl rfl rfl ?_ | refine SpB.pure (v := .bool true) rfl rfl rfl rfl rfl ?_ | refine SpB.pure (v := .bool false) rfl rfl rfl rfl rfl ?_ | refine SpB.inc (i := i) (by omega) rfl rfl rfl rfl rfl ?_ | refine SpB.pureS rfl rfl rfl rfl rfl rfl ?_ | refine WpB.seq ?_ | refine WpB.region ?_ | refine WpB.draw ?_ | refine And.intro (fun hw => by have hw : false = true := hw; cases hw) ?_ | refine WpB.skip ?_
      refine SpB.boolN rfl rfl rfl rfl rfl rfl (fun c3 => ?_) fun c3 => ?_
      · repeat' first | refine SpB.nil ?_ | refine SpB.move rfl rfl rfl rfl rfl ?_ | refine SpB.assign rfl rfl rfl rfl rfl ?_ | refine SpB.skip rfl rfl rfl ?_ | refine SpB.loadO H b1 rfl rfl rfl rfl rfl rfl ?_ | refine SpB.pure (v := .bool true) rfl rfl rfl rfl rfl ?_ | refine SpB.pure (v := .bool false) rfl rfl rfl rfl rfl ?_ | refine SpB.boolN rfl rfl rfl rfl rfl rfl (fun ht => ?_) fun ht => ?_ | refine SpB.inc (i := i) (by omega) rfl rfl rfl rfl rfl ?_ | refine SpB.pureS rfl rfl rfl rfl rfl rfl ?_ | refine WpB.seq ?_ | refine WpB.region ?_ | refine WpB.draw ?_ | refine And.intro (fun hw => by have hw : false = true := hw; cases hw) ?_ | refine WpB.skip ?_ | refine WpB.condT rfl ?_ | refine WpB.condF rfl ?_ | refine WpB.cond rfl (fun ht => ?_) fun ht => ?_
        exact WpB.ret ⟨_, rfl, hfalse h⟩
      have c3 : nk ≤ 10 := by simp at c3; omega
      repeat first | refine SpB.nil ?_ | refine SpB.move rfl rfl rfl rfl rfl ?_ | refine SpB.assign rfl rfl rfl rfl rfl ?_ | refine SpB.skip rfl rfl rfl ?_ | refine SpB.loadO H b1 rfl rfl rfl rfl rfl rfl ?_ | refine SpB.pure (v := .bool true) rfl rfl rfl rfl rfl ?_ | refine SpB.pure (v := .bool false) rfl rfl rfl rfl rfl ?_ | refine SpB.inc (i := i) (by omega) rfl rfl rfl rfl rfl ?_ | refine SpB.pureS rfl rfl rfl rfl rfl rfl ?_ | refine WpB.seq ?_ | refine WpB.region ?_ | refine WpB.draw ?_ | refine And.intro (fun hw => by have hw : false = true := hw; cases hw) ?_ | refine WpB.skip ?_
      refine SpB.boolN rfl rfl rfl rfl rfl rfl (fun c4 => ?_) fun c4 => ?_
      · repeat' first | refine SpB.nil ?_ | refine SpB.move rfl rfl rfl rfl rfl ?_ | refine SpB.assign rfl rfl rfl rfl rfl ?_ | refine SpB.skip rfl rfl rfl ?_ | refine SpB.loadO H b1 rfl rfl rfl rfl rfl rfl ?_ | refine SpB.pure (v := .bool true) rfl rfl rfl rfl rfl ?_ | refine SpB.pure (v := .bool false) rfl rfl rfl rfl rfl ?_ | refine SpB.boolN rfl rfl rfl rfl rfl rfl (fun ht => ?_) fun ht => ?_ | refine SpB.inc (i := i) (by omega) rfl rfl rfl rfl rfl ?_ | refine SpB.pureS rfl rfl rfl rfl rfl rfl ?_ | refine WpB.seq ?_ | refine WpB.region ?_ | refine WpB.draw ?_ | refine And.intro (fun hw => by have hw : false = true := hw; cases hw) ?_ | refine WpB.skip ?_ | refine WpB.condT rfl ?_ | refine WpB.condF rfl ?_ | refine WpB.cond rfl (fun ht => ?_) fun ht => ?_
        exact WpB.ret ⟨_, rfl, hfalse h⟩
      have c4 : na ≤ 3 := by simp at c4; omega
      repeat first | refine SpB.nil ?_ | refine SpB.move rfl rfl rfl rfl rfl ?_ | refine SpB.assign rfl rfl rfl rfl rfl ?_ | refine SpB.skip rfl rfl rfl ?_ | refine SpB.loadO H b1 rfl rfl rfl rfl rfl rfl ?_ | refine SpB.pure (v := .bool true) rfl rfl rfl rfl rfl ?_ | refine SpB.pure (v := .bool false) rfl rfl rfl rfl rfl ?_ | refine SpB.inc (i := i) (by omega) rfl rfl rfl rfl rfl ?_ | refine SpB.pureS rfl rfl rfl rfl rfl rfl ?_ | refine WpB.seq ?_ | refine WpB.region ?_ | refine WpB.draw ?_ | refine And.intro (fun hw => by have hw : false = true := hw; cases hw) ?_ | refine WpB.skip ?_
      refine SpB.callK Tryz.T1OK H (by omega) (nodes_ok (.mk op tb nm ix vk vi vt fsl fn fk) h 400 H hflt (by omega) (by omega)) rfl rfl rfl rfl rfl ?_
      rintro v h ⟨r, rfl, hr1, hr2, hr3⟩ g
      have H := g.hp H
      have b1 := g.keep l1 b1
      have l1 := g.lt l1
      repeat first | refine SpB.nil ?_ | refine SpB.move rfl rfl rfl rfl rfl ?_ | refine SpB.assign rfl rfl rfl rfl rfl ?_ | refine SpB.skip rfl rfl rfl ?_ | refine SpB.loadO H b1 rfl rfl rfl rfl rfl rfl ?_ | refine SpB.pure (v := .bool true) rfl rfl rfl rfl rfl ?_ | refine SpB.pure (v := .bool false) rfl rfl rfl rfl rfl ?_ | refine SpB.inc (i := i) (by omega) rfl rfl rfl rfl rfl ?_ | refine SpB.pureS rfl rfl rfl rfl rfl rfl ?_ | refine WpB.seq ?_ | refine WpB.region ?_ | refine WpB.draw ?_ | refine And.intro (fun hw => by have hw : false = true := hw; cases hw) ?_ | refine WpB.skip ?_
      refine WpB.cond rfl (fun ht => ?_) fun ht => ?_
      · repeat' first | refine SpB.nil ?_ | refine SpB.move rfl rfl rfl rfl rfl ?_ | refine SpB.assign rfl rfl rfl rfl rfl ?_ | refine SpB.skip rfl rfl rfl ?_ | refine SpB.loadO H b1 rfl rfl rfl rfl rfl rfl ?_ | refine SpB.pure (v := .bool true) rfl rfl rfl rfl rfl ?_ | refine SpB.pure (v := .bool false) rfl rfl rfl rfl rfl ?_ | refine SpB.boolN rfl rfl rfl rfl rfl rfl (fun ht => ?_) fun ht => ?_ | refine SpB.inc (i := i) (by omega) rfl rfl rfl rfl rfl ?_ | refine SpB.pureS rfl rfl rfl rfl rfl rfl ?_ | refine WpB.seq ?_ | refine WpB.region ?_ | refine WpB.draw ?_ | refine And.intro (fun hw => by have hw : false = true := hw; cases hw) ?_ | refine WpB.skip ?_ | refine WpB.condT rfl ?_ | refine WpB.condF rfl ?_ | refine WpB.cond rfl (fun ht => ?_) fun ht => ?_
        exact WpB.ret ⟨_, rfl, hfalse h⟩
      · have ht : r ≤ 400 := by simp at ht; omega
        repeat first | refine SpB.nil ?_ | refine SpB.move rfl rfl rfl rfl rfl ?_ | refine SpB.assign rfl rfl rfl rfl rfl ?_ | refine SpB.skip rfl rfl rfl ?_ | refine SpB.loadO H b1 rfl rfl rfl rfl rfl rfl ?_ | refine SpB.pure (v := .bool true) rfl rfl rfl rfl rfl ?_ | refine SpB.pure (v := .bool false) rfl rfl rfl rfl rfl ?_ | refine SpB.inc (i := i) (by omega) rfl rfl rfl rfl rfl ?_ | refine SpB.pureS rfl rfl rfl rfl rfl rfl ?_ | refine WpB.seq ?_ | refine WpB.region ?_ | refine WpB.draw ?_ | refine And.intro (fun hw => by have hw : false = true := hw; cases hw) ?_ | refine WpB.skip ?_
        obtain ⟨hr3, hr4⟩ := hr3 ht
        refine ⟨(by repeat first | exact sub_nil | refine sub_cons rfl ?_), ⟨H, b1, l1, c1, c2, c3, c4, ⟨by omega, hr4⟩⟩, rfl⟩
    · rintro h ⟨H, b1, l1, c1, c2, c3, c4, c5⟩
      repeat first | refine SpB.nil ?_ | refine SpB.move rfl rfl rfl rfl rfl ?_ | refine SpB.assign rfl rfl rfl rfl rfl ?_ | refine SpB.skip rfl rfl rfl ?_ | refine SpB.loadO H b1 rfl rfl rfl rfl rfl rfl ?_ | refine SpB.pure (v := .bool true) rfl rfl rfl rfl rfl ?_ | refine SpB.pure (v := .bool false) rfl rfl rfl rfl rfl ?_ | refine SpB.inc (i := i) (by omega) rfl rfl rfl rfl rfl ?_ | refine SpB.pureS rfl rfl rfl rfl rfl rfl ?_ | refine WpB.seq ?_ | refine WpB.region ?_ | refine WpB.draw ?_ | refine And.intro (fun hw => by have hw : false = true := hw; cases hw) ?_ | refine WpB.skip ?_
      refine WpB.cut1 [(2, .pointer (some ⟨N + h0.sz, 0, none⟩)), (1, .int .i64 (d : Int))] (fun h => Hp N rd h ∧ h.blk h0.sz = some (.cells (Pl.mk kd sc (.slice ca nc ccap) nc cols (.slice ka nk kcap) nk keys (.mk op tb nm ix vk vi vt fsl fn fk) (.slice aa na acap) na args).cells) ∧ h0.sz < h.sz ∧ ∀ j, j < nk → (keys j).tiny) ?_ ?_
      · refine WpB.block ?_
        refine WpB.loopC nk (fun i => [(5, .int .i64 (i : Int)), (2, .pointer (some ⟨N + h0.sz, 0, none⟩)), (1, .int .i64 (d : Int))]) (fun i h => Hp N rd h ∧ h.blk h0.sz = some (.cells (Pl.mk kd sc (.slice ca nc ccap) nc cols (.slice ka nk kcap) nk keys (.mk op tb nm ix vk vi vt fsl fn fk) (.slice aa na acap) na args).cells) ∧ h0.sz < h.sz ∧ ∀ j, j < i → (keys j).tiny)
          ⟨H, b1, l1, fun j hj => absurd hj (Nat.not_lt_zero _)⟩ (by repeat first | exact sub_nil | refine sub_cons rfl ?_) ?_
        rintro i h hi ⟨H, b1, l1, hj⟩
        refine WpB.seq (WpB.seq (WpB.region ?_))
        repeat first | refine SpB.nil ?_ | refine SpB.move rfl rfl rfl rfl rfl ?_ | refine SpB.assign rfl rfl rfl rfl rfl ?_ | refine SpB.skip rfl rfl rfl ?_ | refine SpB.loadO H b1 rfl rfl rfl rfl rfl rfl ?_ | refine SpB.pure (v := .bool true) rfl rfl rfl rfl rfl ?_ | refine SpB.pure (v := .bool false) rfl rfl rfl rfl rfl ?_ | refine SpB.inc (i := i) (by omega) rfl rfl rfl rfl rfl ?_ | refine SpB.pureS rfl rfl rfl rfl rfl rfl ?_ | refine WpB.seq ?_ | refine WpB.region ?_ | refine WpB.draw ?_ | refine And.intro (fun hw => by have hw : false = true := hw; cases hw) ?_ | refine WpB.skip ?_
        refine WpB.cond rfl (fun ht => ?_) fun ht => ?_
        · have hlt : i < nk := by simpa using ht
          obtain ⟨b, off, rfl, hc⟩ := hkx i hlt
          refine WpB.skip ?_
          refine WpB.seq (WpB.block ?_)
          repeat first | refine SpB.nil ?_ | refine SpB.move rfl rfl rfl rfl rfl ?_ | refine SpB.assign rfl rfl rfl rfl rfl ?_ | refine SpB.skip rfl rfl rfl ?_ | refine SpB.loadO H b1 rfl rfl rfl rfl rfl rfl ?_ | refine SpB.pure (v := .bool true) rfl rfl rfl rfl rfl ?_ | refine SpB.pure (v := .bool false) rfl rfl rfl rfl rfl ?_ | refine SpB.inc (i := i) (by omega) rfl rfl rfl rfl rfl ?_ | refine SpB.pureS rfl rfl rfl rfl rfl rfl ?_ | refine WpB.seq ?_ | refine WpB.region ?_ | refine WpB.draw ?_ | refine And.intro (fun hw => by have hw : false = true := hw; cases hw) ?_ | refine WpB.skip ?_
          refine SpB.indexN hlt rfl rfl rfl rfl rfl rfl rfl rfl rfl ?_
          refine SpB.loadR H hc rfl rfl rfl rfl rfl rfl rfl ?_
          refine SpB.callK Tryz.T1OK H (by omega) (nodes_ok (keys i) h 400 H (hkk i hlt) (by omega) (by omega)) rfl rfl rfl rfl rfl ?_
          rintro v h ⟨r, rfl, hr1, hr2, hr3⟩ g
          have H := g.hp H
          have b1 := g.keep l1 b1
          have l1 := g.lt l1
          repeat first | refine SpB.nil ?_ | refine SpB.move rfl rfl rfl rfl rfl ?_ | refine SpB.assign rfl rfl rfl rfl rfl ?_ | refine SpB.skip rfl rfl rfl ?_ | refine SpB.loadO H b1 rfl rfl rfl rfl rfl rfl ?_ | refine SpB.pure (v := .bool true) rfl rfl rfl rfl rfl ?_ | refine SpB.pure (v := .bool false) rfl rfl rfl rfl rfl ?_ | refine SpB.inc (i := i) (by omega) rfl rfl rfl rfl rfl ?_ | refine SpB.pureS rfl rfl rfl rfl rfl rfl ?_ | refine WpB.seq ?_ | refine WpB.region ?_ | refine WpB.draw ?_ | refine And.intro (fun hw => by have hw : false = true := hw; cases hw) ?_ | refine WpB.skip ?_
          refine WpB.cond rfl (fun ht2 => ?_) fun ht2 => ?_
          · repeat first | refine SpB.nil ?_ | refine SpB.move rfl rfl rfl rfl rfl ?_ | refine SpB.assign rfl rfl rfl rfl rfl ?_ | refine SpB.skip rfl rfl rfl ?_ | refine SpB.loadO H b1 rfl rfl rfl rfl rfl rfl ?_ | refine SpB.pure (v := .bool true) rfl rfl rfl rfl rfl ?_ | refine SpB.pure (v := .bool false) rfl rfl rfl rfl rfl ?_ | refine SpB.inc (i := i) (by omega) rfl rfl rfl rfl rfl ?_ | refine SpB.pureS rfl rfl rfl rfl rfl rfl ?_ | refine WpB.seq ?_ | refine WpB.region ?_ | refine WpB.draw ?_ | refine And.intro (fun hw => by have hw : false = true := hw; cases hw) ?_ | refine WpB.skip ?_
            exact WpB.ret ⟨_, rfl, hfalse h⟩
          · repeat first | refine SpB.nil ?_ | refine SpB.move rfl rfl rfl rfl rfl ?_ | refine SpB.assign rfl rfl rfl rfl rfl ?_ | refine SpB.skip rfl rfl rfl ?_ | refine SpB.loadO H b1 rfl rfl rfl rfl rfl rfl ?_ | refine SpB.pure (v := .bool true) rfl rfl rfl rfl rfl ?_ | refine SpB.pure (v := .bool false) rfl rfl rfl rfl rfl ?_ | refine SpB.inc (i := i) (by omega) rfl rfl rfl rfl rfl ?_ | refine SpB.pureS rfl rfl rfl rfl rfl rfl ?_ | refine WpB.seq ?_ | refine WpB.region ?_ | refine WpB.draw ?_ | refine And.intro (fun hw => by have hw : false = true := hw; cases hw) ?_ | refine WpB.skip ?_
            have ht2 : r ≤ 400 := by simp at ht2; omega
            refine ⟨hlt, (by repeat first | exact sub_nil | refine sub_cons rfl ?_), ⟨H, b1, l1, fun j hj1 => ?_⟩, rfl⟩
            by_cases e : j = i
            · subst e
              obtain ⟨hr3, hr4⟩ := hr3 ht2
              exact ⟨by omega, hr4⟩
            · exact hj j (by omega)
        · refine WpB.exit ?_
          have : ¬ i < nk := by simpa using ht
          refine ⟨(by repeat first | exact sub_nil | refine sub_cons rfl ?_), ⟨H, b1, l1, fun j hj1 => hj j (by omega)⟩, rfl⟩
      · rintro h ⟨H, b1, l1, c6⟩
        repeat first | refine SpB.nil ?_ | refine SpB.move rfl rfl rfl rfl rfl ?_ | refine SpB.assign rfl rfl rfl rfl rfl ?_ | refine SpB.skip rfl rfl rfl ?_ | refine SpB.loadO H b1 rfl rfl rfl rfl rfl rfl ?_ | refine SpB.pure (v := .bool true) rfl rfl rfl rfl rfl ?_ | refine SpB.pure (v := .bool false) rfl rfl rfl rfl rfl ?_ | refine SpB.inc (i := i) (by omega) rfl rfl rfl rfl rfl ?_ | refine SpB.pureS rfl rfl rfl rfl rfl rfl ?_ | refine WpB.seq ?_ | refine WpB.region ?_ | refine WpB.draw ?_ | refine And.intro (fun hw => by have hw : false = true := hw; cases hw) ?_ | refine WpB.skip ?_
        refine WpB.block ?_
        refine WpB.loopC na (fun i => [(6, .int .i64 (i : Int)), (2, .pointer (some ⟨N + h0.sz, 0, none⟩)), (1, .int .i64 (d : Int))]) (fun i h => Hp N rd h ∧ h.blk h0.sz = some (.cells (Pl.mk kd sc (.slice ca nc ccap) nc cols (.slice ka nk kcap) nk keys (.mk op tb nm ix vk vi vt fsl fn fk) (.slice aa na acap) na args).cells) ∧ h0.sz < h.sz ∧ ∀ j, j < i → (args j).few (d - 1))
          ⟨H, b1, l1, fun j hj => absurd hj (Nat.not_lt_zero _)⟩ (by repeat first | exact sub_nil | refine sub_cons rfl ?_) ?_
        rintro i h hi ⟨H, b1, l1, hj⟩
        refine WpB.seq (WpB.seq (WpB.region ?_))
        repeat first | refine SpB.nil ?_ | refine SpB.move rfl rfl rfl rfl rfl ?_ | refine SpB.assign rfl rfl rfl rfl rfl ?_ | refine SpB.skip rfl rfl rfl ?_ | refine SpB.loadO H b1 rfl rfl rfl rfl rfl rfl ?_ | refine SpB.pure (v := .bool true) rfl rfl rfl rfl rfl ?_ | refine SpB.pure (v := .bool false) rfl rfl rfl rfl rfl ?_ | refine SpB.inc (i := i) (by omega) rfl rfl rfl rfl rfl ?_ | refine SpB.pureS rfl rfl rfl rfl rfl rfl ?_ | refine WpB.seq ?_ | refine WpB.region ?_ | refine WpB.draw ?_ | refine And.intro (fun hw => by have hw : false = true := hw; cases hw) ?_ | refine WpB.skip ?_
        refine WpB.cond rfl (fun ht => ?_) fun ht => ?_
        · have hlt : i < na := by simpa using ht
          obtain ⟨b, off, rfl, hc⟩ := hax i hlt
          refine WpB.skip ?_
          refine WpB.seq (WpB.block ?_)
          repeat first | refine SpB.nil ?_ | refine SpB.move rfl rfl rfl rfl rfl ?_ | refine SpB.assign rfl rfl rfl rfl rfl ?_ | refine SpB.skip rfl rfl rfl ?_ | refine SpB.loadO H b1 rfl rfl rfl rfl rfl rfl ?_ | refine SpB.pure (v := .bool true) rfl rfl rfl rfl rfl ?_ | refine SpB.pure (v := .bool false) rfl rfl rfl rfl rfl ?_ | refine SpB.inc (i := i) (by omega) rfl rfl rfl rfl rfl ?_ | refine SpB.pureS rfl rfl rfl rfl rfl rfl ?_ | refine WpB.seq ?_ | refine WpB.region ?_ | refine WpB.draw ?_ | refine And.intro (fun hw => by have hw : false = true := hw; cases hw) ?_ | refine WpB.skip ?_
          refine SpB.indexN hlt rfl rfl rfl rfl rfl rfl rfl rfl rfl ?_
          refine SpB.loadR H hc rfl rfl rfl rfl rfl rfl rfl ?_
          repeat first | refine SpB.nil ?_ | refine SpB.move rfl rfl rfl rfl rfl ?_ | refine SpB.assign rfl rfl rfl rfl rfl ?_ | refine SpB.skip rfl rfl rfl ?_ | refine SpB.loadO H b1 rfl rfl rfl rfl rfl rfl ?_ | refine SpB.pure (v := .bool true) rfl rfl rfl rfl rfl ?_ | refine SpB.pure (v := .bool false) rfl rfl rfl rfl rfl ?_ | refine SpB.inc (i := i) (by omega) rfl rfl rfl rfl rfl ?_ | refine SpB.pureS rfl rfl rfl rfl rfl rfl ?_ | refine WpB.seq ?_ | refine WpB.region ?_ | refine WpB.draw ?_ | refine And.intro (fun hw => by have hw : false = true := hw; cases hw) ?_ | refine WpB.skip ?_
          have w3 : IntKind.i64.wrap ((d : Int) - 1) = ((d - 1 : Nat) : Int) := by rw [wrap_small (by omega) (by omega)]; omega
          have hcall := few35_ok (args i) h (d - 1) H (hak i hlt) (by omega)
          rw [← w3] at hcall
          refine SpB.callK Tryz.T1OK H (by omega) hcall rfl rfl rfl rfl rfl ?_
          rintro v h ⟨r, rfl, hr⟩ g
          have H := g.hp H
          have b1 := g.keep l1 b1
          have l1 := g.lt l1
          repeat first | refine SpB.nil ?_ | refine SpB.move rfl rfl rfl rfl rfl ?_ | refine SpB.assign rfl rfl rfl rfl rfl ?_ | refine SpB.skip rfl rfl rfl ?_ | refine SpB.loadO H b1 rfl rfl rfl rfl rfl rfl ?_ | refine SpB.pure (v := .bool true) rfl rfl rfl rfl rfl ?_ | refine SpB.pure (v := .bool false) rfl rfl rfl rfl rfl ?_ | refine SpB.inc (i := i) (by omega) rfl rfl rfl rfl rfl ?_ | refine SpB.pureS rfl rfl rfl rfl rfl rfl ?_ | refine WpB.seq ?_ | refine WpB.region ?_ | refine WpB.draw ?_ | refine And.intro (fun hw => by have hw : false = true := hw; cases hw) ?_ | refine WpB.skip ?_
          refine WpB.cond rfl (fun ht2 => ?_) fun ht2 => ?_
          · repeat first | refine SpB.nil ?_ | refine SpB.move rfl rfl rfl rfl rfl ?_ | refine SpB.assign rfl rfl rfl rfl rfl ?_ | refine SpB.skip rfl rfl rfl ?_ | refine SpB.loadO H b1 rfl rfl rfl rfl rfl rfl ?_ | refine SpB.pure (v := .bool true) rfl rfl rfl rfl rfl ?_ | refine SpB.pure (v := .bool false) rfl rfl rfl rfl rfl ?_ | refine SpB.inc (i := i) (by omega) rfl rfl rfl rfl rfl ?_ | refine SpB.pureS rfl rfl rfl rfl rfl rfl ?_ | refine WpB.seq ?_ | refine WpB.region ?_ | refine WpB.draw ?_ | refine And.intro (fun hw => by have hw : false = true := hw; cases hw) ?_ | refine WpB.skip ?_
            exact WpB.ret ⟨_, rfl, hfalse h⟩
          · repeat first | refine SpB.nil ?_ | refine SpB.move rfl rfl rfl rfl rfl ?_ | refine SpB.assign rfl rfl rfl rfl rfl ?_ | refine SpB.skip rfl rfl rfl ?_ | refine SpB.loadO H b1 rfl rfl rfl rfl rfl rfl ?_ | refine SpB.pure (v := .bool true) rfl rfl rfl rfl rfl ?_ | refine SpB.pure (v := .bool false) rfl rfl rfl rfl rfl ?_ | refine SpB.inc (i := i) (by omega) rfl rfl rfl rfl rfl ?_ | refine SpB.pureS rfl rfl rfl rfl rfl rfl ?_ | refine WpB.seq ?_ | refine WpB.region ?_ | refine WpB.draw ?_ | refine And.intro (fun hw => by have hw : false = true := hw; cases hw) ?_ | refine WpB.skip ?_
            refine ⟨hlt, (by repeat first | exact sub_nil | refine sub_cons rfl ?_), ⟨H, b1, l1, fun j hj1 => ?_⟩, rfl⟩
            by_cases e : j = i
            · subst e; exact hr (by simpa using ht2)
            · exact hj j (by omega)
        · refine WpB.exit ?_
          repeat first | refine SpB.nil ?_ | refine SpB.move rfl rfl rfl rfl rfl ?_ | refine SpB.assign rfl rfl rfl rfl rfl ?_ | refine SpB.skip rfl rfl rfl ?_ | refine SpB.loadO H b1 rfl rfl rfl rfl rfl rfl ?_ | refine SpB.pure (v := .bool true) rfl rfl rfl rfl rfl ?_ | refine SpB.pure (v := .bool false) rfl rfl rfl rfl rfl ?_ | refine SpB.inc (i := i) (by omega) rfl rfl rfl rfl rfl ?_ | refine SpB.pureS rfl rfl rfl rfl rfl rfl ?_ | refine WpB.seq ?_ | refine WpB.region ?_ | refine WpB.draw ?_ | refine And.intro (fun hw => by have hw : false = true := hw; cases hw) ?_ | refine WpB.skip ?_
          refine WpB.ret ⟨_, rfl, ⟨true, rfl, fun _ => ?_⟩, Nat.le_refl _⟩
          have : ¬ i < na := by simpa using ht
          obtain ⟨d, rfl⟩ : ∃ d', d = d' + 1 := ⟨d - 1, by omega⟩
          exact ⟨c2, c3, c4, c5, c6, fun j hj1 => hj j (by omega)⟩

end Go.Proofs.YtkjkcoemloakhaaGreat

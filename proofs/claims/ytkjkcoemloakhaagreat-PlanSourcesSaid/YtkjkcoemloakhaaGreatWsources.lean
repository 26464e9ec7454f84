/- Walks over plans (chapter 44): Sources, twice. -/
import Derived.Test.YtkjkcoemloakhaaGreatWfilters
set_option linter.unusedVariables false
namespace Go.Proofs.YtkjkcoemloakhaaGreat
open Go Go.Vae
set_option maxRecDepth 100000

def intsV (l : List Int) : List Value := l.map fun x => .int .i64 x

theorem srcs_kid {kd sc : Int} {csl : Value} {nc : Nat} {cols : Nat → Int} {ksl : Value} {nk : Nat} {keys : Nat → E} {flt : E} {asl : Value} {na : Nat} {args : Nat → Pl} (e : ¬ (kd = 1 ∨ kd = 2 ∨ kd = 3)) {i : Nat} (hi : i < na) {c : Nat} (hb : (Pl.mk kd sc csl nc cols ksl nk keys flt asl na args).srcs.length ≤ c) :
    (catTo (fun i => (args i).srcs) i).length + (args i).srcs.length ≤ c := by
  simp only [Pl.srcs, if_neg e, catTo_length] at hb
  have h1 := sumTo_mono (f := fun i => (args i).srcs.length) (i := i + 1) (n := na) hi
  rw [catTo_length]
  simp only [sumTo] at h1
  omega

theorem srcs15_ok {N : Nat} {rd : RO} : ∀ (p : Pl) (h : AH), Hp N rd h → p.At rd → p.srcs.length ≤ 1000000 → Kp TT 15 [.agg ⟨p.cells⟩] h fun v h' => Own h' h.sz 1 v p.srcs.length (intsV p.srcs)
  | .nil, h, _, he, _ => he.elim
  | .mk kd sc csl nc cols ksl nk keys .nil asl na args, h, _, he, _ => he.2.2.2.1.elim
  | .mk kd sc csl nc cols ksl nk keys (.mk op tb nm ix vk vi vt fsl fn fk) asl na args, h0, H, he, hb => by
    obtain ⟨⟨_, _, hnc, hnk, hna⟩, ⟨⟨ca, ccap, rfl, _, _, _⟩, _⟩, ⟨⟨ka, kcap, rfl, _, _, hkx⟩, hkk⟩, hflt, ⟨aa, acap, rfl, _, _, hax⟩, hak⟩ := he
    have hreach : reachBytes < 2 ^ 47 := by decide
    refine Kp.of (fi := Tryz.fi15) rfl rfl rfl ?_
    refine WpB.seq (WpB.region ?_)
    refine SpB.box H rfl rfl rfl rfl rfl rfl fun h g s1 b1 => ?_
    have H := g.hp H
    have l1 : h0.sz < h.sz := by omega
    clear g s1
    refine SpB.assign rfl rfl rfl rfl rfl (SpB.nil ?_)
    refine WpB.cut [(1, .pointer (some ⟨N + h0.sz, 0, none⟩))] (fun h' => h' = h ∧ ¬ (kd = 1 ∨ kd = 2 ∨ kd = 3)) ?_ ?_
    · by_cases e : kd = 1 ∨ kd = 2 ∨ kd = 3
      · have hsrc : (Pl.mk kd sc (.slice ca nc ccap) nc cols (.slice ka nk kcap) nk keys (.mk op tb nm ix vk vi vt fsl fn fk) (.slice aa na acap) na args).srcs = [sc] := by simp only [Pl.srcs, if_pos e]
        rw [hsrc]
        rcases e with rfl | rfl | rfl
        all_goals
          repeat first | refine SpB.nil ?_ | refine SpB.move rfl rfl rfl rfl rfl ?_ | refine SpB.assign rfl rfl rfl rfl rfl ?_ | refine SpB.skip rfl rfl rfl ?_ | refine SpB.loadO H b1 rfl rfl rfl rfl rfl rfl ?_ | refine SpB.pure (v := .bool true) rfl rfl rfl rfl rfl ?_ | refine SpB.pure (v := .bool false) rfl rfl rfl rfl rfl ?_ | refine SpB.inc (i := i) (by omega) rfl rfl rfl rfl rfl ?_ | refine SpB.pureS rfl rfl rfl rfl rfl rfl ?_ | refine WpB.seq ?_ | refine WpB.region ?_ | refine WpB.draw ?_ | refine And.intro (fun hw => by have hw : false = true := hw; cases hw) ?_ | refine WpB.skip ?_
          refine WpB.block ?_
          repeat' first | refine SpB.nil ?_ | refine SpB.move rfl rfl rfl rfl rfl ?_ | refine SpB.assign rfl rfl rfl rfl rfl ?_ | refine SpB.skip rfl rfl rfl ?_ | refine SpB.loadO H b1 rfl rfl rfl rfl rfl rfl ?_ | refine SpB.pure (v := .bool true) rfl rfl rfl rfl rfl ?_ | refine SpB.pure (v := .bool false) rfl rfl rfl rfl rfl ?_ | refine SpB.boolN rfl rfl rfl rfl rfl rfl (fun ht => ?_) fun ht => ?_ | refine SpB.inc (i := i) (by omega) rfl rfl rfl rfl rfl ?_ | refine SpB.pureS rfl rfl rfl rfl rfl rfl ?_ | refine WpB.seq ?_ | refine WpB.region ?_ | refine WpB.draw ?_ | refine And.intro (fun hw => by have hw : false = true := hw; cases hw) ?_ | refine WpB.skip ?_ | refine WpB.condT rfl ?_ | refine WpB.condF rfl ?_ | refine WpB.cond rfl (fun ht => ?_) fun ht => ?_
          refine SpB.newS H rfl rfl rfl rfl rfl fun h' g s2 b2 => ?_
          repeat first | refine SpB.nil ?_ | refine SpB.move rfl rfl rfl rfl rfl ?_ | refine SpB.assign rfl rfl rfl rfl rfl ?_ | refine SpB.skip rfl rfl rfl ?_ | refine SpB.loadO H b1 rfl rfl rfl rfl rfl rfl ?_ | refine SpB.pure (v := .bool true) rfl rfl rfl rfl rfl ?_ | refine SpB.pure (v := .bool false) rfl rfl rfl rfl rfl ?_ | refine SpB.inc (i := i) (by omega) rfl rfl rfl rfl rfl ?_ | refine SpB.pureS rfl rfl rfl rfl rfl rfl ?_ | refine WpB.seq ?_ | refine WpB.region ?_ | refine WpB.draw ?_ | refine And.intro (fun hw => by have hw : false = true := hw; cases hw) ?_ | refine WpB.skip ?_
          refine WpB.ret ⟨_, rfl, .inr ⟨h.sz, 1, by omega, by omega, by rw [g.n, H.n]; rfl, b2, rfl, .inr ⟨rfl, by show 1 < unk; decide⟩⟩, Nat.le_refl _⟩
      · have e1 : ¬ kd = 1 := fun h => e (.inl h)
        have e2 : ¬ kd = 2 := fun h => e (.inr (.inl h))
        have e3 : ¬ kd = 3 := fun h => e (.inr (.inr h))
        repeat first | refine SpB.nil ?_ | refine SpB.move rfl rfl rfl rfl rfl ?_ | refine SpB.assign rfl rfl rfl rfl rfl ?_ | refine SpB.skip rfl rfl rfl ?_ | refine SpB.loadO H b1 rfl rfl rfl rfl rfl rfl ?_ | refine SpB.pure (v := .bool true) rfl rfl rfl rfl rfl ?_ | refine SpB.pure (v := .bool false) rfl rfl rfl rfl rfl ?_ | refine SpB.inc (i := i) (by omega) rfl rfl rfl rfl rfl ?_ | refine SpB.pureS rfl rfl rfl rfl rfl rfl ?_ | refine WpB.seq ?_ | refine WpB.region ?_ | refine WpB.draw ?_ | refine And.intro (fun hw => by have hw : false = true := hw; cases hw) ?_ | refine WpB.skip ?_
        refine WpB.block ?_
        repeat first | refine WpB.seq ?_ | refine WpB.region ?_
        refine SpB.boolF (by simp [e1]) rfl rfl rfl rfl rfl ?_
        repeat first | refine SpB.nil ?_ | refine SpB.move rfl rfl rfl rfl rfl ?_ | refine SpB.assign rfl rfl rfl rfl rfl ?_ | refine SpB.skip rfl rfl rfl ?_ | refine SpB.loadO H b1 rfl rfl rfl rfl rfl rfl ?_ | refine SpB.pure (v := .bool true) rfl rfl rfl rfl rfl ?_ | refine SpB.pure (v := .bool false) rfl rfl rfl rfl rfl ?_ | refine SpB.inc (i := i) (by omega) rfl rfl rfl rfl rfl ?_ | refine SpB.pureS rfl rfl rfl rfl rfl rfl ?_ | refine WpB.seq ?_ | refine WpB.region ?_ | refine WpB.draw ?_ | refine And.intro (fun hw => by have hw : false = true := hw; cases hw) ?_ | refine WpB.skip ?_
        refine WpB.condF rfl ?_
        repeat first | refine WpB.seq ?_ | refine WpB.region ?_
        refine SpB.boolF (by simp [e2]) rfl rfl rfl rfl rfl ?_
        repeat first | refine SpB.nil ?_ | refine SpB.move rfl rfl rfl rfl rfl ?_ | refine SpB.assign rfl rfl rfl rfl rfl ?_ | refine SpB.skip rfl rfl rfl ?_ | refine SpB.loadO H b1 rfl rfl rfl rfl rfl rfl ?_ | refine SpB.pure (v := .bool true) rfl rfl rfl rfl rfl ?_ | refine SpB.pure (v := .bool false) rfl rfl rfl rfl rfl ?_ | refine SpB.inc (i := i) (by omega) rfl rfl rfl rfl rfl ?_ | refine SpB.pureS rfl rfl rfl rfl rfl rfl ?_ | refine WpB.seq ?_ | refine WpB.region ?_ | refine WpB.draw ?_ | refine And.intro (fun hw => by have hw : false = true := hw; cases hw) ?_ | refine WpB.skip ?_
        refine WpB.condF rfl ?_
        repeat first | refine WpB.seq ?_ | refine WpB.region ?_
        refine SpB.boolF (by simp [e3]) rfl rfl rfl rfl rfl ?_
        repeat' first | refine SpB.nil ?_ | refine SpB.move rfl rfl rfl rfl rfl ?_ | refine SpB.assign rfl rfl rfl rfl rfl ?_ | refine SpB.skip rfl rfl rfl ?_ | refine SpB.loadO H b1 rfl rfl rfl rfl rfl rfl ?_ | refine SpB.pure (v := .bool true) rfl rfl rfl rfl rfl ?_ | refine SpB.pure (v := .bool false) rfl rfl rfl rfl rfl ?_ | refine SpB.boolN rfl rfl rfl rfl rfl rfl (fun ht => ?_) fun ht => ?_ | refine SpB.inc (i := i) (by omega) rfl rfl rfl rfl rfl ?_ | refine SpB.pureS rfl rfl rfl rfl rfl rfl ?_ | refine WpB.seq ?_ | refine WpB.region ?_ | refine WpB.draw ?_ | refine And.intro (fun hw => by have hw : false = true := hw; cases hw) ?_ | refine WpB.skip ?_ | refine WpB.condT rfl ?_ | refine WpB.condF rfl ?_ | refine WpB.cond rfl (fun ht => ?_) fun ht => ?_
        exact ⟨(by repeat first | exact sub_nil | refine sub_cons rfl ?_), ⟨rfl, e⟩, rfl⟩
    · rintro _ ⟨rfl, e⟩
      have hsrc : (Pl.mk kd sc (.slice ca nc ccap) nc cols (.slice ka nk kcap) nk keys (.mk op tb nm ix vk vi vt fsl fn fk) (.slice aa na acap) na args).srcs = catTo (fun i => (args i).srcs) na := by simp only [Pl.srcs, if_neg e]
      repeat first | refine SpB.nil ?_ | refine SpB.move rfl rfl rfl rfl rfl ?_ | refine SpB.assign rfl rfl rfl rfl rfl ?_ | refine SpB.skip rfl rfl rfl ?_ | refine SpB.loadO H b1 rfl rfl rfl rfl rfl rfl ?_ | refine SpB.pure (v := .bool true) rfl rfl rfl rfl rfl ?_ | refine SpB.pure (v := .bool false) rfl rfl rfl rfl rfl ?_ | refine SpB.inc (i := i) (by omega) rfl rfl rfl rfl rfl ?_ | refine SpB.pureS rfl rfl rfl rfl rfl rfl ?_ | refine WpB.seq ?_ | refine WpB.region ?_ | refine WpB.draw ?_ | refine And.intro (fun hw => by have hw : false = true := hw; cases hw) ?_ | refine WpB.skip ?_
      refine WpB.block ?_
      refine WpB.loopS (σ := Nat × Value) (fun s => na - s.1) (fun s => [(4, .int .i64 (s.1 : Int)), (3, s.2), (1, .pointer (some ⟨N + h0.sz, 0, none⟩))])
        (fun s h => Hp N rd h ∧ h.blk h0.sz = some (.cells (Pl.mk kd sc (.slice ca nc ccap) nc cols (.slice ka nk kcap) nk keys (.mk op tb nm ix vk vi vt fsl fn fk) (.slice aa na acap) na args).cells) ∧ h0.sz < h.sz ∧ s.1 ≤ na ∧
          Own h (h0.sz + 1) 1 s.2 (catTo (fun i => (args i).srcs) s.1).length (intsV (catTo (fun i => (args i).srcs) s.1))) (0, .slice none 0 0)
        ⟨H, b1, l1, Nat.zero_le _, Own.nil _ _ _⟩ (by repeat first | exact sub_nil | refine sub_cons rfl ?_) ?_
      rintro ⟨i, v⟩ h ⟨H, b1, l1, hi, o1⟩
      simp only at hi o1
      refine WpB.seq (WpB.seq (WpB.region ?_))
      repeat first | refine SpB.nil ?_ | refine SpB.move rfl rfl rfl rfl rfl ?_ | refine SpB.assign rfl rfl rfl rfl rfl ?_ | refine SpB.skip rfl rfl rfl ?_ | refine SpB.loadO H b1 rfl rfl rfl rfl rfl rfl ?_ | refine SpB.pure (v := .bool true) rfl rfl rfl rfl rfl ?_ | refine SpB.pure (v := .bool false) rfl rfl rfl rfl rfl ?_ | refine SpB.inc (i := i) (by omega) rfl rfl rfl rfl rfl ?_ | refine SpB.pureS rfl rfl rfl rfl rfl rfl ?_ | refine WpB.seq ?_ | refine WpB.region ?_ | refine WpB.draw ?_ | refine And.intro (fun hw => by have hw : false = true := hw; cases hw) ?_ | refine WpB.skip ?_
      refine WpB.cond rfl (fun ht => ?_) fun ht => ?_
      · have hlt : i < na := by simpa using ht
        have hkid := srcs_kid e hlt hb
        obtain ⟨b, off, rfl, hc⟩ := hax i hlt
        refine WpB.skip ?_
        refine WpB.seq (WpB.block ?_)
        repeat first | refine SpB.nil ?_ | refine SpB.move rfl rfl rfl rfl rfl ?_ | refine SpB.assign rfl rfl rfl rfl rfl ?_ | refine SpB.skip rfl rfl rfl ?_ | refine SpB.loadO H b1 rfl rfl rfl rfl rfl rfl ?_ | refine SpB.pure (v := .bool true) rfl rfl rfl rfl rfl ?_ | refine SpB.pure (v := .bool false) rfl rfl rfl rfl rfl ?_ | refine SpB.inc (i := i) (by omega) rfl rfl rfl rfl rfl ?_ | refine SpB.pureS rfl rfl rfl rfl rfl rfl ?_ | refine WpB.seq ?_ | refine WpB.region ?_ | refine WpB.draw ?_ | refine And.intro (fun hw => by have hw : false = true := hw; cases hw) ?_ | refine WpB.skip ?_
        refine SpB.indexN hlt rfl rfl rfl rfl rfl rfl rfl rfl rfl ?_
        refine SpB.loadR H hc rfl rfl rfl rfl rfl rfl rfl ?_
        refine SpB.callK Tryz.T1OK H (by omega) (srcs15_ok (args i) h H (hak i hlt) (by omega)) rfl rfl rfl rfl rfl ?_
        intro v2 h2 o2 g
        have H := g.hp H
        have b1 := g.keep l1 b1
        have l2 := g.le
        have o1 := o1.grow g (Nat.le_refl _)
        refine SpB.append H o1 o2.src (by simp [intsV]) (by omega) (by omega) (show _ * 8 ≤ _ by omega) rfl rfl rfl rfl rfl rfl rfl rfl rfl rfl rfl rfl rfl rfl ?_
        intro v3 h3 acc o3 g3
        have H := g3.hp H
        have b1 := g3.keepL (by omega) (by omega) b1
        have l3 := g3.le
        repeat first | refine SpB.nil ?_ | refine SpB.move rfl rfl rfl rfl rfl ?_ | refine SpB.assign rfl rfl rfl rfl rfl ?_ | refine SpB.skip rfl rfl rfl ?_ | refine SpB.loadO H b1 rfl rfl rfl rfl rfl rfl ?_ | refine SpB.pure (v := .bool true) rfl rfl rfl rfl rfl ?_ | refine SpB.pure (v := .bool false) rfl rfl rfl rfl rfl ?_ | refine SpB.inc (i := i) (by omega) rfl rfl rfl rfl rfl ?_ | refine SpB.pureS rfl rfl rfl rfl rfl rfl ?_ | refine WpB.seq ?_ | refine WpB.region ?_ | refine WpB.draw ?_ | refine And.intro (fun hw => by have hw : false = true := hw; cases hw) ?_ | refine WpB.skip ?_
        refine ⟨(i + 1, v3), by show na - (i + 1) < na - i; omega, (by repeat first | exact sub_nil | refine sub_cons rfl ?_), ⟨H, b1, by omega, hlt, ?_⟩, rfl⟩
        show Own h3 (h0.sz + 1) 1 v3 (catTo (fun i => (args i).srcs) i ++ (args i).srcs).length (intsV (catTo (fun i => (args i).srcs) i ++ (args i).srcs))
        rw [List.length_append, intsV, List.map_append]
        exact o3
      · refine WpB.exit ?_
        have : ¬ i < na := by simpa using ht
        obtain rfl : i = na := by omega
        repeat first | refine SpB.nil ?_ | refine SpB.move rfl rfl rfl rfl rfl ?_ | refine SpB.assign rfl rfl rfl rfl rfl ?_ | refine SpB.skip rfl rfl rfl ?_ | refine SpB.loadO H b1 rfl rfl rfl rfl rfl rfl ?_ | refine SpB.pure (v := .bool true) rfl rfl rfl rfl rfl ?_ | refine SpB.pure (v := .bool false) rfl rfl rfl rfl rfl ?_ | refine SpB.inc (i := i) (by omega) rfl rfl rfl rfl rfl ?_ | refine SpB.pureS rfl rfl rfl rfl rfl rfl ?_ | refine WpB.seq ?_ | refine WpB.region ?_ | refine WpB.draw ?_ | refine And.intro (fun hw => by have hw : false = true := hw; cases hw) ?_ | refine WpB.skip ?_
        refine WpB.ret ⟨_, res1 rfl o1.one, ?_, Nat.le_refl _⟩
        rw [hsrc]
        exact o1.low (by omega)

theorem srcs14_ok {N : Nat} {rd : RO} : ∀ (p : Pl) (h : AH), Hp N rd h → p.At rd → p.srcs.length ≤ 1000000 → Kp TT 14 [.agg ⟨p.cells⟩] h fun v h' => Own h' h.sz 1 v p.srcs.length (intsV p.srcs)
  | .nil, h, _, he, _ => he.elim
  | .mk kd sc csl nc cols ksl nk keys .nil asl na args, h, _, he, _ => he.2.2.2.1.elim
  | .mk kd sc csl nc cols ksl nk keys (.mk op tb nm ix vk vi vt fsl fn fk) asl na args, h0, H, he, hb => by
    obtain ⟨⟨_, _, hnc, hnk, hna⟩, ⟨⟨ca, ccap, rfl, _, _, _⟩, _⟩, ⟨⟨ka, kcap, rfl, _, _, hkx⟩, hkk⟩, hflt, ⟨aa, acap, rfl, _, _, hax⟩, hak⟩ := he
    have hreach : reachBytes < 2 ^ 47 := by decide
    refine Kp.of (fi := Tryz.fi14) rfl rfl rfl ?_
    refine WpB.seq (WpB.region ?_)
    refine SpB.box H rfl rfl rfl rfl rfl rfl fun h g s1 b1 => ?_
    have H := g.hp H
    have l1 : h0.sz < h.sz := by omega
    clear g s1
    refine SpB.assign rfl rfl rfl rfl rfl (SpB.nil ?_)
    refine WpB.cut [(1, .pointer (some ⟨N + h0.sz, 0, none⟩))] (fun h' => h' = h ∧ ¬ (kd = 1 ∨ kd = 2 ∨ kd = 3)) ?_ ?_
    · by_cases e : kd = 1 ∨ kd = 2 ∨ kd = 3
      · have hsrc : (Pl.mk kd sc (.slice ca nc ccap) nc cols (.slice ka nk kcap) nk keys (.mk op tb nm ix vk vi vt fsl fn fk) (.slice aa na acap) na args).srcs = [sc] := by simp only [Pl.srcs, if_pos e]
        rw [hsrc]
        rcases e with rfl | rfl | rfl
        all_goals
          repeat first | refine SpB.nil ?_ | refine SpB.move rfl rfl rfl rfl rfl ?_ | refine SpB.assign rfl rfl rfl rfl rfl ?_ | refine SpB.skip rfl rfl rfl ?_ | refine SpB.loadO H b1 rfl rfl rfl rfl rfl rfl ?_ | refine SpB.pure (v := .bool true) rfl rfl rfl rfl rfl ?_ | refine SpB.pure (v := .bool false) rfl rfl rfl rfl rfl ?_ | refine SpB.inc (i := i) (by omega) rfl rfl rfl rfl rfl ?_ | refine SpB.pureS rfl rfl rfl rfl rfl rfl ?_ | refine WpB.seq ?_ | refine WpB.region ?_ | refine WpB.draw ?_ | refine And.intro (fun hw => by have hw : false = true := hw; cases hw) ?_ | refine WpB.skip ?_
          refine WpB.block ?_
          repeat' first | refine SpB.nil ?_ | refine SpB.move rfl rfl rfl rfl rfl ?_ | refine SpB.assign rfl rfl rfl rfl rfl ?_ | refine SpB.skip rfl rfl rfl ?_ | refine SpB.loadO H b1 rfl rfl rfl rfl rfl rfl ?_ | refine SpB.pure (v := .bool true) rfl rfl rfl rfl rfl ?_ | refine SpB.pure (v := .bool false) rfl rfl rfl rfl rfl ?_ | refine SpB.boolN rfl rfl rfl rfl rfl rfl (fun ht => ?_) fun ht => ?_ | refine SpB.inc (i := i) (by omega) rfl rfl rfl rfl rfl ?_ | refine SpB.pureS rfl rfl rfl rfl rfl rfl ?_ | refine WpB.seq ?_ | refine WpB.region ?_ | refine WpB.draw ?_ | refine And.intro (fun hw => by have hw : false = true := hw; cases hw) ?_ | refine WpB.skip ?_ | refine WpB.condT rfl ?_ | refine WpB.condF rfl ?_ | refine WpB.cond rfl (fun ht => ?_) fun ht => ?_
          refine SpB.newS H rfl rfl rfl rfl rfl fun h' g s2 b2 => ?_
          repeat first | refine SpB.nil ?_ | refine SpB.move rfl rfl rfl rfl rfl ?_ | refine SpB.assign rfl rfl rfl rfl rfl ?_ | refine SpB.skip rfl rfl rfl ?_ | refine SpB.loadO H b1 rfl rfl rfl rfl rfl rfl ?_ | refine SpB.pure (v := .bool true) rfl rfl rfl rfl rfl ?_ | refine SpB.pure (v := .bool false) rfl rfl rfl rfl rfl ?_ | refine SpB.inc (i := i) (by omega) rfl rfl rfl rfl rfl ?_ | refine SpB.pureS rfl rfl rfl rfl rfl rfl ?_ | refine WpB.seq ?_ | refine WpB.region ?_ | refine WpB.draw ?_ | refine And.intro (fun hw => by have hw : false = true := hw; cases hw) ?_ | refine WpB.skip ?_
          refine WpB.ret ⟨_, rfl, .inr ⟨h.sz, 1, by omega, by omega, by rw [g.n, H.n]; rfl, b2, rfl, .inr ⟨rfl, by show 1 < unk; decide⟩⟩, Nat.le_refl _⟩
      · have e1 : ¬ kd = 1 := fun h => e (.inl h)
        have e2 : ¬ kd = 2 := fun h => e (.inr (.inl h))
        have e3 : ¬ kd = 3 := fun h => e (.inr (.inr h))
        repeat first | refine SpB.nil ?_ | refine SpB.move rfl rfl rfl rfl rfl ?_ | refine SpB.assign rfl rfl rfl rfl rfl ?_ | refine SpB.skip rfl rfl rfl ?_ | refine SpB.loadO H b1 rfl rfl rfl rfl rfl rfl ?_ | refine SpB.pure (v := .bool true) rfl rfl rfl rfl rfl ?_ | refine SpB.pure (v := .bool false) rfl rfl rfl rfl rfl ?_ | refine SpB.inc (i := i) (by omega) rfl rfl rfl rfl rfl ?_ | refine SpB.pureS rfl rfl rfl rfl rfl rfl ?_ | refine WpB.seq ?_ | refine WpB.region ?_ | refine WpB.draw ?_ | refine And.intro (fun hw => by have hw : false = true := hw; cases hw) ?_ | refine WpB.skip ?_
        refine WpB.block ?_
        repeat first | refine WpB.seq ?_ | refine WpB.region ?_
        refine SpB.boolF (by simp [e1]) rfl rfl rfl rfl rfl ?_
        repeat first | refine SpB.nil ?_ | refine SpB.move rfl rfl rfl rfl rfl ?_ | refine SpB.assign rfl rfl rfl rfl rfl ?_ | refine SpB.skip rfl rfl rfl ?_ | refine SpB.loadO H b1 rfl rfl rfl rfl rfl rfl ?_ | refine SpB.pure (v := .bool true) rfl rfl rfl rfl rfl ?_ | refine SpB.pure (v := .bool false) rfl rfl rfl rfl rfl ?_ | refine SpB.inc (i := i) (by omega) rfl rfl rfl rfl rfl ?_ | refine SpB.pureS rfl rfl rfl rfl rfl rfl ?_ | refine WpB.seq ?_ | refine WpB.region ?_ | refine WpB.draw ?_ | refine And.intro (fun hw => by have hw : false = true := hw; cases hw) ?_ | refine WpB.skip ?_
        refine WpB.condF rfl ?_
        repeat first | refine WpB.seq ?_ | refine WpB.region ?_
        refine SpB.boolF (by simp [e2]) rfl rfl rfl rfl rfl ?_
        repeat first | refine SpB.nil ?_ | refine SpB.move rfl rfl rfl rfl rfl ?_ | refine SpB.assign rfl rfl rfl rfl rfl ?_ | refine SpB.skip rfl rfl rfl ?_ | refine SpB.loadO H b1 rfl rfl rfl rfl rfl rfl ?_ | refine SpB.pure (v := .bool true) rfl rfl rfl rfl rfl ?_ | refine SpB.pure (v := .bool false) rfl rfl rfl rfl rfl ?_ | refine SpB.inc (i := i) (by omega) rfl rfl rfl rfl rfl ?_ | refine SpB.pureS rfl rfl rfl rfl rfl rfl ?_ | refine WpB.seq ?_ | refine WpB.region ?_ | refine WpB.draw ?_ | refine And.intro (fun hw => by have hw : false = true := hw; cases hw) ?_ | refine WpB.skip ?_
        refine WpB.condF rfl ?_
        repeat first | refine WpB.seq ?_ | refine WpB.region ?_
        refine SpB.boolF (by simp [e3]) rfl rfl rfl rfl rfl ?_
        repeat' first | refine SpB.nil ?_ | refine SpB.move rfl rfl rfl rfl rfl ?_ | refine SpB.assign rfl rfl rfl rfl rfl ?_ | refine SpB.skip rfl rfl rfl ?_ | refine SpB.loadO H b1 rfl rfl rfl rfl rfl rfl ?_ | refine SpB.pure (v := .bool true) rfl rfl rfl rfl rfl ?_ | refine SpB.pure (v := .bool false) rfl rfl rfl rfl rfl ?_ | refine SpB.boolN rfl rfl rfl rfl rfl rfl (fun ht => ?_) fun ht => ?_ | refine SpB.inc (i := i) (by omega) rfl rfl rfl rfl rfl ?_ | refine SpB.pureS rfl rfl rfl rfl rfl rfl ?_ | refine WpB.seq ?_ | refine WpB.region ?_ | refine WpB.draw ?_ | refine And.intro (fun hw => by have hw : false = true := hw; cases hw) ?_ | refine WpB.skip ?_ | refine WpB.condT rfl ?_ | refine WpB.condF rfl ?_ | refine WpB.cond rfl (fun ht => ?_) fun ht => ?_
        exact ⟨(by repeat first | exact sub_nil | refine sub_cons rfl ?_), ⟨rfl, e⟩, rfl⟩
    · rintro _ ⟨rfl, e⟩
      have hsrc : (Pl.mk kd sc (.slice ca nc ccap) nc cols (.slice ka nk kcap) nk keys (.mk op tb nm ix vk vi vt fsl fn fk) (.slice aa na acap) na args).srcs = catTo (fun i => (args i).srcs) na := by simp only [Pl.srcs, if_neg e]
      repeat first | refine SpB.nil ?_ | refine SpB.move rfl rfl rfl rfl rfl ?_ | refine SpB.assign rfl rfl rfl rfl rfl ?_ | refine SpB.skip rfl rfl rfl ?_ | refine SpB.loadO H b1 rfl rfl rfl rfl rfl rfl ?_ | refine SpB.pure (v := .bool true) rfl rfl rfl rfl rfl ?_ | refine SpB.pure (v := .bool false) rfl rfl rfl rfl rfl ?_ | refine SpB.inc (i := i) (by omega) rfl rfl rfl rfl rfl ?_ | refine SpB.pureS rfl rfl rfl rfl rfl rfl ?_ | refine WpB.seq ?_ | refine WpB.region ?_ | refine WpB.draw ?_ | refine And.intro (fun hw => by have hw : false = true := hw; cases hw) ?_ | refine WpB.skip ?_
      refine WpB.block ?_
      refine WpB.loopS (σ := Nat × Value) (fun s => na - s.1) (fun s => [(18, .int .i64 (s.1 : Int)), (17, .int .i64 (na : Int)), (16, .slice aa na acap), (3, s.2), (1, .pointer (some ⟨N + h0.sz, 0, none⟩))])
        (fun s h => Hp N rd h ∧ h.blk h0.sz = some (.cells (Pl.mk kd sc (.slice ca nc ccap) nc cols (.slice ka nk kcap) nk keys (.mk op tb nm ix vk vi vt fsl fn fk) (.slice aa na acap) na args).cells) ∧ h0.sz < h.sz ∧ s.1 ≤ na ∧
          Own h (h0.sz + 1) 1 s.2 (catTo (fun i => (args i).srcs) s.1).length (intsV (catTo (fun i => (args i).srcs) s.1))) (0, .slice none 0 0)
        ⟨H, b1, l1, Nat.zero_le _, Own.nil _ _ _⟩ (by repeat first | exact sub_nil | refine sub_cons rfl ?_) ?_
      rintro ⟨i, v⟩ h ⟨H, b1, l1, hi, o1⟩
      simp only at hi o1
      repeat first | refine SpB.nil ?_ | refine SpB.move rfl rfl rfl rfl rfl ?_ | refine SpB.assign rfl rfl rfl rfl rfl ?_ | refine SpB.skip rfl rfl rfl ?_ | refine SpB.loadO H b1 rfl rfl rfl rfl rfl rfl ?_ | refine SpB.pure (v := .bool true) rfl rfl rfl rfl rfl ?_ | refine SpB.pure (v := .bool false) rfl rfl rfl rfl rfl ?_ | refine SpB.inc (i := i) (by omega) rfl rfl rfl rfl rfl ?_ | refine SpB.pureS rfl rfl rfl rfl rfl rfl ?_ | refine WpB.seq ?_ | refine WpB.region ?_ | refine WpB.draw ?_ | refine And.intro (fun hw => by have hw : false = true := hw; cases hw) ?_ | refine WpB.skip ?_
      refine WpB.cond rfl (fun ht => ?_) fun ht => ?_
      · have hlt : i < na := by simpa using ht
        have hkid := srcs_kid e hlt hb
        obtain ⟨b, off, rfl, hc⟩ := hax i hlt
        cases hak' : args i with
        | nil => exact absurd (hak i hlt) (by rw [hak']; exact id)
        | mk kd2 sc2 csl2 nc2 cols2 ksl2 nk2 keys2 flt2 asl2 na2 args2 =>
          cases flt2 with
          | nil => exact absurd (hak i hlt) (by rw [hak']; exact fun h => h.2.2.2.1)
          | mk op2 tb2 nm2 ix2 vk2 vi2 vt2 fsl2 fn2 fk2 =>
            have hcall := fun (h : AH) (H : Hp N rd h) => srcs14_ok (args i) h H (hak i hlt) (by omega)
            rw [hak'] at hc
            simp only [hak'] at hcall
            refine WpB.skip ?_
            refine WpB.seq (WpB.block ?_)
            repeat first | refine WpB.seq ?_ | refine WpB.region ?_
            refine SpB.indexN hlt rfl rfl rfl rfl rfl rfl rfl rfl rfl ?_
            refine SpB.loadR H hc rfl rfl rfl rfl rfl rfl rfl ?_
            refine SpB.alloc H rfl rfl rfl rfl rfl fun h2 g s2 b2 => ?_
            have H := g.hp H
            have b1 := g.keep l1 b1
            refine SpB.storeO H b2 (by omega) (by omega) rfl rfl rfl rfl rfl rfl rfl rfl rfl fun h3 g3 s3 b3 f3 => ?_
            have H := g3.hp H
            have b1 := (f3 h0.sz (by omega)).trans b1
            have o1 := o1.grow (g.trans g3) (by simp)
            repeat first | refine SpB.nil ?_ | refine SpB.move rfl rfl rfl rfl rfl ?_ | refine SpB.assign rfl rfl rfl rfl rfl ?_ | refine SpB.skip rfl rfl rfl ?_ | refine SpB.loadO H b1 rfl rfl rfl rfl rfl rfl ?_ | refine SpB.pure (v := .bool true) rfl rfl rfl rfl rfl ?_ | refine SpB.pure (v := .bool false) rfl rfl rfl rfl rfl ?_ | refine SpB.inc (i := i) (by omega) rfl rfl rfl rfl rfl ?_ | refine SpB.pureS rfl rfl rfl rfl rfl rfl ?_ | refine WpB.seq ?_ | refine WpB.region ?_ | refine WpB.draw ?_ | refine And.intro (fun hw => by have hw : false = true := hw; cases hw) ?_ | refine WpB.skip ?_
            refine SpB.loadO H b3 rfl rfl rfl rfl rfl rfl ?_
            refine SpB.callK Tryz.T1OK H (by omega) (hcall h3 H) rfl rfl rfl rfl rfl ?_
            intro v2 h4 o2 g
            have H := g.hp H
            have b1 := g.keep (by omega) b1
            have l2 := g.le
            have o1 := o1.grow g (Nat.le_refl _)
            rw [← hak'] at o2
            refine SpB.append H o1 o2.src (by simp [intsV]) (by omega) (by omega) (show _ * 8 ≤ _ by omega) rfl rfl rfl rfl rfl rfl rfl rfl rfl rfl rfl rfl rfl rfl ?_
            intro v3 h5 acc o3 g3
            have H := g3.hp H
            have b1 := g3.keepL (by omega) (by omega) b1
            have l3 := g3.le
            repeat first | refine SpB.nil ?_ | refine SpB.move rfl rfl rfl rfl rfl ?_ | refine SpB.assign rfl rfl rfl rfl rfl ?_ | refine SpB.skip rfl rfl rfl ?_ | refine SpB.loadO H b1 rfl rfl rfl rfl rfl rfl ?_ | refine SpB.pure (v := .bool true) rfl rfl rfl rfl rfl ?_ | refine SpB.pure (v := .bool false) rfl rfl rfl rfl rfl ?_ | refine SpB.inc (i := i) (by omega) rfl rfl rfl rfl rfl ?_ | refine SpB.pureS rfl rfl rfl rfl rfl rfl ?_ | refine WpB.seq ?_ | refine WpB.region ?_ | refine WpB.draw ?_ | refine And.intro (fun hw => by have hw : false = true := hw; cases hw) ?_ | refine WpB.skip ?_
            refine ⟨(i + 1, v3), by show na - (i + 1) < na - i; omega, (by repeat first | exact sub_nil | refine sub_cons rfl ?_), ⟨H, b1, by omega, hlt, ?_⟩, rfl⟩
            show Own h5 (h0.sz + 1) 1 v3 (catTo (fun i => (args i).srcs) i ++ (args i).srcs).length (intsV (catTo (fun i => (args i).srcs) i ++ (args i).srcs))
            rw [List.length_append, intsV, List.map_append]
            exact o3
      · refine WpB.exit ?_
        have : ¬ i < na := by simpa using ht
        obtain rfl : i = na := by omega
        repeat first | refine SpB.nil ?_ | refine SpB.move rfl rfl rfl rfl rfl ?_ | refine SpB.assign rfl rfl rfl rfl rfl ?_ | refine SpB.skip rfl rfl rfl ?_ | refine SpB.loadO H b1 rfl rfl rfl rfl rfl rfl ?_ | refine SpB.pure (v := .bool true) rfl rfl rfl rfl rfl ?_ | refine SpB.pure (v := .bool false) rfl rfl rfl rfl rfl ?_ | refine SpB.inc (i := i) (by omega) rfl rfl rfl rfl rfl ?_ | refine SpB.pureS rfl rfl rfl rfl rfl rfl ?_ | refine WpB.seq ?_ | refine WpB.region ?_ | refine WpB.draw ?_ | refine And.intro (fun hw => by have hw : false = true := hw; cases hw) ?_ | refine WpB.skip ?_
        refine WpB.ret ⟨_, res1 rfl o1.one, ?_, Nat.le_refl _⟩
        rw [hsrc]
        exact o1.low (by omega)

end Go.Proofs.YtkjkcoemloakhaaGreat

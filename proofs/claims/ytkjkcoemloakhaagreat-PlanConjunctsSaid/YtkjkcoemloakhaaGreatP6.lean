/- A part of the evaluator, of its proof or of the walks (laid together by a program of my own); conditions: none. -/
import Derived.Test.YtkjkcoemloakhaaGreatP1
import Derived.Test.YtkjkcoemloakhaaGreatP2
import Derived.Test.YtkjkcoemloakhaaGreatP3
import Derived.Test.YtkjkcoemloakhaaGreatP4
import Derived.Test.YtkjkcoemloakhaaGreatP5
section
set_option linter.unusedVariables false
namespace Go.Proofs.YtkjkcoemloakhaaGreat
open Go Go.Vae
set_option maxRecDepth 100000

set_option maxHeartbeats 1600000 in
theorem valid_ok {N lim : Nat} {rd : RO} (s : Sl Tb) (h0 : AH) (H : Hp N lim rd h0) (hs : s.sch rd) (hn : s.n ≤ 12) (hsm : ∀ i, i < s.n → TbS (s.x i)) : Kp TT 28 [s.v] h0 anyB := by
  have hs0 := hs
  obtain ⟨sv, sn, sx⟩ := s
  obtain ⟨hsn, ⟨sa, scap, hsv, _, _, hsx⟩, hso⟩ := hs
  simp only at hsv hsx hso hsn hn hsm
  subst hsv
  have hreach : reachBytes < 2 ^ 47 := by decide
  have hle0 := H.le
  refine Kp.of (fi := Tryz.fi28) rfl rfl rfl ?_
  repeat first | refine qN ?_ | refine qM rfl ?_ | refine qA rfl ?_ | refine qS rfl ?_ | refine qL H b1 rfl ?_ | refine qT rfl ?_ | refine qF rfl ?_ | refine qI i (by omega) rfl ?_ | refine qI io (by omega) rfl ?_ | refine qP rfl ?_ | refine wQ ?_ | refine wR ?_ | refine wD ?_ | refine wN rfl ?_ | refine wS ?_
  refine WpB.cut1 [(0, .slice sa sn scap)] (fun h => Grow h0 h0.sz h ∧ ∀ j, j < sn → InTb ⟨.slice sa sn scap, sn, sx⟩ j) ?_ ?_
  · refine WpB.block ?_
    refine WpB.loopC sn (fun i => [(3, .int .i64 (i : Int)), (0, .slice sa sn scap)]) (fun i h => Grow h0 h0.sz h ∧ ∀ j, j < i → InTb ⟨.slice sa sn scap, sn, sx⟩ j) ⟨Grow.refl H.wf _, fun j hj => absurd hj (Nat.not_lt_zero _)⟩ (by repeat first | exact sub_nil | refine sub_cons rfl ?_) ?_
    rintro i h hi ⟨G, hIn⟩
    have hG := G.le
    have H0 := H
    have H := G.hp H
    repeat first | refine qN ?_ | refine qM rfl ?_ | refine qA rfl ?_ | refine qS rfl ?_ | refine qL H b1 rfl ?_ | refine qT rfl ?_ | refine qF rfl ?_ | refine qI i (by omega) rfl ?_ | refine qI io (by omega) rfl ?_ | refine qP rfl ?_ | refine wQ ?_ | refine wR ?_ | refine wD ?_ | refine wN rfl ?_ | refine wS ?_
    refine WpB.cond rfl (fun ht => ?_) fun ht => ?_
    · have hlt : i < sn := by simpa using ht
      obtain ⟨b, off, hsa, hc⟩ := hsx i hlt
      subst hsa
      have hat := hso i hlt
      have hts := hsm i hlt
      cases hti : sx i with
      | mk nm cols keys fors chk =>
      rw [hti] at hc hat hts
      have hkeys := hat.keys
      have hfors := hat.fors
      have hcol := hat.cols
      obtain ⟨cv, cn, cx⟩ := cols
      obtain ⟨kv, kn, kx⟩ := keys
      obtain ⟨fv, fn, fx⟩ := fors
      obtain ⟨hn1, ⟨ca, ccap, hcv, _, _, hcx⟩, hco⟩ := hcol
      obtain ⟨hn2, ⟨ka, kcap, hkv, _, _, hkx⟩, hko⟩ := hkeys
      obtain ⟨hn3, ⟨fa, fcap, hfv, _, _, hfx⟩, hfo⟩ := hfors
      obtain ⟨ev, en, ex⟩ := chk
      obtain ⟨t1, t2, t3, t4, t5⟩ := hts
      simp only at hcv hkv hfv hkx hko hfx hfo hn1 hn2 hn3 t1 t2 t3 t4 t5
      subst hcv hkv hfv
      refine WpB.skip ?_
      refine WpB.seq (WpB.block ?_)
      repeat first | refine qN ?_ | refine qM rfl ?_ | refine qA rfl ?_ | refine qS rfl ?_ | refine qL H b1 rfl ?_ | refine qT rfl ?_ | refine qF rfl ?_ | refine qI i (by omega) rfl ?_ | refine qI io (by omega) rfl ?_ | refine qP rfl ?_ | refine wQ ?_ | refine wR ?_ | refine wD ?_ | refine wN rfl ?_ | refine wS ?_
      refine WpB.cut1 [(3, .int .i64 (i : Int)), (0, .slice (some ⟨b, off, none⟩) sn scap)] (fun h' => Grow h0 h0.sz h' ∧ ∀ j, j < kn → insideP cn (kx j)) ?_ ?_
      · refine WpB.block ?_
        refine WpB.loopC kn (fun k => [(4, .int .i64 (k : Int)), (3, .int .i64 (i : Int)), (0, .slice (some ⟨b, off, none⟩) sn scap)]) (fun k h' => Grow h0 h0.sz h' ∧ ∀ j, j < k → insideP cn (kx j)) ⟨G, fun j hj => absurd hj (Nat.not_lt_zero _)⟩ (by repeat first | exact sub_nil | refine sub_cons rfl ?_) ?_
        clear H G hG ht
        rintro io h hio ⟨G, hj⟩
        have hG := G.le
        have H := G.hp H0
        repeat first | refine qN ?_ | refine qM rfl ?_ | refine qA rfl ?_ | refine qS rfl ?_ | refine qL H b1 rfl ?_ | refine qT rfl ?_ | refine qF rfl ?_ | refine qI i (by omega) rfl ?_ | refine qI io (by omega) rfl ?_ | refine qP rfl ?_ | refine wQ ?_ | refine wR ?_ | refine wD ?_ | refine wN rfl ?_ | refine wS ?_
        refine SpB.indexN hlt rfl rfl rfl rfl rfl rfl rfl rfl rfl ?_
        repeat first | refine qN ?_ | refine qM rfl ?_ | refine qA rfl ?_ | refine qS rfl ?_ | refine qL H b1 rfl ?_ | refine qT rfl ?_ | refine qF rfl ?_ | refine qI i (by omega) rfl ?_ | refine qI io (by omega) rfl ?_ | refine qP rfl ?_ | refine wQ ?_ | refine wR ?_ | refine wD ?_ | refine wN rfl ?_ | refine wS ?_
        refine SpB.load (v := .slice ka kn kcap) rfl rfl rfl (loadT_one (H.ext _ _ _ _ hc).2 (j := 2) rfl rfl rfl) rfl rfl ?_
        repeat first | refine qN ?_ | refine qM rfl ?_ | refine qA rfl ?_ | refine qS rfl ?_ | refine qL H b1 rfl ?_ | refine qT rfl ?_ | refine qF rfl ?_ | refine qI i (by omega) rfl ?_ | refine qI io (by omega) rfl ?_ | refine qP rfl ?_ | refine wQ ?_ | refine wR ?_ | refine wD ?_ | refine wN rfl ?_ | refine wS ?_
        refine WpB.cond rfl (fun ht => ?_) fun ht => ?_
        · have hlk : io < kn := by simpa using ht
          obtain ⟨b', off', rfl, hck⟩ := hkx io hlk
          refine WpB.skip ?_
          refine WpB.seq (WpB.block ?_)
          repeat first | refine qN ?_ | refine qM rfl ?_ | refine qA rfl ?_ | refine qS rfl ?_ | refine qL H b1 rfl ?_ | refine qT rfl ?_ | refine qF rfl ?_ | refine qI i (by omega) rfl ?_ | refine qI io (by omega) rfl ?_ | refine qP rfl ?_ | refine wQ ?_ | refine wR ?_ | refine wD ?_ | refine wN rfl ?_ | refine wS ?_
          refine SpB.indexN hlt rfl rfl rfl rfl rfl rfl rfl rfl rfl ?_
          refine SpB.loadR H hc rfl rfl rfl rfl rfl rfl rfl ?_
          repeat first | refine qN ?_ | refine qM rfl ?_ | refine qA rfl ?_ | refine qS rfl ?_ | refine qL H b1 rfl ?_ | refine qT rfl ?_ | refine qF rfl ?_ | refine qI i (by omega) rfl ?_ | refine qI io (by omega) rfl ?_ | refine qP rfl ?_ | refine wQ ?_ | refine wR ?_ | refine wD ?_ | refine wN rfl ?_ | refine wS ?_
          refine SpB.indexN hlt rfl rfl rfl rfl rfl rfl rfl rfl rfl ?_
          repeat first | refine qN ?_ | refine qM rfl ?_ | refine qA rfl ?_ | refine qS rfl ?_ | refine qL H b1 rfl ?_ | refine qT rfl ?_ | refine qF rfl ?_ | refine qI i (by omega) rfl ?_ | refine qI io (by omega) rfl ?_ | refine qP rfl ?_ | refine wQ ?_ | refine wR ?_ | refine wD ?_ | refine wN rfl ?_ | refine wS ?_
          refine SpB.load (v := .slice (some ⟨b', off', none⟩) kn kcap) rfl rfl rfl (loadT_one (H.ext _ _ _ _ hc).2 (j := 2) rfl rfl rfl) rfl rfl ?_
          repeat first | refine qN ?_ | refine qM rfl ?_ | refine qA rfl ?_ | refine qS rfl ?_ | refine qL H b1 rfl ?_ | refine qT rfl ?_ | refine qF rfl ?_ | refine qI i (by omega) rfl ?_ | refine qI io (by omega) rfl ?_ | refine qP rfl ?_ | refine wQ ?_ | refine wR ?_ | refine wD ?_ | refine wN rfl ?_ | refine wS ?_
          refine SpB.indexN hlk rfl rfl rfl rfl rfl rfl rfl rfl rfl ?_
          refine SpB.loadRC H hck rfl rfl rfl rfl rfl rfl rfl ?_
          refine SpB.callK Tryz.T1OK H (by omega) (inside_ok ⟨nm, ⟨.slice ca cn ccap, cn, cx⟩, ⟨.slice (some ⟨b', off', none⟩) kn kcap, kn, kx⟩, ⟨.slice fa fn fcap, fn, fx⟩, ⟨ev, en, ex⟩⟩ (kx io) h H hat (hko io hlk)) rfl rfl rfl rfl rfl ?_
          rintro r h4 ⟨bi, rfl, hbi⟩ g
          have G := G.more g (by omega)
          repeat first | refine qN ?_ | refine qM rfl ?_ | refine qA rfl ?_ | refine qS rfl ?_ | refine qL H b1 rfl ?_ | refine qT rfl ?_ | refine qF rfl ?_ | refine qI i (by omega) rfl ?_ | refine qI io (by omega) rfl ?_ | refine qP rfl ?_ | refine wQ ?_ | refine wR ?_ | refine wD ?_ | refine wN rfl ?_ | refine wS ?_
          refine WpB.cond rfl (fun ht => ?_) fun ht => ?_
          · repeat first | refine qN ?_ | refine qM rfl ?_ | refine qA rfl ?_ | refine qS rfl ?_ | refine qL H b1 rfl ?_ | refine qT rfl ?_ | refine qF rfl ?_ | refine qI i (by omega) rfl ?_ | refine qI io (by omega) rfl ?_ | refine qP rfl ?_ | refine wQ ?_ | refine wR ?_ | refine wD ?_ | refine wN rfl ?_ | refine wS ?_
            exact WpB.ret ⟨_, rfl, ⟨_, rfl⟩, by omega⟩
          have hbi : insideP cn (kx io) := hbi (by simpa using ht)
          repeat first | refine qN ?_ | refine qM rfl ?_ | refine qA rfl ?_ | refine qS rfl ?_ | refine qL H b1 rfl ?_ | refine qT rfl ?_ | refine qF rfl ?_ | refine qI i (by omega) rfl ?_ | refine qI io (by omega) rfl ?_ | refine qP rfl ?_ | refine wQ ?_ | refine wR ?_ | refine wD ?_ | refine wN rfl ?_ | refine wS ?_
          refine ⟨hlk, (by repeat first | exact sub_nil | refine sub_cons rfl ?_), ⟨G, fun j hj1 => ?_⟩, rfl⟩
          by_cases e : j = io
          · subst e; exact hbi
          · exact hj j (by omega)
        · refine WpB.exit ?_
          have hge : ¬ io < kn := by simpa using ht
          exact ⟨(by repeat first | exact sub_nil | refine sub_cons rfl ?_), ⟨G, fun j hj1 => hj j (by omega)⟩, rfl⟩
      clear H G hG ht
      rintro h ⟨G, hK⟩
      repeat first | refine qN ?_ | refine qM rfl ?_ | refine qA rfl ?_ | refine qS rfl ?_ | refine qL H b1 rfl ?_ | refine qT rfl ?_ | refine qF rfl ?_ | refine qI i (by omega) rfl ?_ | refine qI io (by omega) rfl ?_ | refine qP rfl ?_ | refine wQ ?_ | refine wR ?_ | refine wD ?_ | refine wN rfl ?_ | refine wS ?_
      refine WpB.block ?_
      refine WpB.loopC fn (fun k => [(5, .int .i64 (k : Int)), (3, .int .i64 (i : Int)), (0, .slice (some ⟨b, off, none⟩) sn scap)]) (fun k h' => Grow h0 h0.sz h' ∧ ∀ j, j < k → insideP cn (fx j).cols ∧ 0 ≤ (fx j).tb ∧ (fx j).tb ≤ (i : Int) ∧ 0 ≤ (fx j).ky ∧ (fx j).ky < ((sx (fx j).tb.toNat).keys.n : Int)) ⟨G, fun j hj => absurd hj (Nat.not_lt_zero _)⟩ (by repeat first | exact sub_nil | refine sub_cons rfl ?_) ?_
      clear G
      rintro io h hio ⟨G, hj⟩
      have hG := G.le
      have H := G.hp H0
      repeat first | refine qN ?_ | refine qM rfl ?_ | refine qA rfl ?_ | refine qS rfl ?_ | refine qL H b1 rfl ?_ | refine qT rfl ?_ | refine qF rfl ?_ | refine qI i (by omega) rfl ?_ | refine qI io (by omega) rfl ?_ | refine qP rfl ?_ | refine wQ ?_ | refine wR ?_ | refine wD ?_ | refine wN rfl ?_ | refine wS ?_
      refine SpB.indexN hlt rfl rfl rfl rfl rfl rfl rfl rfl rfl ?_
      repeat first | refine qN ?_ | refine qM rfl ?_ | refine qA rfl ?_ | refine qS rfl ?_ | refine qL H b1 rfl ?_ | refine qT rfl ?_ | refine qF rfl ?_ | refine qI i (by omega) rfl ?_ | refine qI io (by omega) rfl ?_ | refine qP rfl ?_ | refine wQ ?_ | refine wR ?_ | refine wD ?_ | refine wN rfl ?_ | refine wS ?_
      refine SpB.load (v := .slice fa fn fcap) rfl rfl rfl (loadT_one (H.ext _ _ _ _ hc).2 (j := 3) rfl rfl rfl) rfl rfl ?_
      repeat first | refine qN ?_ | refine qM rfl ?_ | refine qA rfl ?_ | refine qS rfl ?_ | refine qL H b1 rfl ?_ | refine qT rfl ?_ | refine qF rfl ?_ | refine qI i (by omega) rfl ?_ | refine qI io (by omega) rfl ?_ | refine qP rfl ?_ | refine wQ ?_ | refine wR ?_ | refine wD ?_ | refine wN rfl ?_ | refine wS ?_
      refine WpB.cond rfl (fun ht => ?_) fun ht => ?_
      · have hlk : io < fn := by simpa using ht
        obtain ⟨b', off', rfl, hcf⟩ := hfx io hlk
        have hfoi := hfo io hlk
        have hnew : (insideP cn (fx io).cols ∧ 0 ≤ (fx io).tb ∧ (fx io).tb ≤ (i : Int) ∧ 0 ≤ (fx io).ky ∧ (fx io).ky < ((sx (fx io).tb.toNat).keys.n : Int)) → ∀ j, j < io + 1 → insideP cn (fx j).cols ∧ 0 ≤ (fx j).tb ∧ (fx j).tb ≤ (i : Int) ∧ 0 ≤ (fx j).ky ∧ (fx j).ky < ((sx (fx j).tb.toNat).keys.n : Int) := fun hx j hj1 => by
          by_cases e : j = io
          · subst e; exact hx
          · exact hj j (by omega)
        cases hfi : fx io with
        | mk fcl ftb fky =>
        rw [hfi] at hcf hfoi hnew
        simp only at hnew
        obtain ⟨fclv, fcn, fcx⟩ := fcl
        obtain ⟨_, ⟨fca, fccap, hfcv, _⟩, _⟩ := hfoi.1
        simp only at hfcv
        subst hfcv
        refine WpB.skip ?_
        refine WpB.seq (WpB.block ?_)
        repeat first | refine qN ?_ | refine qM rfl ?_ | refine qA rfl ?_ | refine qS rfl ?_ | refine qL H b1 rfl ?_ | refine qT rfl ?_ | refine qF rfl ?_ | refine qI i (by omega) rfl ?_ | refine qI io (by omega) rfl ?_ | refine qP rfl ?_ | refine wQ ?_ | refine wR ?_ | refine wD ?_ | refine wN rfl ?_ | refine wS ?_
        refine SpB.indexN hlt rfl rfl rfl rfl rfl rfl rfl rfl rfl ?_
        repeat first | refine qN ?_ | refine qM rfl ?_ | refine qA rfl ?_ | refine qS rfl ?_ | refine qL H b1 rfl ?_ | refine qT rfl ?_ | refine qF rfl ?_ | refine qI i (by omega) rfl ?_ | refine qI io (by omega) rfl ?_ | refine qP rfl ?_ | refine wQ ?_ | refine wR ?_ | refine wD ?_ | refine wN rfl ?_ | refine wS ?_
        refine SpB.load (v := .slice (some ⟨b', off', none⟩) fn fcap) rfl rfl rfl (loadT_one (H.ext _ _ _ _ hc).2 (j := 3) rfl rfl rfl) rfl rfl ?_
        repeat first | refine qN ?_ | refine qM rfl ?_ | refine qA rfl ?_ | refine qS rfl ?_ | refine qL H b1 rfl ?_ | refine qT rfl ?_ | refine qF rfl ?_ | refine qI i (by omega) rfl ?_ | refine qI io (by omega) rfl ?_ | refine qP rfl ?_ | refine wQ ?_ | refine wR ?_ | refine wD ?_ | refine wN rfl ?_ | refine wS ?_
        refine SpB.indexN hlk rfl rfl rfl rfl rfl rfl rfl rfl rfl ?_
        refine SpB.loadR H hcf rfl rfl rfl rfl rfl rfl rfl ?_
        refine SpB.alloc H rfl rfl rfl rfl rfl fun h1 g1 s1 b1 => ?_
        refine SpB.storeO (g1.hp H) b1 (by omega) (by omega) rfl rfl rfl rfl rfl rfl rfl rfl rfl fun h2 g2 s2 b2 f2 => ?_
        have GA : Grow h h.sz h2 := g1.more g2 (Nat.le_refl _)
        have H := GA.hp H
        have b1 : h2.blk h.sz = some (.cells [.slice fca fcn fccap, .int .i64 ftb, .int .i64 fky]) := b2
        have l1 : h.sz < h2.sz := by omega
        have G := G.more GA (by omega)
        clear g1 g2 f2 b2 GA
        repeat first | refine qN ?_ | refine qM rfl ?_ | refine qA rfl ?_ | refine qS rfl ?_ | refine qL H b1 rfl ?_ | refine qT rfl ?_ | refine qF rfl ?_ | refine qI i (by omega) rfl ?_ | refine qI io (by omega) rfl ?_ | refine qP rfl ?_ | refine wQ ?_ | refine wR ?_ | refine wD ?_ | refine wN rfl ?_ | refine wS ?_
        refine SpB.indexN hlt rfl rfl rfl rfl rfl rfl rfl rfl rfl ?_
        refine SpB.loadR H hc rfl rfl rfl rfl rfl rfl rfl ?_
        repeat first | refine qN ?_ | refine qM rfl ?_ | refine qA rfl ?_ | refine qS rfl ?_ | refine qL H b1 rfl ?_ | refine qT rfl ?_ | refine qF rfl ?_ | refine qI i (by omega) rfl ?_ | refine qI io (by omega) rfl ?_ | refine qP rfl ?_ | refine wQ ?_ | refine wR ?_ | refine wD ?_ | refine wN rfl ?_ | refine wS ?_
        refine SpB.callK Tryz.T1OK H (by omega) (inside_ok ⟨nm, ⟨.slice ca cn ccap, cn, cx⟩, ⟨.slice ka kn kcap, kn, kx⟩, ⟨.slice (some ⟨b', off', none⟩) fn fcap, fn, fx⟩, ⟨ev, en, ex⟩⟩ ⟨.slice fca fcn fccap, fcn, fcx⟩ h2 H hat hfoi.1) rfl rfl rfl rfl rfl ?_
        rintro r h4 ⟨bi, rfl, hbi⟩ g
        have G := G.more g (by omega)
        have H := g.hp H
        have b1 := g.keep l1 b1
        have l1 := g.lt l1
        have hs4 := g.le
        clear g
        refine qB rfl (fun c0 => ?_) fun c0 => ?_
        · repeat' first | refine qN ?_ | refine qM rfl ?_ | refine qA rfl ?_ | refine qS rfl ?_ | refine qL H b1 rfl ?_ | refine qT rfl ?_ | refine qF rfl ?_ | refine qB rfl (fun ht => ?_) fun ht => ?_ | refine qI i (by omega) rfl ?_ | refine qI io (by omega) rfl ?_ | refine qP rfl ?_ | refine wQ ?_ | refine wR ?_ | refine wD ?_ | refine wN rfl ?_ | refine wS ?_ | refine wT rfl ?_ | refine wF rfl ?_ | refine WpB.cond rfl (fun ht => ?_) fun ht => ?_
          exact WpB.ret ⟨_, rfl, ⟨_, rfl⟩, by omega⟩
        have hbi := hbi (by simpa using c0)
        repeat first | refine qN ?_ | refine qM rfl ?_ | refine qA rfl ?_ | refine qS rfl ?_ | refine qL H b1 rfl ?_ | refine qT rfl ?_ | refine qF rfl ?_ | refine qI i (by omega) rfl ?_ | refine qI io (by omega) rfl ?_ | refine qP rfl ?_ | refine wQ ?_ | refine wR ?_ | refine wD ?_ | refine wN rfl ?_ | refine wS ?_
        refine qB rfl (fun c1 => ?_) fun c1 => ?_
        · repeat' first | refine qN ?_ | refine qM rfl ?_ | refine qA rfl ?_ | refine qS rfl ?_ | refine qL H b1 rfl ?_ | refine qT rfl ?_ | refine qF rfl ?_ | refine qB rfl (fun ht => ?_) fun ht => ?_ | refine qI i (by omega) rfl ?_ | refine qI io (by omega) rfl ?_ | refine qP rfl ?_ | refine wQ ?_ | refine wR ?_ | refine wD ?_ | refine wN rfl ?_ | refine wS ?_ | refine wT rfl ?_ | refine wF rfl ?_ | refine WpB.cond rfl (fun ht => ?_) fun ht => ?_
          exact WpB.ret ⟨_, rfl, ⟨_, rfl⟩, by omega⟩
        have c1 : ¬ ftb < 0 := of_decide_eq_false c1
        repeat first | refine qN ?_ | refine qM rfl ?_ | refine qA rfl ?_ | refine qS rfl ?_ | refine qL H b1 rfl ?_ | refine qT rfl ?_ | refine qF rfl ?_ | refine qI i (by omega) rfl ?_ | refine qI io (by omega) rfl ?_ | refine qP rfl ?_ | refine wQ ?_ | refine wR ?_ | refine wD ?_ | refine wN rfl ?_ | refine wS ?_
        refine qB rfl (fun c2 => ?_) fun c2 => ?_
        · repeat' first | refine qN ?_ | refine qM rfl ?_ | refine qA rfl ?_ | refine qS rfl ?_ | refine qL H b1 rfl ?_ | refine qT rfl ?_ | refine qF rfl ?_ | refine qB rfl (fun ht => ?_) fun ht => ?_ | refine qI i (by omega) rfl ?_ | refine qI io (by omega) rfl ?_ | refine qP rfl ?_ | refine wQ ?_ | refine wR ?_ | refine wD ?_ | refine wN rfl ?_ | refine wS ?_ | refine wT rfl ?_ | refine wF rfl ?_ | refine WpB.cond rfl (fun ht => ?_) fun ht => ?_
          exact WpB.ret ⟨_, rfl, ⟨_, rfl⟩, by omega⟩
        have c2 : ¬ ftb > (i : Int) := of_decide_eq_false c2
        repeat first | refine qN ?_ | refine qM rfl ?_ | refine qA rfl ?_ | refine qS rfl ?_ | refine qL H b1 rfl ?_ | refine qT rfl ?_ | refine qF rfl ?_ | refine qI i (by omega) rfl ?_ | refine qI io (by omega) rfl ?_ | refine qP rfl ?_ | refine wQ ?_ | refine wR ?_ | refine wD ?_ | refine wN rfl ?_ | refine wS ?_
        refine qB rfl (fun c3 => ?_) fun c3 => ?_
        · repeat' first | refine qN ?_ | refine qM rfl ?_ | refine qA rfl ?_ | refine qS rfl ?_ | refine qL H b1 rfl ?_ | refine qT rfl ?_ | refine qF rfl ?_ | refine qB rfl (fun ht => ?_) fun ht => ?_ | refine qI i (by omega) rfl ?_ | refine qI io (by omega) rfl ?_ | refine qP rfl ?_ | refine wQ ?_ | refine wR ?_ | refine wD ?_ | refine wN rfl ?_ | refine wS ?_ | refine wT rfl ?_ | refine wF rfl ?_ | refine WpB.cond rfl (fun ht => ?_) fun ht => ?_
          exact WpB.ret ⟨_, rfl, ⟨_, rfl⟩, by omega⟩
        have c3 : ¬ fky < 0 := of_decide_eq_false c3
        obtain ⟨tj, rfl⟩ := Int.eq_ofNat_of_zero_le (show 0 ≤ ftb by omega)
        have hltj : tj < sn := by omega
        obtain ⟨b2, off2, hsa, hcj⟩ := hsx tj hltj
        injection hsa with hsa
        injection hsa with hsa1 hsa2
        subst hsa1 hsa2
        have hatj := hso tj hltj
        simp only [Int.toNat_natCast] at hnew
        cases htj : sx tj with
        | mk nm2 cols2 keys2 fors2 chk2 =>
        rw [htj] at hcj hatj hnew
        obtain ⟨k2v, k2n, k2x⟩ := keys2
        obtain ⟨_, ⟨k2a, k2cap, hk2v, _⟩, _⟩ := hatj.keys
        simp only at hk2v hnew
        subst hk2v
        repeat first | refine qN ?_ | refine qM rfl ?_ | refine qA rfl ?_ | refine qS rfl ?_ | refine qL H b1 rfl ?_ | refine qT rfl ?_ | refine qF rfl ?_ | refine qI i (by omega) rfl ?_ | refine qI io (by omega) rfl ?_ | refine qP rfl ?_ | refine wQ ?_ | refine wR ?_ | refine wD ?_ | refine wN rfl ?_ | refine wS ?_
        refine SpB.indexN hltj rfl rfl rfl rfl rfl rfl rfl rfl rfl ?_
        repeat first | refine qN ?_ | refine qM rfl ?_ | refine qA rfl ?_ | refine qS rfl ?_ | refine qL H b1 rfl ?_ | refine qT rfl ?_ | refine qF rfl ?_ | refine qI i (by omega) rfl ?_ | refine qI io (by omega) rfl ?_ | refine qP rfl ?_ | refine wQ ?_ | refine wR ?_ | refine wD ?_ | refine wN rfl ?_ | refine wS ?_
        refine SpB.load (v := .slice k2a k2n k2cap) rfl rfl rfl (loadT_one (H.ext _ _ _ _ hcj).2 (j := 2) rfl rfl rfl) rfl rfl ?_
        repeat first | refine qN ?_ | refine qM rfl ?_ | refine qA rfl ?_ | refine qS rfl ?_ | refine qL H b1 rfl ?_ | refine qT rfl ?_ | refine qF rfl ?_ | refine qI i (by omega) rfl ?_ | refine qI io (by omega) rfl ?_ | refine qP rfl ?_ | refine wQ ?_ | refine wR ?_ | refine wD ?_ | refine wN rfl ?_ | refine wS ?_
        refine WpB.cond rfl (fun ht => ?_) fun ht => ?_
        · repeat first | refine qN ?_ | refine qM rfl ?_ | refine qA rfl ?_ | refine qS rfl ?_ | refine qL H b1 rfl ?_ | refine qT rfl ?_ | refine qF rfl ?_ | refine qI i (by omega) rfl ?_ | refine qI io (by omega) rfl ?_ | refine qP rfl ?_ | refine wQ ?_ | refine wR ?_ | refine wD ?_ | refine wN rfl ?_ | refine wS ?_
          exact WpB.ret ⟨_, rfl, ⟨_, rfl⟩, by omega⟩
        have c4 : ¬ fky ≥ (k2n : Int) := of_decide_eq_false ht
        repeat first | refine qN ?_ | refine qM rfl ?_ | refine qA rfl ?_ | refine qS rfl ?_ | refine qL H b1 rfl ?_ | refine qT rfl ?_ | refine qF rfl ?_ | refine qI i (by omega) rfl ?_ | refine qI io (by omega) rfl ?_ | refine qP rfl ?_ | refine wQ ?_ | refine wR ?_ | refine wD ?_ | refine wN rfl ?_ | refine wS ?_
        exact ⟨hlk, (by repeat first | exact sub_nil | refine sub_cons rfl ?_), ⟨G, hnew ⟨hbi, by omega, by omega, by omega, by omega⟩⟩, rfl⟩
      · refine WpB.exit ?_
        have hge : ¬ io < fn := by simpa using ht
        have hF := fun j (hj1 : j < fn) => hj j (by omega)
        repeat first | refine qN ?_ | refine qM rfl ?_ | refine qA rfl ?_ | refine qS rfl ?_ | refine qL H b1 rfl ?_ | refine qT rfl ?_ | refine qF rfl ?_ | refine qI i (by omega) rfl ?_ | refine qI io (by omega) rfl ?_ | refine qP rfl ?_ | refine wQ ?_ | refine wR ?_ | refine wD ?_ | refine wN rfl ?_ | refine wS ?_
        refine ⟨hlt, (by repeat first | exact sub_nil | refine sub_cons rfl ?_), ⟨G, fun j hj1 => ?_⟩, rfl⟩
        by_cases e : j = i
        · subst e
          constructor
          · simp only [hti]; exact hK
          · simp only [hti]; exact hF
        · exact hIn j (by omega)
    · refine WpB.exit ?_
      have hge : ¬ i < sn := by simpa using ht
      exact ⟨(by repeat first | exact sub_nil | refine sub_cons rfl ?_), ⟨G, fun j hj1 => hIn j (by omega)⟩, rfl⟩
  rintro h ⟨G, hIn⟩
  repeat first | refine qN ?_ | refine qM rfl ?_ | refine qA rfl ?_ | refine qS rfl ?_ | refine qL H b1 rfl ?_ | refine qT rfl ?_ | refine qF rfl ?_ | refine qI i (by omega) rfl ?_ | refine qI io (by omega) rfl ?_ | refine qP rfl ?_ | refine wQ ?_ | refine wR ?_ | refine wD ?_ | refine wN rfl ?_ | refine wS ?_
  refine WpB.block ?_
  refine WpB.loopS (σ := Nat × Value) (fun s => sn - s.1) (fun s => [(8, .int .i64 (s.1 : Int)), (7, s.2), (0, .slice sa sn scap)]) (fun s h => s.1 ≤ sn ∧ Grow h0 h0.sz h ∧ ∃ (rd' : RO) (xs : List Stm), rd.le rd' ∧ Hp N h.sz rd' h ∧ Own h h0.sz 22 s.2 xs.length (xs.flatMap Stm.cells) ∧ AvS rd' s.2 ∧ (∀ x ∈ xs, x.At rd' ∧ StS x) ∧ xs.length = s.1) (0, .slice none 0 0)
    ⟨Nat.zero_le _, G, rd, [], RO.le.refl rd, (G.hp H).wide (by have := G.le; omega) (Nat.le_refl _), Own.nil _ _ _, AvS.nil rd, fun t ht => by simp at ht, rfl⟩ (by repeat first | exact sub_nil | refine sub_cons rfl ?_) ?_
  clear G H
  rintro ⟨i, lv⟩ h ⟨hi, G, rd', xs, hle, H, o, avs, hxs, hxl⟩
  simp only at hi o avs hxl
  have hG := G.le
  obtain ⟨la, lcap, hlv, _⟩ := o.shape
  repeat first | refine qN ?_ | refine qM rfl ?_ | refine qA rfl ?_ | refine qS rfl ?_ | refine qL H b1 rfl ?_ | refine qT rfl ?_ | refine qF rfl ?_ | refine qI i (by omega) rfl ?_ | refine qI io (by omega) rfl ?_ | refine qP rfl ?_ | refine wQ ?_ | refine wR ?_ | refine wD ?_ | refine wN rfl ?_ | refine wS ?_
  refine WpB.cond rfl (fun ht => ?_) fun ht => ?_
  · have hlt : i < sn := by simpa using ht
    refine WpB.skip ?_
    refine WpB.seq (WpB.block ?_)
    repeat first | refine qN ?_ | refine qM rfl ?_ | refine qA rfl ?_ | refine qS rfl ?_ | refine qL H b1 rfl ?_ | refine qT rfl ?_ | refine qF rfl ?_ | refine qI i (by omega) rfl ?_ | refine qI io (by omega) rfl ?_ | refine qP rfl ?_ | refine wQ ?_ | refine wR ?_ | refine wD ?_ | refine wN rfl ?_ | refine wS ?_
    refine SpB.callK Tryz.T1OK H (by omega) (defn_ok ⟨.slice sa sn scap, sn, sx⟩ i h H (hs0.mono hle) hlt hsm (fun j hj => hIn j (by omega))) rfl rfl rfl rfl rfl ?_
    rintro r h5 ⟨x, rfl, hxa, hxS⟩ g
    obtain ⟨H5, hle5, _⟩ := H.new rfl g
    have avs5 : AvS (rdNew N h.sz h5 rd') lv := avs.old o H.n rdNew_oldR (Nat.le_refl _)
    have hs5 := g.le
    have o := o.grow g (Nat.le_refl _)
    have G := G.more g (by omega)
    clear g H
    have hlen := hxS.len
    obtain ⟨xk, xnm, xcols, xkeys, xfors, xchk, xr0, xrest⟩ := x
    simp only [Stm.cells, List.length_cons] at hlen
    have hlen : xrest.length = 15 := by omega
    match xrest, hlen with
    | [r1, r2, r3, r4, r5, r6, r7, r8, r9, r10, r11, r12, r13, r14, r15], _ =>
    refine SpB.newS H5 rfl rfl rfl rfl rfl fun h9 g9 s9 b9 => ?_
    have H9 := g9.hp H5
    have G := G.more g9 (by omega)
    have o := o.grow g9 (Nat.le_refl _)
    have o9 : Own h9 h5.sz 22 (.slice (some ⟨N + h5.sz, 0, none⟩) 1 1) 1 (Stm.cells ⟨xk, xnm, xcols, xkeys, xfors, xchk, xr0, [r1, r2, r3, r4, r5, r6, r7, r8, r9, r10, r11, r12, r13, r14, r15]⟩) := .inr ⟨h5.sz, 1, Nat.le_refl _, by omega, by rw [H9.n], b9, rfl, .inr ⟨rfl, by decide⟩⟩
    refine SpB.appendA (st := 112) (xt := 112) H9 o avs5 o9.src rfl (by omega) (by omega) (show (xs.length + 1) * Tryz.ti47.bytes ≤ 70368744177664 by have : Tryz.ti47.bytes = 392 := rfl; rw [this]; omega) rfl rfl rfl rfl rfl rfl rfl rfl rfl rfl rfl rfl rfl rfl ?_
    intro v3 h10 acc o3 g10 H10 avs10
    have l10 := g10.le
    have G := G.more g10 (Nat.le_refl _)
    repeat first | refine qN ?_ | refine qM rfl ?_ | refine qA rfl ?_ | refine qS rfl ?_ | refine qL H b1 rfl ?_ | refine qT rfl ?_ | refine qF rfl ?_ | refine qI i (by omega) rfl ?_ | refine qI io (by omega) rfl ?_ | refine qP rfl ?_ | refine wQ ?_ | refine wR ?_ | refine wD ?_ | refine wN rfl ?_ | refine wS ?_
    exact ⟨(i + 1, v3), by show sn - (i + 1) < sn - i; omega, (by repeat first | exact sub_nil | refine sub_cons rfl ?_), ⟨hlt, G, _, xs ++ [⟨xk, xnm, xcols, xkeys, xfors, xchk, xr0, [r1, r2, r3, r4, r5, r6, r7, r8, r9, r10, r11, r12, r13, r14, r15]⟩], hle.trans hle5, H10.wide (by omega) (Nat.le_refl _), by simpa using o3, avs10, fun x hx => by
      rcases List.mem_append.1 hx with hx | hx
      · exact ⟨(hxs x hx).1.mono hle5, (hxs x hx).2⟩
      · simp only [List.mem_singleton] at hx
        rw [hx]
        exact ⟨hxa, hxS⟩, by simp [hxl]⟩, rfl⟩
  · refine WpB.exit ?_
    have hall := H.le_all
    have hL : Sl.At (rdAll h) 22 Stm.cells (fun x => x.At (rdAll h) ∧ StS x) (Sl.of lv xs) := own_At o (fun x hx => (hxs x hx).2.len) (by omega) (fun x hx => ⟨(hxs x hx).1.mono hall, (hxs x hx).2⟩)
    repeat first | refine qN ?_ | refine qM rfl ?_ | refine qA rfl ?_ | refine qS rfl ?_ | refine qL H b1 rfl ?_ | refine qT rfl ?_ | refine qF rfl ?_ | refine qI i (by omega) rfl ?_ | refine qI io (by omega) rfl ?_ | refine qP rfl ?_ | refine wQ ?_ | refine wR ?_ | refine wD ?_ | refine wN rfl ?_ | refine wS ?_
    refine SpB.callK Tryz.T1OK H (by omega) (build_ok (Sl.of lv xs) h H.all hL (by show xs.length ≤ 100; omega)) rfl rfl rfl rfl rfl ?_
    rintro r h5 ⟨a, b, c, rfl⟩ g
    repeat first | refine qN ?_ | refine qM rfl ?_ | refine qA rfl ?_ | refine qS rfl ?_ | refine qL H b1 rfl ?_ | refine qT rfl ?_ | refine qF rfl ?_ | refine qI i (by omega) rfl ?_ | refine qI io (by omega) rfl ?_ | refine qP rfl ?_ | refine wQ ?_ | refine wR ?_ | refine wD ?_ | refine wN rfl ?_ | refine wS ?_
    exact WpB.ret ⟨_, rfl, ⟨_, rfl⟩, by omega⟩

end Go.Proofs.YtkjkcoemloakhaaGreat
end

section
set_option linter.unusedVariables false
set_option linter.unusedSimpArgs false
namespace Go.Vae
open Go

/-- Two slices do not lie in one block. -/
def Apart (v w : Value) : Prop := ∀ b off n c off' n' c', v = .slice (some ⟨b, off, none⟩) n c → w ≠ .slice (some ⟨b, off', none⟩) n' c'

theorem Apart.nil (w : Value) : Apart (.slice none 0 0) w := fun b off n c off' n' c' h => by cases h
theorem Apart.symm {v w : Value} (h : Apart v w) : Apart w v := fun b off n c off' n' c' e1 e2 => h b off' n' c' off n c e2 e1

theorem Own.grow2 {h h' : AH} {lo size n l : Nat} {v : Value} {cs : List Value} (o : Own h lo size v n cs) (g : Grow h l h') (hk : ∀ k c, v = .slice (some ⟨h.n + k, 0, none⟩) n c → h'.blk k = h.blk k) : Own h' lo size v n cs := by
  rcases o with o | ⟨j, cap, h1, h2, h3, h4, h5⟩
  · exact .inl o
  · exact .inr ⟨j, cap, h1, g.lt h2, by rw [g.n]; exact h3, (hk j cap h3).trans h4, h5⟩

theorem Own.apart {h : AH} {lo size n : Nat} {v : Value} {cs : List Value} (o : Own h lo size v n cs) {N k off n' c' : Nat} (hN : h.n = N) (hk : h.sz ≤ k) : Apart v (.slice (some ⟨N + k, off, none⟩) n' c') := by
  intro b off1 n1 c1 off2 n2 c2 e1 e2
  injection e2 with e2
  injection e2 with e2
  injection e2 with e2 _
  rcases o with ⟨rfl, _⟩ | ⟨j, cap, a1, a2, a3, _⟩
  · cases e1
  · rw [a3] at e1
    injection e1 with e1
    injection e1 with e1
    injection e1 with e1 _
    omega

theorem Own.blkOf {h : AH} {lo size n N k c : Nat} {cs : List Value} (o : Own h lo size (.slice (some ⟨N + k, 0, none⟩) n c) n cs) (hN : h.n = N) : h.blk k = some (.cells cs) := by
  rcases o with ⟨e, _⟩ | ⟨j, cap, a1, a2, a3, a4, _⟩
  · cases e
  · injection a3 with a3
    injection a3 with a3
    injection a3 with a3 _
    have : j = k := by omega
    subst this
    exact a4

theorem SpB.appendB {T : Tabs} {nt : Nat} {ops l : List Oper} {o : Oper} {bs : Bs} {h : AH} {low : Nat} {Q : Bs → AH → Nat → List Acc → Prop} {N lim : Nat} {rd0 : RO} {lo size n m st xt e d : Nat} {s x : Value} {cs news : List Value} {ti ei xi : TI} (H : Hp N lim rd0 h) (hs : Own h lo size s n cs) (hlim : lim ≤ lo) (hx : (∃ r, srcCells h size x m = some (news, r)) ∧ lenV x = some m) (hnl : news.length = m * size) (hlo : lo ≤ h.sz) (hlow : low ≤ lo) (hb : (n + m) * ei.bytes ≤ 70368744177664)
    (hw : wantedB ops bs o = some true) (hall : allB bs h o.op.operands.toList = true) (ha : aop T h (rho bs h) o = aappend T h st xt s x)
    (h1 : T.ty st = some ti) (h2 : ti.k = .slice e) (h3 : T.ty e = some ei) (h4 : ei.size = size) (h5 : Nat.ble 1 size = true) (h6 : Nat.ble 1 ei.bytes = true) (h7 : T.ty xt = some xi) (h8 : isInt xi.k = false) (h9 : isSeq xi.k = true) (hd : o.dst = some d) (hlt : Nat.blt d nt = true)
    (hk : ∀ v h' acc, Own h' lo size v (n + m) (cs ++ news) → Grow h lo h' → Hp N lim rd0 h' → (∀ lo' size' v' n' cs', Own h lo' size' v' n' cs' → Apart s v' → Own h' lo' size' v' n' cs' ∧ Apart v v') → SpB T nt ops l ((d, v) :: bs) h' low fun b h'' l' acs => Q b h'' l' (acc :: acs)) : SpB T nt ops (o :: l) bs h low Q := by
  obtain ⟨v, ef, rd, g1, g2, g3, g4, g5, g6⟩ := append_own2 H.wf hs hx.1 hx.2 hnl h1 h2 h3 h4 (Nat.le_of_ble_eq_true h5) (Nat.le_of_ble_eq_true h6) h7 h8 h9 hb hlo
  refine SpB.eff hw hall (ha.trans g1) hd hlt ?_
  rw [g4 low hlow]
  refine hk v _ _ g2 g3 (g3.hpL hlim H) fun lo' size' v' n' cs' o' ap => ⟨?_, ?_⟩
  · refine o'.grow2 g3 fun k c e => ?_
    rcases o' with ⟨rfl, _⟩ | ⟨j, cap, a1, a2, a3, _⟩
    · cases e
    · rw [a3] at e
      injection e with e1
      injection e1 with e1
      injection e1 with e1 _
      have : j = k := by omega
      subst this
      exact g5 j a2 fun c' e2 => ap _ _ _ _ _ _ _ e2 a3
  · rcases g6 with ⟨e, _⟩ | ⟨c, e⟩
    · rw [e]; exact ap
    · intro b off n1 c1 off' n2 c2 e1 e2
      rw [e] at e1
      injection e1 with e1
      injection e1 with e1
      injection e1 with e1 _
      rcases o' with ⟨rfl, _⟩ | ⟨j, cap, a1, a2, a3, _⟩
      · cases e2
      · rw [a3] at e2
        injection e2 with e2
        injection e2 with e2
        injection e2 with e2 _
        omega

theorem own_newAt {α : Type} [Inhabited α] {N A lo : Nat} {rd : RO} {h : AH} (hN : h.n = N) {size : Nat} {v : Value} {cells : α → List Value} {xs : List α} {ok : α → Prop} (o : Own h lo size v xs.length (xs.flatMap cells)) (hA : A ≤ lo) (hl : ∀ x ∈ xs, (cells x).length = size) (hn : xs.length ≤ 1000000) (hx : ∀ x ∈ xs, ok x) : Sl.At (rdNew N A h rd) size cells ok (Sl.of v xs) :=
  ⟨Nat.le_trans hn million_reach, own_new hN (o.low hA) hl rfl (Nat.le_trans hn million_unk), fun i hi => hx _ (getD_mem hi)⟩

/-! ### what a bound case is -/
def Sl.listTo {α : Type} (s : Sl α) (n : Nat) : List α := (List.range n).map s.x

theorem Sl.listTo_len {α : Type} (s : Sl α) (n : Nat) : (s.listTo n).length = n := by simp [Sl.listTo]

/-- The variables of a table. -/
def vrOf (c : Col) : Vr := ⟨c.ty, c.lo, c.hi, c.mx, !c.nn⟩
def Tb.vrs (t : Tb) : List Vr := (List.range t.cols.n).map fun k => vrOf (t.cols.x k)

def frmC (p : ByteArray × ByteArray) : List Value := [.string p.1, .string p.2]

/-- The tables' columns, of the first i sources. -/
def Cs.vrs (c : Cs) (i : Nat) : List Vr := (List.range i).flatMap fun j => (c.s.x (c.frm.x j).toNat).vrs

def Cs.frms (c : Cs) (i : Nat) : List (ByteArray × ByteArray) := (List.range i).map fun j => ((c.s.x (c.frm.x j).toNat).nm, c.als.x j)

theorem range_map_succ {α : Type} (f : Nat → α) (i : Nat) : (List.range (i + 1)).map f = (List.range i).map f ++ [f i] := by rw [List.range_succ, List.map_append]; rfl

theorem range_flat_succ {α : Type} (f : Nat → List α) (i : Nat) : (List.range (i + 1)).flatMap f = (List.range i).flatMap f ++ f i := by rw [List.range_succ, List.flatMap_append]; simp

theorem catTo_range {α : Type} (f : Nat → List α) : ∀ n, catTo f n = (List.range n).flatMap f
  | 0 => rfl
  | n + 1 => by rw [range_flat_succ, catTo, catTo_range f n]

theorem flat_map' {α β γ : Type} (f : α → β) (g : β → List γ) : ∀ l : List α, (l.map f).flatMap g = l.flatMap fun x => g (f x)
  | [] => rfl
  | x :: l => by simp [flat_map' f g l]

theorem sumTo_len {α : Type} (f : Nat → List α) : ∀ n, ((List.range n).flatMap f).length = sumTo (fun i => (f i).length) n
  | 0 => rfl
  | n + 1 => by rw [range_flat_succ, List.length_append, sumTo_len f n]; rfl

theorem getD_range {α : Type} [Inhabited α] (f : Nat → α) {n i : Nat} (h : i < n) : ((List.range n).map f).getD i default = f i := by
  simp [List.getD, h]

end Go.Vae
end

section
set_option linter.unusedVariables false
namespace Go.Proofs.YtkjkcoemloakhaaGreat
open Go Go.Vae
set_option maxRecDepth 100000

/-- The cells of the bound statement under way: its condition, its sources, their tables and variables. -/
def bdL (wc : List Value) (w1 w2 w3 : Value) : List Value := [.int .i64 5, .string ⟨#[]⟩, .slice none 0 0, .slice none 0 0, .slice none 0 0, .slice none 0 0, .slice none 0 0, .slice none 0 0, .slice none 0 0, w2] ++ wc ++ [.slice none 0 0, .slice none 0 0, .int .i64 0, .string ⟨#[]⟩, .int .i64 0, w1, w3, .slice none 0 0]

def bdOf (op : Int) (tb nm : ByteArray) (ix vk vi : Int) (vt : ByteArray) (sl : Value) (n : Nat) (kid : Nat → E) (l1 : Sl Int) (l2 : Sl (ByteArray × ByteArray)) (w3 : Value) : Bd :=
  ⟨5, ⟨#[]⟩, .slice none 0 0, .slice none 0 0, .slice none 0 0, .slice none 0 0, .slice none 0 0, .slice none 0 0, .slice none 0 0, l2, op, tb, nm, ix, vk, vi, vt, sl, n, kid, .slice none 0 0, .slice none 0 0, 0, ⟨#[]⟩, 0, l1, w3, .slice none 0 0⟩

/-- What is told of the bound statement of a case. -/
structure BoundP (rd : RO) (c : Cs) (b : Bd) : Prop where
  at' : BdAt rd c.s b
  wh : b.wh = c.wh
  whAt : c.wh.At rd
  n : b.tabs.n = c.frm.n
  pos : 1 ≤ c.frm.n
  tabs : ∀ i, i < c.frm.n → b.tabs.x i = c.frm.x i
  frms : b.frm.At rd 2 frmC (fun p => strOK p.1 ∧ strOK p.2)
  fn : b.frm.n = c.frm.n
  frmx : ∀ i, i < c.frm.n → b.frm.x i = ((c.s.x (c.frm.x i).toNat).nm, c.als.x i)
  vars : ∃ l : Sl Vr, l.v = b.vars ∧ l.At rd 5 Vr.cells (fun _ => True) ∧ l.n = (c.vrs c.frm.n).length ∧ (∀ i, i < l.n → l.x i = (c.vrs c.frm.n).getD i default) ∧ (c.wh.same E.zero = true ∨ (c.wh.Ty l.lt l.n 0 ∨ c.wh.Ty l.lt l.n 3))
  bin : c.wh.bin 8
  within : ∀ l : Sl Int, l.n = c.frm.n → (∀ i, i < l.n → l.x i = (i : Int)) → c.wh.within c.s b.tabs l = true

theorem vrs_flat (t : Tb) : varsV t.cols.x t.cols.n = t.vrs.flatMap Vr.cells := by
  unfold varsV Tb.vrs
  rw [catTo_range, flat_map']
  rfl

theorem vrs_len (t : Tb) : t.vrs.length = t.cols.n := by simp [Tb.vrs]

theorem within_congr {s : Sl Tb} {t : Sl Int} {l l' : Sl Int} (h : ∀ m, hasI l m = hasI l' m) : ∀ e : E, e.within s t l = e.within s t l'
  | .nil => rfl
  | .mk op tb nm ix vk vi vt sl n kid => by
    have : (fun i => (kid i).within s t l) = fun i => (kid i).within s t l' := funext fun i => within_congr h (kid i)
    simp only [E.within, h, this]

set_option maxHeartbeats 6400000 in
theorem bound_ok {N lim : Nat} {rd : RO} (c : Cs) (h0 : AH) (H : Hp N lim rd h0) (hc : c.At rd) : Kp TT 9 [.agg ⟨c.cells⟩] h0 fun v h' => ∃ (b : Bd) (ok : Bool), v = .tuple #[.agg ⟨b.cells⟩, .bool ok] ∧ (ok = true → BoundP (rdNew N h0.sz h' rd) c b) := by
  obtain ⟨⟨sv, sn, sx⟩, ⟨fv, fn, fx⟩, ⟨av, an, ax⟩, wh⟩ := c
  obtain ⟨hsch, ⟨hfn, ⟨fa, fcap, hfv, _, _, hfx⟩, hfo⟩, ⟨han, ⟨aa, acap, hav, _, _, hax⟩, hao⟩, hwh⟩ := hc
  have hsch0 := hsch
  obtain ⟨hsn, ⟨sa, scap, hsv, _, _, hsx⟩, hso⟩ := hsch
  simp only at hsv hsx hso hsn hfv hfx hfo hfn hav hax hao han hwh
  subst hsv hfv hav
  cases wh with
  | nil => exact hwh.elim
  | mk op tb nm ix vk vi vt sl n kid =>
  have hreach : reachBytes < 2 ^ 47 := by decide
  have hle0 := H.le
  refine Kp.of (fi := Tryz.fi9) rfl rfl rfl ?_
  refine WpB.seq (WpB.region ?_)
  refine SpB.box H rfl rfl rfl rfl rfl rfl fun h g s1 b1 => ?_
  have G := g
  have H := g.hp H
  have l1 : h0.sz < h.sz := by omega
  clear g
  refine SpB.alloc H rfl rfl rfl rfl rfl fun h2 g s2 b2 => ?_
  have l2 : h.sz < h2.sz := by omega
  have G := G.more g (by omega)
  have H := g.hp H
  have b1 := g.keep l1 b1
  have l1 := g.lt l1
  clear g
  repeat first | refine qN ?_ | refine qM rfl ?_ | refine qA rfl ?_ | refine qS rfl ?_ | refine qL H b1 rfl ?_ | refine qL H b2 rfl ?_ | refine qT rfl ?_ | refine qF rfl ?_ | refine qI i (by omega) rfl ?_ | refine qI io (by omega) rfl ?_ | refine qP rfl ?_ | refine wQ ?_ | refine wR ?_ | refine wD ?_ | refine wN rfl ?_ | refine wS ?_
  refine SpB.alloc H rfl rfl rfl rfl rfl fun h3 g s3 b3 => ?_
  have l3 : h2.sz < h3.sz := by omega
  have G := G.more g (by omega)
  have H := g.hp H
  have b1 := g.keep l1 b1
  have l1 := g.lt l1
  have b2 := g.keep l2 b2
  have l2 := g.lt l2
  clear g
  refine SpB.storeO H b3 (by omega) (by omega) rfl rfl rfl rfl rfl rfl rfl rfl rfl fun h4 g4 s4 b4 f4 => ?_
  have G := G.more g4 (by omega)
  have H := g4.hpL (by omega) H
  have b1 := (f4 h0.sz (by omega)).trans b1
  have b2 := (f4 h.sz (by omega)).trans b2
  have b3 : h4.blk h2.sz = some (.cells (bdL [.int .i64 op, .string tb, .string nm, .int .i64 ix, .int .i64 vk, .int .i64 vi, .string vt, sl] (.slice none 0 0) (.slice none 0 0) (.slice none 0 0))) := b4
  have l3 : h2.sz < h4.sz := by omega
  have l12 : h.sz < h2.sz := by omega
  have l01 : h0.sz < h.sz := by omega
  clear g4 f4 b4 s4 s3 s2 s1 l1 l2
  repeat first | refine qN ?_ | refine qM rfl ?_ | refine qA rfl ?_ | refine qS rfl ?_ | refine qL H b1 rfl ?_ | refine qT rfl ?_ | refine qF rfl ?_ | refine qI i (by omega) rfl ?_ | refine qI io (by omega) rfl ?_ | refine qP rfl ?_ | refine wQ ?_ | refine wR ?_ | refine wD ?_ | refine wN rfl ?_ | refine wS ?_
  refine SpB.callK Tryz.T1OK H (by omega) (smallSchema_ok ⟨.slice sa sn scap, sn, sx⟩ h4 H hsch0) rfl rfl rfl rfl rfl ?_
  rintro r h5 ⟨q1, rfl, hq1⟩ g
  have hs5 := g.le
  have G := G.more g (by omega)
  have H := g.hp H
  have b1 := g.keep (by omega) b1
  have b2 := g.keep (by omega) b2
  have b3 := g.keep (by omega) b3
  clear g
  have hbad : ∀ {hx : AH} (w1 w2 w3 : Value) (m : Nat), h0.sz ≤ h0.sz → (∃ (b : Bd) (ok : Bool), Value.tuple #[.agg ⟨bdL [.int .i64 op, .string tb, .string nm, .int .i64 ix, .int .i64 vk, .int .i64 vi, .string vt, sl] w1 w2 w3⟩, .bool false] = .tuple #[.agg ⟨b.cells⟩, .bool ok] ∧ (ok = true → BoundP (rdNew N h0.sz hx rd) ⟨⟨.slice sa sn scap, sn, sx⟩, ⟨.slice fa fn fcap, fn, fx⟩, ⟨.slice aa an acap, an, ax⟩, .mk op tb nm ix vk vi vt sl n kid⟩ b)) :=
    fun w1 w2 w3 m _ => ⟨bdOf op tb nm ix vk vi vt sl n kid ⟨w1, m, fun _ => 0⟩ ⟨w2, m, fun _ => default⟩ w3, false, rfl, fun h => by cases h⟩
  refine qB rfl (fun c0 => ?_) fun c0 => ?_
  · repeat' first | refine qN ?_ | refine qM rfl ?_ | refine qA rfl ?_ | refine qS rfl ?_ | refine qL H b1 rfl ?_ | refine qT rfl ?_ | refine qF rfl ?_ | refine qB rfl (fun ht => ?_) fun ht => ?_ | refine qI i (by omega) rfl ?_ | refine qI io (by omega) rfl ?_ | refine qP rfl ?_ | refine wQ ?_ | refine wR ?_ | refine wD ?_ | refine wN rfl ?_ | refine wS ?_ | refine wT rfl ?_ | refine wF rfl ?_ | refine WpB.cond rfl (fun ht => ?_) fun ht => ?_
    refine SpB.loadO H b3 rfl rfl rfl rfl rfl rfl ?_
    refine SpB.storeO H b2 (by omega) (by omega) rfl rfl rfl rfl rfl rfl rfl rfl rfl fun h7 g7 s7 b7 f7 => ?_
    repeat first | refine qN ?_ | refine qM rfl ?_ | refine qA rfl ?_ | refine qS rfl ?_ | refine qL H b1 rfl ?_ | refine qT rfl ?_ | refine qF rfl ?_ | refine qI i (by omega) rfl ?_ | refine qI io (by omega) rfl ?_ | refine qP rfl ?_ | refine wQ ?_ | refine wR ?_ | refine wD ?_ | refine wN rfl ?_ | refine wS ?_ | refine wT rfl ?_ | refine wF rfl ?_
    exact WpB.ret ⟨_, resC1 rfl (partO (off := 0) (v := .agg ⟨bdL [.int .i64 op, .string tb, .string nm, .int .i64 ix, .int .i64 vk, .int .i64 vi, .string vt, sl] (.slice none 0 0) (.slice none 0 0) (.slice none 0 0)⟩) (g7.n.trans H.n) b7 rfl) rfl rfl rfl, hbad _ _ _ 0 (Nat.le_refl _), by omega⟩
  obtain ⟨hs12, hsm⟩ := hq1 (by simpa using c0)
  simp only at hs12 hsm
  repeat first | refine qN ?_ | refine qM rfl ?_ | refine qA rfl ?_ | refine qS rfl ?_ | refine qL H b1 rfl ?_ | refine qT rfl ?_ | refine qF rfl ?_ | refine qI i (by omega) rfl ?_ | refine qI io (by omega) rfl ?_ | refine qP rfl ?_ | refine wQ ?_ | refine wR ?_ | refine wD ?_ | refine wN rfl ?_ | refine wS ?_
  refine SpB.callK Tryz.T1OK H (by omega) (valid_ok ⟨.slice sa sn scap, sn, sx⟩ h5 H hsch0 hs12 hsm) rfl rfl rfl rfl rfl ?_
  rintro r h6 ⟨q2, rfl⟩ g
  have hs6 := g.le
  have G := G.more g (by omega)
  have H := g.hp H
  have b1 := g.keep (by omega) b1
  have b2 := g.keep (by omega) b2
  have b3 := g.keep (by omega) b3
  clear g
  refine qB rfl (fun c1 => ?_) fun c1 => ?_
  · repeat' first | refine qN ?_ | refine qM rfl ?_ | refine qA rfl ?_ | refine qS rfl ?_ | refine qL H b1 rfl ?_ | refine qT rfl ?_ | refine qF rfl ?_ | refine qB rfl (fun ht => ?_) fun ht => ?_ | refine qI i (by omega) rfl ?_ | refine qI io (by omega) rfl ?_ | refine qP rfl ?_ | refine wQ ?_ | refine wR ?_ | refine wD ?_ | refine wN rfl ?_ | refine wS ?_ | refine wT rfl ?_ | refine wF rfl ?_ | refine WpB.cond rfl (fun ht => ?_) fun ht => ?_
    refine SpB.loadO H b3 rfl rfl rfl rfl rfl rfl ?_
    refine SpB.storeO H b2 (by omega) (by omega) rfl rfl rfl rfl rfl rfl rfl rfl rfl fun h7 g7 s7 b7 f7 => ?_
    repeat first | refine qN ?_ | refine qM rfl ?_ | refine qA rfl ?_ | refine qS rfl ?_ | refine qL H b1 rfl ?_ | refine qT rfl ?_ | refine qF rfl ?_ | refine qI i (by omega) rfl ?_ | refine qI io (by omega) rfl ?_ | refine qP rfl ?_ | refine wQ ?_ | refine wR ?_ | refine wD ?_ | refine wN rfl ?_ | refine wS ?_ | refine wT rfl ?_ | refine wF rfl ?_
    exact WpB.ret ⟨_, resC1 rfl (partO (off := 0) (v := .agg ⟨bdL [.int .i64 op, .string tb, .string nm, .int .i64 ix, .int .i64 vk, .int .i64 vi, .string vt, sl] (.slice none 0 0) (.slice none 0 0) (.slice none 0 0)⟩) (g7.n.trans H.n) b7 rfl) rfl rfl rfl, hbad _ _ _ 0 (Nat.le_refl _), by omega⟩
  repeat first | refine qN ?_ | refine qM rfl ?_ | refine qA rfl ?_ | refine qS rfl ?_ | refine qL H b1 rfl ?_ | refine qT rfl ?_ | refine qF rfl ?_ | refine qI i (by omega) rfl ?_ | refine qI io (by omega) rfl ?_ | refine qP rfl ?_ | refine wQ ?_ | refine wR ?_ | refine wD ?_ | refine wN rfl ?_ | refine wS ?_
  refine qB rfl (fun c2 => ?_) fun c2 => ?_
  · repeat' first | refine qN ?_ | refine qM rfl ?_ | refine qA rfl ?_ | refine qS rfl ?_ | refine qL H b1 rfl ?_ | refine qT rfl ?_ | refine qF rfl ?_ | refine qB rfl (fun ht => ?_) fun ht => ?_ | refine qI i (by omega) rfl ?_ | refine qI io (by omega) rfl ?_ | refine qP rfl ?_ | refine wQ ?_ | refine wR ?_ | refine wD ?_ | refine wN rfl ?_ | refine wS ?_ | refine wT rfl ?_ | refine wF rfl ?_ | refine WpB.cond rfl (fun ht => ?_) fun ht => ?_
    refine SpB.loadO H b3 rfl rfl rfl rfl rfl rfl ?_
    refine SpB.storeO H b2 (by omega) (by omega) rfl rfl rfl rfl rfl rfl rfl rfl rfl fun h7 g7 s7 b7 f7 => ?_
    repeat first | refine qN ?_ | refine qM rfl ?_ | refine qA rfl ?_ | refine qS rfl ?_ | refine qL H b1 rfl ?_ | refine qT rfl ?_ | refine qF rfl ?_ | refine qI i (by omega) rfl ?_ | refine qI io (by omega) rfl ?_ | refine qP rfl ?_ | refine wQ ?_ | refine wR ?_ | refine wD ?_ | refine wN rfl ?_ | refine wS ?_ | refine wT rfl ?_ | refine wF rfl ?_
    exact WpB.ret ⟨_, resC1 rfl (partO (off := 0) (v := .agg ⟨bdL [.int .i64 op, .string tb, .string nm, .int .i64 ix, .int .i64 vk, .int .i64 vi, .string vt, sl] (.slice none 0 0) (.slice none 0 0) (.slice none 0 0)⟩) (g7.n.trans H.n) b7 rfl) rfl rfl rfl, hbad _ _ _ 0 (Nat.le_refl _), by omega⟩
  have c2 : ¬ (fn : Int) < 1 := of_decide_eq_false c2
  repeat first | refine qN ?_ | refine qM rfl ?_ | refine qA rfl ?_ | refine qS rfl ?_ | refine qL H b1 rfl ?_ | refine qT rfl ?_ | refine qF rfl ?_ | refine qI i (by omega) rfl ?_ | refine qI io (by omega) rfl ?_ | refine qP rfl ?_ | refine wQ ?_ | refine wR ?_ | refine wD ?_ | refine wN rfl ?_ | refine wS ?_
  refine qB rfl (fun c3 => ?_) fun c3 => ?_
  · repeat' first | refine qN ?_ | refine qM rfl ?_ | refine qA rfl ?_ | refine qS rfl ?_ | refine qL H b1 rfl ?_ | refine qT rfl ?_ | refine qF rfl ?_ | refine qB rfl (fun ht => ?_) fun ht => ?_ | refine qI i (by omega) rfl ?_ | refine qI io (by omega) rfl ?_ | refine qP rfl ?_ | refine wQ ?_ | refine wR ?_ | refine wD ?_ | refine wN rfl ?_ | refine wS ?_ | refine wT rfl ?_ | refine wF rfl ?_ | refine WpB.cond rfl (fun ht => ?_) fun ht => ?_
    refine SpB.loadO H b3 rfl rfl rfl rfl rfl rfl ?_
    refine SpB.storeO H b2 (by omega) (by omega) rfl rfl rfl rfl rfl rfl rfl rfl rfl fun h7 g7 s7 b7 f7 => ?_
    repeat first | refine qN ?_ | refine qM rfl ?_ | refine qA rfl ?_ | refine qS rfl ?_ | refine qL H b1 rfl ?_ | refine qT rfl ?_ | refine qF rfl ?_ | refine qI i (by omega) rfl ?_ | refine qI io (by omega) rfl ?_ | refine qP rfl ?_ | refine wQ ?_ | refine wR ?_ | refine wD ?_ | refine wN rfl ?_ | refine wS ?_ | refine wT rfl ?_ | refine wF rfl ?_
    exact WpB.ret ⟨_, resC1 rfl (partO (off := 0) (v := .agg ⟨bdL [.int .i64 op, .string tb, .string nm, .int .i64 ix, .int .i64 vk, .int .i64 vi, .string vt, sl] (.slice none 0 0) (.slice none 0 0) (.slice none 0 0)⟩) (g7.n.trans H.n) b7 rfl) rfl rfl rfl, hbad _ _ _ 0 (Nat.le_refl _), by omega⟩
  have c3 : ¬ (fn : Int) > 3 := of_decide_eq_false c3
  repeat first | refine qN ?_ | refine qM rfl ?_ | refine qA rfl ?_ | refine qS rfl ?_ | refine qL H b1 rfl ?_ | refine qT rfl ?_ | refine qF rfl ?_ | refine qI i (by omega) rfl ?_ | refine qI io (by omega) rfl ?_ | refine qP rfl ?_ | refine wQ ?_ | refine wR ?_ | refine wD ?_ | refine wN rfl ?_ | refine wS ?_
  refine qB rfl (fun c4 => ?_) fun c4 => ?_
  · repeat' first | refine qN ?_ | refine qM rfl ?_ | refine qA rfl ?_ | refine qS rfl ?_ | refine qL H b1 rfl ?_ | refine qT rfl ?_ | refine qF rfl ?_ | refine qB rfl (fun ht => ?_) fun ht => ?_ | refine qI i (by omega) rfl ?_ | refine qI io (by omega) rfl ?_ | refine qP rfl ?_ | refine wQ ?_ | refine wR ?_ | refine wD ?_ | refine wN rfl ?_ | refine wS ?_ | refine wT rfl ?_ | refine wF rfl ?_ | refine WpB.cond rfl (fun ht => ?_) fun ht => ?_
    refine SpB.loadO H b3 rfl rfl rfl rfl rfl rfl ?_
    refine SpB.storeO H b2 (by omega) (by omega) rfl rfl rfl rfl rfl rfl rfl rfl rfl fun h7 g7 s7 b7 f7 => ?_
    repeat first | refine qN ?_ | refine qM rfl ?_ | refine qA rfl ?_ | refine qS rfl ?_ | refine qL H b1 rfl ?_ | refine qT rfl ?_ | refine qF rfl ?_ | refine qI i (by omega) rfl ?_ | refine qI io (by omega) rfl ?_ | refine qP rfl ?_ | refine wQ ?_ | refine wR ?_ | refine wD ?_ | refine wN rfl ?_ | refine wS ?_ | refine wT rfl ?_ | refine wF rfl ?_
    exact WpB.ret ⟨_, resC1 rfl (partO (off := 0) (v := .agg ⟨bdL [.int .i64 op, .string tb, .string nm, .int .i64 ix, .int .i64 vk, .int .i64 vi, .string vt, sl] (.slice none 0 0) (.slice none 0 0) (.slice none 0 0)⟩) (g7.n.trans H.n) b7 rfl) rfl rfl rfl, hbad _ _ _ 0 (Nat.le_refl _), by omega⟩
  have c4 : an = fn := by simp at c4; omega
  subst c4
  repeat first | refine qN ?_ | refine qM rfl ?_ | refine qA rfl ?_ | refine qS rfl ?_ | refine qL H b1 rfl ?_ | refine qT rfl ?_ | refine qF rfl ?_ | refine qI i (by omega) rfl ?_ | refine qI io (by omega) rfl ?_ | refine qP rfl ?_ | refine wQ ?_ | refine wR ?_ | refine wD ?_ | refine wN rfl ?_ | refine wS ?_
  refine SpB.callK Tryz.T1OK H (by omega) (binary_ok (.mk op tb nm ix vk vi vt sl n kid) h6 8 H hwh (by omega)) rfl rfl rfl rfl rfl ?_
  rintro r h8 ⟨q3, rfl, hq3⟩ g
  have hs8 := g.le
  have G := G.more g (by omega)
  have H := g.hp H
  have b1 := g.keep (by omega) b1
  have b2 := g.keep (by omega) b2
  have b3 := g.keep (by omega) b3
  clear g
  repeat first | refine qN ?_ | refine qM rfl ?_ | refine qA rfl ?_ | refine qS rfl ?_ | refine qL H b1 rfl ?_ | refine qT rfl ?_ | refine qF rfl ?_ | refine qI i (by omega) rfl ?_ | refine qI io (by omega) rfl ?_ | refine qP rfl ?_ | refine wQ ?_ | refine wR ?_ | refine wD ?_ | refine wN rfl ?_ | refine wS ?_
  refine WpB.cond rfl (fun ht => ?_) fun ht => ?_
  · repeat first | refine qN ?_ | refine qM rfl ?_ | refine qA rfl ?_ | refine qS rfl ?_ | refine qL H b1 rfl ?_ | refine qT rfl ?_ | refine qF rfl ?_ | refine qI i (by omega) rfl ?_ | refine qI io (by omega) rfl ?_ | refine qP rfl ?_ | refine wQ ?_ | refine wR ?_ | refine wD ?_ | refine wN rfl ?_ | refine wS ?_
    refine SpB.loadO H b3 rfl rfl rfl rfl rfl rfl ?_
    refine SpB.storeO H b2 (by omega) (by omega) rfl rfl rfl rfl rfl rfl rfl rfl rfl fun h7 g7 s7 b7 f7 => ?_
    repeat first | refine qN ?_ | refine qM rfl ?_ | refine qA rfl ?_ | refine qS rfl ?_ | refine qL H b1 rfl ?_ | refine qT rfl ?_ | refine qF rfl ?_ | refine qI i (by omega) rfl ?_ | refine qI io (by omega) rfl ?_ | refine qP rfl ?_ | refine wQ ?_ | refine wR ?_ | refine wD ?_ | refine wN rfl ?_ | refine wS ?_ | refine wT rfl ?_ | refine wF rfl ?_
    exact WpB.ret ⟨_, resC1 rfl (partO (off := 0) (v := .agg ⟨bdL [.int .i64 op, .string tb, .string nm, .int .i64 ix, .int .i64 vk, .int .i64 vi, .string vt, sl] (.slice none 0 0) (.slice none 0 0) (.slice none 0 0)⟩) (g7.n.trans H.n) b7 rfl) rfl rfl rfl, hbad _ _ _ 0 (Nat.le_refl _), by omega⟩
  have hbin := hq3 (by simpa using ht)
  have l3 : h2.sz < h8.sz := by omega
  let C : Cs := ⟨⟨.slice sa sn scap, sn, sx⟩, ⟨.slice fa an fcap, an, fx⟩, ⟨.slice aa an acap, an, ax⟩, .mk op tb nm ix vk vi vt sl n kid⟩
  have hC : C = ⟨⟨.slice sa sn scap, sn, sx⟩, ⟨.slice fa an fcap, an, fx⟩, ⟨.slice aa an acap, an, ax⟩, .mk op tb nm ix vk vi vt sl n kid⟩ := rfl
  clear_value C
  repeat first | refine qN ?_ | refine qM rfl ?_ | refine qA rfl ?_ | refine qS rfl ?_ | refine qL H b1 rfl ?_ | refine qT rfl ?_ | refine qF rfl ?_ | refine qI i (by omega) rfl ?_ | refine qI io (by omega) rfl ?_ | refine qP rfl ?_ | refine wQ ?_ | refine wR ?_ | refine wD ?_ | refine wN rfl ?_ | refine wS ?_
  refine WpB.block ?_
  refine WpB.loopC an (fun i => [(5, .int .i64 (i : Int)), (1, .pointer (some ⟨N + h0.sz, 0, none⟩)), (2, .pointer (some ⟨N + h.sz, 0, none⟩)), (4, .pointer (some ⟨N + h2.sz, 0, none⟩))]) (fun i hx => ∃ w1 w2 w3, Hp N lim rd hx ∧ Grow h0 h0.sz hx ∧ h2.sz < hx.sz ∧
      hx.blk h0.sz = some (.cells (Cs.cells ⟨⟨.slice sa sn scap, sn, sx⟩, ⟨.slice fa an fcap, an, fx⟩, ⟨.slice aa an acap, an, ax⟩, .mk op tb nm ix vk vi vt sl n kid⟩)) ∧ hx.blk h.sz = some (.cells Tryz.ti51.zero) ∧
      hx.blk h2.sz = some (.cells (bdL [.int .i64 op, .string tb, .string nm, .int .i64 ix, .int .i64 vk, .int .i64 vi, .string vt, sl] w1 w2 w3)) ∧
      Own hx (h2.sz + 1) 1 w1 i ((C.frm.listTo i).flatMap intC) ∧ Own hx (h2.sz + 1) 2 w2 i ((C.frms i).flatMap frmC) ∧ Own hx (h2.sz + 1) 5 w3 (C.vrs i).length ((C.vrs i).flatMap Vr.cells) ∧ Apart w1 w2 ∧ Apart w1 w3 ∧ Apart w2 w3 ∧
      (C.vrs i).length ≤ i * 20 ∧ ∀ j, j < i → 0 ≤ fx j ∧ fx j < (sn : Int))
    ⟨.slice none 0 0, .slice none 0 0, .slice none 0 0, H, G, l3, b1, b2, b3, Own.nil _ _ _, Own.nil _ _ _, Own.nil _ _ _, Apart.nil _, Apart.nil _, Apart.nil _, Nat.le_refl _, fun j hj => absurd hj (Nat.not_lt_zero _)⟩ (by repeat first | exact sub_nil | refine sub_cons rfl ?_) ?_
  clear H G l3 b1 b2 b3 hs5 hs6 hs8
  rintro i hx hi ⟨w1, w2, w3, H, G, l3, b1, b2, b3, o1, o2, o3, a12, a13, a23, hvl, hin⟩
  have hG := G.le
  obtain ⟨wa1, wc1, hw1, _⟩ := o1.shape
  obtain ⟨wa2, wc2, hw2, _⟩ := o2.shape
  obtain ⟨wa3, wc3, hw3, _⟩ := o3.shape
  repeat first | refine qN ?_ | refine qM rfl ?_ | refine qA rfl ?_ | refine qS rfl ?_ | refine qL H b1 rfl ?_ | refine qT rfl ?_ | refine qF rfl ?_ | refine qI i (by omega) rfl ?_ | refine qI io (by omega) rfl ?_ | refine qP rfl ?_ | refine wQ ?_ | refine wR ?_ | refine wD ?_ | refine wN rfl ?_ | refine wS ?_
  refine WpB.cond rfl (fun ht => ?_) fun ht => ?_
  · have hlt : i < an := by simpa using ht
    obtain ⟨bf, off, hfa, hcf⟩ := hfx i hlt
    obtain ⟨ba, offa, haa, hca⟩ := hax i hlt
    subst hfa haa
    refine WpB.skip ?_
    refine WpB.seq (WpB.block ?_)
    repeat first | refine qN ?_ | refine qM rfl ?_ | refine qA rfl ?_ | refine qS rfl ?_ | refine qL H b1 rfl ?_ | refine qT rfl ?_ | refine qF rfl ?_ | refine qI i (by omega) rfl ?_ | refine qI io (by omega) rfl ?_ | refine qP rfl ?_ | refine wQ ?_ | refine wR ?_ | refine wD ?_ | refine wN rfl ?_ | refine wS ?_
    refine SpB.indexN hlt rfl rfl rfl rfl rfl rfl rfl rfl rfl ?_
    refine SpB.loadRC H hcf rfl rfl rfl rfl rfl rfl rfl ?_
    refine qB rfl (fun d0 => ?_) fun d0 => ?_
    · repeat' first | refine qN ?_ | refine qM rfl ?_ | refine qA rfl ?_ | refine qS rfl ?_ | refine qL H b1 rfl ?_ | refine qT rfl ?_ | refine qF rfl ?_ | refine qB rfl (fun ht => ?_) fun ht => ?_ | refine qI i (by omega) rfl ?_ | refine qI io (by omega) rfl ?_ | refine qP rfl ?_ | refine wQ ?_ | refine wR ?_ | refine wD ?_ | refine wN rfl ?_ | refine wS ?_ | refine wT rfl ?_ | refine wF rfl ?_ | refine WpB.cond rfl (fun ht => ?_) fun ht => ?_
      refine SpB.loadO H b3 rfl rfl rfl rfl rfl rfl ?_
      refine SpB.storeO H b2 (by omega) (by omega) rfl rfl rfl rfl rfl rfl rfl rfl rfl fun h7 g7 s7 b7 f7 => ?_
      repeat first | refine qN ?_ | refine qM rfl ?_ | refine qA rfl ?_ | refine qS rfl ?_ | refine qL H b1 rfl ?_ | refine qT rfl ?_ | refine qF rfl ?_ | refine qI i (by omega) rfl ?_ | refine qI io (by omega) rfl ?_ | refine qP rfl ?_ | refine wQ ?_ | refine wR ?_ | refine wD ?_ | refine wN rfl ?_ | refine wS ?_ | refine wT rfl ?_ | refine wF rfl ?_
      exact WpB.ret ⟨_, resC1 rfl (partO (off := 0) (v := .agg ⟨bdL [.int .i64 op, .string tb, .string nm, .int .i64 ix, .int .i64 vk, .int .i64 vi, .string vt, sl] w1 w2 w3⟩) (g7.n.trans H.n) b7 rfl) rfl rfl rfl, hbad _ _ _ 0 (Nat.le_refl _), by omega⟩
    have d0 : ¬ fx i < 0 := of_decide_eq_false d0
    repeat first | refine qN ?_ | refine qM rfl ?_ | refine qA rfl ?_ | refine qS rfl ?_ | refine qL H b1 rfl ?_ | refine qT rfl ?_ | refine qF rfl ?_ | refine qI i (by omega) rfl ?_ | refine qI io (by omega) rfl ?_ | refine qP rfl ?_ | refine wQ ?_ | refine wR ?_ | refine wD ?_ | refine wN rfl ?_ | refine wS ?_
    refine SpB.indexN hlt rfl rfl rfl rfl rfl rfl rfl rfl rfl ?_
    refine SpB.loadRC H hcf rfl rfl rfl rfl rfl rfl rfl ?_
    repeat first | refine qN ?_ | refine qM rfl ?_ | refine qA rfl ?_ | refine qS rfl ?_ | refine qL H b1 rfl ?_ | refine qT rfl ?_ | refine qF rfl ?_ | refine qI i (by omega) rfl ?_ | refine qI io (by omega) rfl ?_ | refine qP rfl ?_ | refine wQ ?_ | refine wR ?_ | refine wD ?_ | refine wN rfl ?_ | refine wS ?_
    refine qB rfl (fun d1 => ?_) fun d1 => ?_
    · repeat' first | refine qN ?_ | refine qM rfl ?_ | refine qA rfl ?_ | refine qS rfl ?_ | refine qL H b1 rfl ?_ | refine qT rfl ?_ | refine qF rfl ?_ | refine qB rfl (fun ht => ?_) fun ht => ?_ | refine qI i (by omega) rfl ?_ | refine qI io (by omega) rfl ?_ | refine qP rfl ?_ | refine wQ ?_ | refine wR ?_ | refine wD ?_ | refine wN rfl ?_ | refine wS ?_ | refine wT rfl ?_ | refine wF rfl ?_ | refine WpB.cond rfl (fun ht => ?_) fun ht => ?_
      refine SpB.loadO H b3 rfl rfl rfl rfl rfl rfl ?_
      refine SpB.storeO H b2 (by omega) (by omega) rfl rfl rfl rfl rfl rfl rfl rfl rfl fun h7 g7 s7 b7 f7 => ?_
      repeat first | refine qN ?_ | refine qM rfl ?_ | refine qA rfl ?_ | refine qS rfl ?_ | refine qL H b1 rfl ?_ | refine qT rfl ?_ | refine qF rfl ?_ | refine qI i (by omega) rfl ?_ | refine qI io (by omega) rfl ?_ | refine qP rfl ?_ | refine wQ ?_ | refine wR ?_ | refine wD ?_ | refine wN rfl ?_ | refine wS ?_ | refine wT rfl ?_ | refine wF rfl ?_
      exact WpB.ret ⟨_, resC1 rfl (partO (off := 0) (v := .agg ⟨bdL [.int .i64 op, .string tb, .string nm, .int .i64 ix, .int .i64 vk, .int .i64 vi, .string vt, sl] w1 w2 w3⟩) (g7.n.trans H.n) b7 rfl) rfl rfl rfl, hbad _ _ _ 0 (Nat.le_refl _), by omega⟩
    have d1 : ¬ fx i ≥ (sn : Int) := of_decide_eq_false d1
    obtain ⟨m, hm⟩ := Int.eq_ofNat_of_zero_le (show 0 ≤ fx i by omega)
    have hmn : m < sn := by omega
    repeat first | refine qN ?_ | refine qM rfl ?_ | refine qA rfl ?_ | refine qS rfl ?_ | refine qL H b1 rfl ?_ | refine qT rfl ?_ | refine qF rfl ?_ | refine qI i (by omega) rfl ?_ | refine qI io (by omega) rfl ?_ | refine qP rfl ?_ | refine wQ ?_ | refine wR ?_ | refine wD ?_ | refine wN rfl ?_ | refine wS ?_
    refine SpB.indexN hlt rfl rfl rfl rfl rfl rfl rfl rfl rfl ?_
    refine SpB.loadRC H hca rfl rfl rfl rfl rfl rfl rfl ?_
    repeat first | refine qN ?_ | refine qM rfl ?_ | refine qA rfl ?_ | refine qS rfl ?_ | refine qL H b1 rfl ?_ | refine qT rfl ?_ | refine qF rfl ?_ | refine qI i (by omega) rfl ?_ | refine qI io (by omega) rfl ?_ | refine qP rfl ?_ | refine wQ ?_ | refine wR ?_ | refine wD ?_ | refine wN rfl ?_ | refine wS ?_
    refine WpB.cond rfl (fun ht => ?_) fun ht => ?_
    · repeat first | refine qN ?_ | refine qM rfl ?_ | refine qA rfl ?_ | refine qS rfl ?_ | refine qL H b1 rfl ?_ | refine qT rfl ?_ | refine qF rfl ?_ | refine qI i (by omega) rfl ?_ | refine qI io (by omega) rfl ?_ | refine qP rfl ?_ | refine wQ ?_ | refine wR ?_ | refine wD ?_ | refine wN rfl ?_ | refine wS ?_
      refine SpB.loadO H b3 rfl rfl rfl rfl rfl rfl ?_
      refine SpB.storeO H b2 (by omega) (by omega) rfl rfl rfl rfl rfl rfl rfl rfl rfl fun h7 g7 s7 b7 f7 => ?_
      repeat first | refine qN ?_ | refine qM rfl ?_ | refine qA rfl ?_ | refine qS rfl ?_ | refine qL H b1 rfl ?_ | refine qT rfl ?_ | refine qF rfl ?_ | refine qI i (by omega) rfl ?_ | refine qI io (by omega) rfl ?_ | refine qP rfl ?_ | refine wQ ?_ | refine wR ?_ | refine wD ?_ | refine wN rfl ?_ | refine wS ?_ | refine wT rfl ?_ | refine wF rfl ?_
      exact WpB.ret ⟨_, resC1 rfl (partO (off := 0) (v := .agg ⟨bdL [.int .i64 op, .string tb, .string nm, .int .i64 ix, .int .i64 vk, .int .i64 vi, .string vt, sl] w1 w2 w3⟩) (g7.n.trans H.n) b7 rfl) rfl rfl rfl, hbad _ _ _ 0 (Nat.le_refl _), by omega⟩
    obtain ⟨bs, offs', hsa, hcs⟩ := hsx m hmn
    subst hsa
    have htm := hso m hmn
    have hts := hsm m hmn
    have hvrs : C.vrs (i + 1) = C.vrs i ++ (sx m).vrs := by
      subst hC
      show (List.range (i + 1)).flatMap _ = _
      rw [range_flat_succ]
      show _ ++ (sx (fx i).toNat).vrs = _
      rw [hm]
      rfl
    have hfrms : C.frms (i + 1) = C.frms i ++ [((sx m).nm, ax i)] := by
      subst hC
      show (List.range (i + 1)).map _ = _
      rw [range_map_succ]
      show _ ++ [((sx (fx i).toNat).nm, ax i)] = _
      rw [hm]
      rfl
    have hlist : C.frm.listTo (i + 1) = C.frm.listTo i ++ [(m : Int)] := by
      subst hC
      show (List.range (i + 1)).map _ = _
      rw [range_map_succ]
      show _ ++ [fx i] = _
      rw [hm]
      rfl
    have hvl2 := vrs_len (sx m)
    have hvf := vrs_flat (sx m)
    have htc := hts.1
    have hcol : (sx m).cols.At rd 6 Col.cells Col.ok := htm.cols
    have hvar := fun {rd' : RO} {lim' : Nat} h (Hx : Hp N lim' rd' h) (hr : rd.le rd') => variables_ok (sx m) h Hx (htm.mono hr) htc
    cases htj : sx m with
    | mk tnm tcols tkeys tfors tchk =>
    rw [htj] at hcs hvl2 hvf htc hvar hvrs hfrms htm
    have htnm := htm.nm
    simp only at hvl2 hvf htc htnm hfrms
    rw [hm] at hcf
    repeat first | refine qN ?_ | refine qM rfl ?_ | refine qA rfl ?_ | refine qS rfl ?_ | refine qL H b1 rfl ?_ | refine qT rfl ?_ | refine qF rfl ?_ | refine qI i (by omega) rfl ?_ | refine qI io (by omega) rfl ?_ | refine qP rfl ?_ | refine wQ ?_ | refine wR ?_ | refine wD ?_ | refine wN rfl ?_ | refine wS ?_
    refine SpB.indexN hlt rfl rfl rfl rfl rfl rfl rfl rfl rfl ?_
    refine SpB.loadRC H hcf rfl rfl rfl rfl rfl rfl rfl ?_
    refine SpB.indexN hmn rfl rfl rfl rfl rfl rfl rfl rfl rfl ?_
    refine SpB.loadR H hcs rfl rfl rfl rfl rfl rfl rfl ?_
    refine SpB.alloc H rfl rfl rfl rfl rfl fun h5 g5 s5 b5 => ?_
    refine SpB.storeO (g5.hp H) b5 (by omega) (by omega) rfl rfl rfl rfl rfl rfl rfl rfl rfl fun h6 g6 s6 b6 f6 => ?_
    have GA : Grow hx hx.sz h6 := g5.more g6 (Nat.le_refl _)
    have p1 := o1.apart (off := 0) (n' := 1) (c' := 1) H.n (Nat.le_refl _)
    have p2 := o2.apart (off := 0) (n' := 1) (c' := 1) H.n (Nat.le_refl _)
    have p3 := o3.apart (off := 0) (n' := 1) (c' := 1) H.n (Nat.le_refl _)
    have H := GA.hp H
    have b1 := GA.keep (by omega) b1
    have b2 := GA.keep (by omega) b2
    have b3 := GA.keep (by omega) b3
    have b4 : h6.blk hx.sz = some (.cells (Tb.mk tnm tcols tkeys tfors tchk).cells) := b6
    have o1 := o1.grow GA (Nat.le_refl _)
    have o2 := o2.grow GA (Nat.le_refl _)
    have o3 := o3.grow GA (Nat.le_refl _)
    have G := G.more GA (by omega)
    have l4 : hx.sz < h6.sz := by omega
    have ob : Own h6 hx.sz 5 (.slice (some ⟨N + hx.sz, 0, none⟩) 1 1) 1 (Tb.mk tnm tcols tkeys tfors tchk).cells := .inr ⟨hx.sz, 1, Nat.le_refl _, l4, by rw [H.n], b4, rfl, .inr ⟨rfl, by decide⟩⟩
    have a1b : Apart w1 (.slice (some ⟨N + hx.sz, 0, none⟩) 1 1) := p1
    have a2b : Apart w2 (.slice (some ⟨N + hx.sz, 0, none⟩) 1 1) := p2
    have a3b : Apart w3 (.slice (some ⟨N + hx.sz, 0, none⟩) 1 1) := p3
    clear p1 p2 p3
    clear g5 g6 f6 b6 GA s6 s5 b5
    refine SpB.nil ?_
    refine draw_intro (ws := [false, false, false, false, false, false, false, false, false, false, true]) (by repeat first | exact quiets.nil | refine quiets.q rfl (fun h => by cases h) ?_ | refine quiets.w ?_) (by kernel_rfl) ?_
    repeat first | refine qN ?_ | refine qM rfl ?_ | refine qA rfl ?_ | refine qS rfl ?_ | refine qL H b1 rfl ?_ | refine qT rfl ?_ | refine qF rfl ?_ | refine qI i (by omega) rfl ?_ | refine qI io (by omega) rfl ?_ | refine qP rfl ?_ | refine wQ ?_ | refine wR ?_ | refine wD ?_ | refine wN rfl ?_ | refine wS ?_
    refine SpB.loadO H b3 rfl rfl rfl rfl rfl rfl ?_
    repeat first | refine qN ?_ | refine qM rfl ?_ | refine qA rfl ?_ | refine qS rfl ?_ | refine qL H b1 rfl ?_ | refine qT rfl ?_ | refine qF rfl ?_ | refine qI i (by omega) rfl ?_ | refine qI io (by omega) rfl ?_ | refine qP rfl ?_ | refine wQ ?_ | refine wR ?_ | refine wD ?_ | refine wN rfl ?_ | refine wS ?_
    refine SpB.indexN hlt rfl rfl rfl rfl rfl rfl rfl rfl rfl ?_
    refine SpB.loadRC H hcf rfl rfl rfl rfl rfl rfl rfl ?_
    refine SpB.newS H rfl rfl rfl rfl rfl fun h7 g7 s7 b7 => ?_
    have H7 := g7.hp H
    have G := G.more g7 (by omega)
    have b1 := g7.keep (by omega) b1
    have b2 := g7.keep (by omega) b2
    have b3 := g7.keep (by omega) b3
    have b4 := g7.keep (by omega) b4
    have o1 := o1.grow g7 (Nat.le_refl _)
    have o2 := o2.grow g7 (Nat.le_refl _)
    have o3 := o3.grow g7 (Nat.le_refl _)
    have ob := ob.grow g7 (Nat.le_refl _)
    have o9 : Own h7 h6.sz 1 (.slice (some ⟨N + h6.sz, 0, none⟩) 1 1) 1 [.int .i64 (m : Int)] := .inr ⟨h6.sz, 1, Nat.le_refl _, by omega, by rw [H7.n], b7, rfl, .inr ⟨rfl, by decide⟩⟩
    subst hw1 hw2 hw3
    refine SpB.appendB (st := 24) (xt := 24) H7 o1 (by omega) o9.src rfl (by omega) (by omega) (show (i + 1) * 8 ≤ 70368744177664 by omega) rfl rfl rfl rfl rfl rfl rfl rfl rfl rfl rfl rfl rfl rfl ?_
    intro v1 h8 acc o1' g8 H8 k8
    obtain ⟨o2, a12⟩ := k8 _ _ _ _ _ o2 a12
    obtain ⟨o3, a13⟩ := k8 _ _ _ _ _ o3 a13
    obtain ⟨ob, a1b⟩ := k8 _ _ _ _ _ ob a1b
    have l8 := g8.le
    have G := G.more g8 (by omega)
    have b1 := g8.keepL (by omega) (by omega) b1
    have b2 := g8.keepL (by omega) (by omega) b2
    have b3 := g8.keepL (by omega) (by omega) b3
    obtain ⟨va1, vc1, hv1, _⟩ := o1'.shape
    subst hv1
    clear g7 g8 k8 o9 b7 b4 H7 H o1
    repeat first | refine SpB.pureS rfl rfl rfl rfl rfl rfl ?_
    refine SpB.storeO H8 b3 (by omega) (by omega) rfl rfl rfl rfl rfl rfl rfl rfl rfl fun h9 g9 s9 b9 f9 => ?_
    have H9 := g9.hpL (by omega) H8
    have G := G.more g9 (by omega)
    have b1 := (f9 h0.sz (by omega)).trans b1
    have b2 := (f9 h.sz (by omega)).trans b2
    have b3 : h9.blk h2.sz = some (.cells (bdL [.int .i64 op, .string tb, .string nm, .int .i64 ix, .int .i64 vk, .int .i64 vi, .string vt, sl] (.slice va1 (i + 1) vc1) (.slice wa2 i wc2) (.slice wa3 (C.vrs i).length wc3))) := b9
    have o1 := o1'.put g9 f9 (Nat.lt_succ_self _)
    have o2 := o2.put g9 f9 (Nat.lt_succ_self _)
    have o3 := o3.put g9 f9 (Nat.lt_succ_self _)
    have ob := ob.put g9 f9 (by omega)
    have b4 := ob.blkOf H9.n
    clear g9 f9 b9 o1' H8
    refine SpB.nil ?_
    refine draw_intro (ws := [false, false, false, false, false, false, false, false, true, false, true]) (by repeat first | exact quiets.nil | refine quiets.q rfl (fun h => by cases h) ?_ | refine quiets.w ?_) (by kernel_rfl) ?_
    repeat first | refine qN ?_ | refine qM rfl ?_ | refine qA rfl ?_ | refine qS rfl ?_ | refine qL H b1 rfl ?_ | refine qT rfl ?_ | refine qF rfl ?_ | refine qI i (by omega) rfl ?_ | refine qI io (by omega) rfl ?_ | refine qP rfl ?_ | refine wQ ?_ | refine wR ?_ | refine wD ?_ | refine wN rfl ?_ | refine wS ?_
    refine SpB.loadO H9 b3 rfl rfl rfl rfl rfl rfl ?_
    repeat first | refine qN ?_ | refine qM rfl ?_ | refine qA rfl ?_ | refine qS rfl ?_ | refine qL H b1 rfl ?_ | refine qT rfl ?_ | refine qF rfl ?_ | refine qI i (by omega) rfl ?_ | refine qI io (by omega) rfl ?_ | refine qP rfl ?_ | refine wQ ?_ | refine wR ?_ | refine wD ?_ | refine wN rfl ?_ | refine wS ?_
    refine SpB.loadO H9 b4 rfl rfl rfl rfl rfl rfl ?_
    repeat first | refine qN ?_ | refine qM rfl ?_ | refine qA rfl ?_ | refine qS rfl ?_ | refine qL H b1 rfl ?_ | refine qT rfl ?_ | refine qF rfl ?_ | refine qI i (by omega) rfl ?_ | refine qI io (by omega) rfl ?_ | refine qP rfl ?_ | refine wQ ?_ | refine wR ?_ | refine wD ?_ | refine wN rfl ?_ | refine wS ?_
    refine SpB.loadO H9 b1 rfl rfl rfl rfl rfl rfl ?_
    repeat first | refine qN ?_ | refine qM rfl ?_ | refine qA rfl ?_ | refine qS rfl ?_ | refine qL H b1 rfl ?_ | refine qT rfl ?_ | refine qF rfl ?_ | refine qI i (by omega) rfl ?_ | refine qI io (by omega) rfl ?_ | refine qP rfl ?_ | refine wQ ?_ | refine wR ?_ | refine wD ?_ | refine wN rfl ?_ | refine wS ?_
    refine SpB.indexN hlt rfl rfl rfl rfl rfl rfl rfl rfl rfl ?_
    refine SpB.loadRC H9 hca rfl rfl rfl rfl rfl rfl rfl ?_
    repeat first | refine qN ?_ | refine qM rfl ?_ | refine qA rfl ?_ | refine qS rfl ?_ | refine qL H b1 rfl ?_ | refine qT rfl ?_ | refine qF rfl ?_ | refine qI i (by omega) rfl ?_ | refine qI io (by omega) rfl ?_ | refine qP rfl ?_ | refine wQ ?_ | refine wR ?_ | refine wD ?_ | refine wN rfl ?_ | refine wS ?_
    refine SpB.newS H9 rfl rfl rfl rfl rfl fun h7 g7 s7' b7 => ?_
    have H7 := g7.hp H9
    have G := G.more g7 (by omega)
    have b1 := g7.keep (by omega) b1
    have b2 := g7.keep (by omega) b2
    have b3 := g7.keep (by omega) b3
    have o1 := o1.grow g7 (Nat.le_refl _)
    have o2 := o2.grow g7 (Nat.le_refl _)
    have o3 := o3.grow g7 (Nat.le_refl _)
    have ob := ob.grow g7 (Nat.le_refl _)
    have o9 : Own h7 h9.sz 2 (.slice (some ⟨N + h9.sz, 0, none⟩) 1 1) 1 [.string tnm, .string (ax i)] := .inr ⟨h9.sz, 1, Nat.le_refl _, by omega, by rw [H7.n], b7, rfl, .inr ⟨rfl, by decide⟩⟩
    refine SpB.appendB (st := 44) (xt := 44) H7 o2 (by omega) o9.src rfl (by omega) (by omega) (show (i + 1) * 32 ≤ 70368744177664 by omega) rfl rfl rfl rfl rfl rfl rfl rfl rfl rfl rfl rfl rfl rfl ?_
    intro v2 h8 acc o2' g8 H8 k8
    obtain ⟨o1, a12⟩ := k8 _ _ _ _ _ o1 a12.symm
    obtain ⟨o3, a23⟩ := k8 _ _ _ _ _ o3 a23
    obtain ⟨ob, a2b⟩ := k8 _ _ _ _ _ ob a2b
    have l8' := g8.le
    have G := G.more g8 (by omega)
    have b1 := g8.keepL (by omega) (by omega) b1
    have b2 := g8.keepL (by omega) (by omega) b2
    have b3 := g8.keepL (by omega) (by omega) b3
    obtain ⟨va2, vc2, hv2, _⟩ := o2'.shape
    subst hv2
    clear g7 g8 k8 o9 b7 b4 H7 H9 o2
    repeat first | refine SpB.pureS rfl rfl rfl rfl rfl rfl ?_
    refine SpB.storeO H8 b3 (by omega) (by omega) rfl rfl rfl rfl rfl rfl rfl rfl rfl fun h9' g9 s9' b9 f9 => ?_
    have H9 := g9.hpL (by omega) H8
    have G := G.more g9 (by omega)
    have b1 := (f9 h0.sz (by omega)).trans b1
    have b2 := (f9 h.sz (by omega)).trans b2
    have b3 : h9'.blk h2.sz = some (.cells (bdL [.int .i64 op, .string tb, .string nm, .int .i64 ix, .int .i64 vk, .int .i64 vi, .string vt, sl] (.slice va1 (i + 1) vc1) (.slice va2 (i + 1) vc2) (.slice wa3 (C.vrs i).length wc3))) := b9
    have o1 := o1.put g9 f9 (Nat.lt_succ_self _)
    have o2 := o2'.put g9 f9 (Nat.lt_succ_self _)
    have o3 := o3.put g9 f9 (Nat.lt_succ_self _)
    have ob := ob.put g9 f9 (by omega)
    have b4 := ob.blkOf H9.n
    clear g9 f9 b9 o2' H8
    refine SpB.nil ?_
    refine draw_intro (ws := [false, false, false, false, false, false, false, false, false, false, false, false, true, false, false, true]) (by repeat first | exact quiets.nil | refine quiets.q rfl (fun h => by cases h) ?_ | refine quiets.w ?_) (by kernel_rfl) ?_
    repeat first | refine qN ?_ | refine qM rfl ?_ | refine qA rfl ?_ | refine qS rfl ?_ | refine qL H b1 rfl ?_ | refine qT rfl ?_ | refine qF rfl ?_ | refine qI i (by omega) rfl ?_ | refine qI io (by omega) rfl ?_ | refine qP rfl ?_ | refine wQ ?_ | refine wR ?_ | refine wD ?_ | refine wN rfl ?_ | refine wS ?_
    refine SpB.loadO H9 b3 rfl rfl rfl rfl rfl rfl ?_
    refine SpB.loadO H9 b4 rfl rfl rfl rfl rfl rfl ?_
    refine SpB.callK Tryz.T1OK H9 (by omega) (hvar h9' H9 (RO.le.refl rd)) rfl rfl rfl rfl rfl ?_
    rintro r h5 o9 g
    rw [hvf] at o9
    have hs5 := g.le
    have H := g.hp H9
    have G := G.more g (by omega)
    have b1 := g.keep (by omega) b1
    have b2 := g.keep (by omega) b2
    have b3 := g.keep (by omega) b3
    have o1 := o1.grow g (Nat.le_refl _)
    have o2 := o2.grow g (Nat.le_refl _)
    have o3 := o3.grow g (Nat.le_refl _)
    clear g b4 ob H9
    refine SpB.appendB (st := 48) (xt := 48) H o3 (by omega) o9.src (by rw [flat_len (size := 5) (fun _ _ => rfl), hvl2]) (by omega) (by omega) (show ((C.vrs i).length + tcols.n) * 40 ≤ 70368744177664 by omega) rfl rfl rfl rfl rfl rfl rfl rfl rfl rfl rfl rfl rfl rfl ?_
    intro v3 h8 acc o3' g8 H8 k8
    obtain ⟨o1, a13⟩ := k8 _ _ _ _ _ o1 a13.symm
    obtain ⟨o2, a23⟩ := k8 _ _ _ _ _ o2 a23.symm
    have l8'' := g8.le
    have G := G.more g8 (by omega)
    have b1 := g8.keepL (by omega) (by omega) b1
    have b2 := g8.keepL (by omega) (by omega) b2
    have b3 := g8.keepL (by omega) (by omega) b3
    obtain ⟨va3, vc3, hv3, _⟩ := o3'.shape
    subst hv3
    clear g8 k8 o9 H o3
    repeat first | refine SpB.pureS rfl rfl rfl rfl rfl rfl ?_
    refine SpB.storeO H8 b3 (by omega) (by omega) rfl rfl rfl rfl rfl rfl rfl rfl rfl fun h9'' g9 s9'' b9 f9 => ?_
    have H9 := g9.hpL (by omega) H8
    have G := G.more g9 (by omega)
    have b1 := (f9 h0.sz (by omega)).trans b1
    have b2 := (f9 h.sz (by omega)).trans b2
    have o1 := o1.put g9 f9 (Nat.lt_succ_self _)
    have o2 := o2.put g9 f9 (Nat.lt_succ_self _)
    have o3 := o3'.put g9 f9 (Nat.lt_succ_self _)
    refine SpB.nil ?_
    refine draw_intro (ws := [false, false, false, false, true, false, true]) (by repeat first | exact quiets.nil | refine quiets.q rfl (fun h => by cases h) ?_ | refine quiets.w ?_) (by kernel_rfl) ?_
    repeat first | refine qN ?_ | refine qM rfl ?_ | refine qA rfl ?_ | refine qS rfl ?_ | refine qL H b1 rfl ?_ | refine qT rfl ?_ | refine qF rfl ?_ | refine qI i (by omega) rfl ?_ | refine qI io (by omega) rfl ?_ | refine qP rfl ?_ | refine wQ ?_ | refine wR ?_ | refine wD ?_ | refine wN rfl ?_ | refine wS ?_
    refine ⟨hlt, (by repeat first | exact sub_nil | refine sub_cons rfl ?_), ⟨_, _, _, H9, G, by omega, b1, b2, b9, ?_, ?_, ?_, a12.symm, a13.symm, a23.symm, ?_, fun j hj => ?_⟩, rfl⟩
    · rw [hlist, List.flatMap_append]; exact o1
    · rw [hfrms, List.flatMap_append]; exact o2
    · rw [hvrs, List.flatMap_append, List.length_append, hvl2]; exact o3
    · rw [hvrs, List.length_append, hvl2]; omega
    · by_cases e : j = i
      · subst e; omega
      · exact hin j (by omega)
  · refine WpB.exit ?_
    have hge : ¬ i < an := by simpa using ht
    obtain rfl : i = an := by omega
    have e1 : (C.frm.listTo i).length = i := Sl.listTo_len _ _
    have e2 : (C.frms i).length = i := by simp [Cs.frms]
    have hall := H.le_all
    subst hw1 hw2 hw3
    have g1 : ∀ j, j < i → (C.frm.listTo i).getD j default = fx j := fun j hj => by subst hC; exact getD_range _ hj
    have hw64 : ∀ x ∈ C.frm.listTo i, w64 x := fun x hx => by
      subst hC
      obtain ⟨j, hj, rfl⟩ := List.mem_map.1 hx
      exact hfo j (by simpa using hj)
    have hfs : ∀ p ∈ C.frms i, strOK p.1 ∧ strOK p.2 := fun p hp => by
      subst hC
      obtain ⟨j, hj, rfl⟩ := List.mem_map.1 hp
      have hj : j < i := by simpa using hj
      have := hin j hj
      exact ⟨(hso (fx j).toNat (by omega)).nm, hao j hj⟩
    have hvn : (C.vrs i).length ≤ 60 := by omega
    have mk : ∀ (r : RO), rd.le r → Sl.At r 1 intC w64 (Sl.of (.slice wa1 i wc1) (C.frm.listTo i)) → BdAt r ⟨.slice sa sn scap, sn, sx⟩ (bdOf op tb nm ix vk vi vt sl n kid (Sl.of (.slice wa1 i wc1) (C.frm.listTo i)) (Sl.of (.slice wa2 i wc2) (C.frms i)) (.slice wa3 (C.vrs i).length wc3)) := fun r hr hA =>
      ⟨hsch0.mono hr, ⟨hs12, hsm⟩, hA, by show (C.frm.listTo i).length ≤ 3; omega, fun j hj => by
        have hj : j < (C.frm.listTo i).length := hj
        show 0 ≤ (C.frm.listTo i).getD j default ∧ (C.frm.listTo i).getD j default < (sn : Int)
        rw [g1 j (by omega)]
        exact hin j (by omega)⟩
    repeat first | refine qN ?_ | refine qM rfl ?_ | refine qA rfl ?_ | refine qS rfl ?_ | refine qL H b1 rfl ?_ | refine qT rfl ?_ | refine qF rfl ?_ | refine qI i (by omega) rfl ?_ | refine qI io (by omega) rfl ?_ | refine qP rfl ?_ | refine wQ ?_ | refine wR ?_ | refine wD ?_ | refine wN rfl ?_ | refine wS ?_
    refine SpB.loadO H b3 rfl rfl rfl rfl rfl rfl ?_
    repeat first | refine qN ?_ | refine qM rfl ?_ | refine qA rfl ?_ | refine qS rfl ?_ | refine qL H b1 rfl ?_ | refine qT rfl ?_ | refine qF rfl ?_ | refine qI i (by omega) rfl ?_ | refine qI io (by omega) rfl ?_ | refine qP rfl ?_ | refine wQ ?_ | refine wR ?_ | refine wD ?_ | refine wN rfl ?_ | refine wS ?_
    refine SpB.loadO H b3 rfl rfl rfl rfl rfl rfl ?_
    repeat first | refine qN ?_ | refine qM rfl ?_ | refine qA rfl ?_ | refine qS rfl ?_ | refine qL H b1 rfl ?_ | refine qT rfl ?_ | refine qF rfl ?_ | refine qI i (by omega) rfl ?_ | refine qI io (by omega) rfl ?_ | refine qP rfl ?_ | refine wQ ?_ | refine wR ?_ | refine wD ?_ | refine wN rfl ?_ | refine wS ?_
    refine SpB.newS H rfl rfl rfl rfl rfl fun h7 g7 s7 b7 => ?_
    have H := g7.hp H
    have G := G.more g7 (by omega)
    have b1 := g7.keep (by omega) b1
    have b2 := g7.keep (by omega) b2
    have b3 := g7.keep (by omega) b3
    have o1 := o1.grow g7 (Nat.le_refl _)
    have o2 := o2.grow g7 (Nat.le_refl _)
    have o3 := o3.grow g7 (Nat.le_refl _)
    have o9 : Own h7 hx.sz 1 (.slice (some ⟨N + hx.sz, 0, none⟩) 3 3) 3 [.int .i64 0, .int .i64 1, .int .i64 2] := .inr ⟨hx.sz, 3, Nat.le_refl _, by omega, by rw [H.n], b7, rfl, .inr ⟨rfl, by decide⟩⟩
    clear g7
    repeat first | refine qN ?_ | refine qM rfl ?_ | refine qA rfl ?_ | refine qS rfl ?_ | refine qL H b1 rfl ?_ | refine qT rfl ?_ | refine qF rfl ?_ | refine qI i (by omega) rfl ?_ | refine qI io (by omega) rfl ?_ | refine qP rfl ?_ | refine wQ ?_ | refine wR ?_ | refine wD ?_ | refine wN rfl ?_ | refine wS ?_
    refine SpB.pure (v := .slice (some ⟨N + hx.sz, 0, none⟩) i 3) rfl rfl (by have hi3 : i = 1 ∨ i = 2 ∨ i = 3 := (by omega); rcases hi3 with rfl | rfl | rfl <;> rfl) rfl rfl ?_
    have hl9 : Sl.ints (rdAll h7) ⟨.slice (some ⟨N + hx.sz, 0, none⟩) i 3, i, fun j => (j : Int)⟩ := by
      obtain ⟨a9, cap9, e9, _, _, hx9⟩ := own_sat (cells := intC) (xs := [0, 1, 2]) o9 (fun _ _ => rfl) rfl (by decide)
      injection e9 with e9
      refine ⟨by show i ≤ _; omega, ⟨_, 3, rfl, by show i ≤ 3; omega, .inl (by decide), fun j hj => ?_⟩, fun j hj => ?_⟩
      · have hj : j < i := hj
        obtain ⟨b, off, h1, h2⟩ := hx9 j (by omega)
        refine ⟨b, off, e9.trans h1, ?_⟩
        have hj3 : j = 0 ∨ j = 1 ∨ j = 2 := by omega
        rcases hj3 with rfl | rfl | rfl <;> exact h2
      · have hj : j < i := hj
        show -9223372036854775808 ≤ (j : Int) ∧ (j : Int) ≤ 9223372036854775807
        omega
    have hall := H.le_all
    have e3 : Own h7 (h2.sz + 1) 1 (.slice wa1 i wc1) (C.frm.listTo i).length ((C.frm.listTo i).flatMap intC) := by rw [e1]; exact o1
    have e4 : Own h7 (h2.sz + 1) 2 (.slice wa2 i wc2) (C.frms i).length ((C.frms i).flatMap frmC) := by rw [e2]; exact o2
    have hB := mk (rdAll h7) hall (own_At e3 (fun _ _ => rfl) (by omega) hw64)
    refine SpB.callK Tryz.T1OK H (by omega) (within_ok ⟨.slice sa sn scap, sn, sx⟩ _ ⟨.slice (some ⟨N + hx.sz, 0, none⟩) i 3, i, fun j => (j : Int)⟩ hB hl9 (.mk op tb nm ix vk vi vt sl n kid) h7 H.all (E.At.mono hall hwh)) rfl rfl rfl rfl rfl ?_
    rintro r h8 hr g
    have hs8 := g.le
    have H := g.hp H
    have G := G.more g (by omega)
    have b1 := g.keep (by omega) b1
    have b2 := g.keep (by omega) b2
    have b3 := g.keep (by omega) b3
    have o1 := o1.grow g (Nat.le_refl _)
    have o2 := o2.grow g (Nat.le_refl _)
    have o3 := o3.grow g (Nat.le_refl _)
    clear g o9 hl9 hB hall e3 e4 b7
    generalize hq : (E.mk op tb nm ix vk vi vt sl n kid).within _ _ _ = q at hr
    subst hr
    cases q with
    | false =>
      repeat' first | refine qN ?_ | refine qM rfl ?_ | refine qA rfl ?_ | refine qS rfl ?_ | refine qL H b1 rfl ?_ | refine qT rfl ?_ | refine qF rfl ?_ | refine qB rfl (fun ht => ?_) fun ht => ?_ | refine qI i (by omega) rfl ?_ | refine qI io (by omega) rfl ?_ | refine qP rfl ?_ | refine wQ ?_ | refine wR ?_ | refine wD ?_ | refine wN rfl ?_ | refine wS ?_ | refine wT rfl ?_ | refine wF rfl ?_ | refine WpB.cond rfl (fun ht => ?_) fun ht => ?_
      refine SpB.storeO H b2 (by omega) (by omega) rfl rfl rfl rfl rfl rfl rfl rfl rfl fun h9 g9 s9 b9 f9 => ?_
      repeat first | refine SpB.assign rfl rfl rfl rfl rfl ?_
      refine SpB.nil ?_
      refine draw_introK (K := h.sz) (ws := [0, 0, 0, 0, 0, 0, 0, 0, 0, 0, 0, 0, 0, 0, 0, 0, 0, 0, 2, 3, 0]) (by repeat first | exact quietsK.nil | refine quietsK.q rfl (fun h => by cases h) ?_ | refine quietsK.w ?_ | refine quietsK.r rfl rfl rfl (fun x hx => by cases hx) ?_ | refine quietsK.r rfl rfl rfl (rdOf_low (by assumption) (by omega)) ?_ | refine quietsK.x (fun x hx => by simp only [List.mem_singleton] at hx; omega) rfl ?_) (by kernel_rfl) ?_
      repeat first | refine qN ?_ | refine qM rfl ?_ | refine qA rfl ?_ | refine qS rfl ?_ | refine qL H b1 rfl ?_ | refine qT rfl ?_ | refine qF rfl ?_ | refine qI i (by omega) rfl ?_ | refine qI io (by omega) rfl ?_ | refine qP rfl ?_ | refine wQ ?_ | refine wR ?_ | refine wD ?_ | refine wN rfl ?_ | refine wS ?_ | refine wT rfl ?_ | refine wF rfl ?_
      exact WpB.ret ⟨_, resC1 rfl (partO (off := 0) (v := .agg ⟨bdL [.int .i64 op, .string tb, .string nm, .int .i64 ix, .int .i64 vk, .int .i64 vi, .string vt, sl] (.slice wa1 i wc1) (.slice wa2 i wc2) (.slice wa3 (C.vrs i).length wc3)⟩) (g9.n.trans H.n) b9 rfl) rfl rfl rfl, hbad _ _ _ 0 (Nat.le_refl _), by omega⟩
    | true =>
      repeat first | refine qN ?_ | refine qM rfl ?_ | refine qA rfl ?_ | refine qS rfl ?_ | refine qL H b1 rfl ?_ | refine qT rfl ?_ | refine qF rfl ?_ | refine qI i (by omega) rfl ?_ | refine qI io (by omega) rfl ?_ | refine qP rfl ?_ | refine wQ ?_ | refine wR ?_ | refine wD ?_ | refine wN rfl ?_ | refine wS ?_
      refine SpB.loadO H b3 rfl rfl rfl rfl rfl rfl ?_
      have hall := H.le_all
      have hV : Sl.At (rdAll h8) 5 Vr.cells (fun _ => True) (Sl.of (.slice wa3 (C.vrs i).length wc3) (C.vrs i)) := own_At o3 (fun _ _ => rfl) (by omega) (fun _ _ => trivial)
      refine SpB.callK Tryz.T1OK H (by omega) (bound32_ok _ hV (.mk op tb nm ix vk vi vt sl n kid) h8 H.all (E.At.mono hall hwh)) rfl rfl rfl rfl rfl ?_
      rintro r h9 ⟨q2, rfl, hq2⟩ g
      have hs9 := g.le
      have H := g.hp H
      have G := G.more g (by omega)
      have b1 := g.keep (by omega) b1
      have b2 := g.keep (by omega) b2
      have b3 := g.keep (by omega) b3
      have o1 := o1.grow g (Nat.le_refl _)
      have o2 := o2.grow g (Nat.le_refl _)
      have o3 := o3.grow g (Nat.le_refl _)
      clear g hV hall
      repeat first | refine qN ?_ | refine qM rfl ?_ | refine qA rfl ?_ | refine qS rfl ?_ | refine qL H b1 rfl ?_ | refine qT rfl ?_ | refine qF rfl ?_ | refine qI i (by omega) rfl ?_ | refine qI io (by omega) rfl ?_ | refine qP rfl ?_ | refine wQ ?_ | refine wR ?_ | refine wD ?_ | refine wN rfl ?_ | refine wS ?_
      refine SpB.storeO H b2 (by omega) (by omega) rfl rfl rfl rfl rfl rfl rfl rfl rfl fun h10 g10 s10 b10 f10 => ?_
      have H10 := g10.hpL (by omega) H
      have o1 := o1.put g10 f10 (by omega)
      have o2 := o2.put g10 f10 (by omega)
      have o3 := o3.put g10 f10 (by omega)
      have e3 : Own h10 (h2.sz + 1) 1 (.slice wa1 i wc1) (C.frm.listTo i).length ((C.frm.listTo i).flatMap intC) := by rw [e1]; exact o1
      have e4 : Own h10 (h2.sz + 1) 2 (.slice wa2 i wc2) (C.frms i).length ((C.frms i).flatMap frmC) := by rw [e2]; exact o2
      have hr : rd.le (rdNew N h0.sz h10 rd) := le_rdNew H10 (RO.old.refl _ _)
      have hA := own_newAt (rd := rd) (A := h0.sz) (ok := w64) H10.n e3 (by omega) (fun _ _ => rfl) (by omega) hw64
      have hF := own_newAt (rd := rd) (A := h0.sz) H10.n e4 (by omega) (fun _ _ => rfl) (by omega) hfs
      have hV := own_newAt (rd := rd) (A := h0.sz) (ok := fun _ => True) H10.n o3 (by omega) (fun _ _ => rfl) (by omega) (fun _ _ => trivial)
      repeat first | refine SpB.assign rfl rfl rfl rfl rfl ?_
      refine SpB.nil ?_
      refine draw_introK (K := h.sz) (ws := [0, 0, 0, 0, 0, 0, 0, 0, 0, 0, 0, 0, 0, 0, 0, 0, 0, 0, 2, 3, 0]) (by repeat first | exact quietsK.nil | refine quietsK.q rfl (fun h => by cases h) ?_ | refine quietsK.w ?_ | refine quietsK.r rfl rfl rfl (fun x hx => by cases hx) ?_ | refine quietsK.r rfl rfl rfl (rdOf_low (by assumption) (by omega)) ?_ | refine quietsK.x (fun x hx => by simp only [List.mem_singleton] at hx; omega) rfl ?_) (by kernel_rfl) ?_
      repeat first | refine qN ?_ | refine qM rfl ?_ | refine qA rfl ?_ | refine qS rfl ?_ | refine qL H b1 rfl ?_ | refine qT rfl ?_ | refine qF rfl ?_ | refine qI i (by omega) rfl ?_ | refine qI io (by omega) rfl ?_ | refine qP rfl ?_ | refine wQ ?_ | refine wR ?_ | refine wD ?_ | refine wN rfl ?_ | refine wS ?_ | refine wT rfl ?_ | refine wF rfl ?_
      refine WpB.ret ⟨_, resC1 rfl (partO (off := 0) (v := .agg ⟨bdL [.int .i64 op, .string tb, .string nm, .int .i64 ix, .int .i64 vk, .int .i64 vi, .string vt, sl] (.slice wa1 i wc1) (.slice wa2 i wc2) (.slice wa3 (C.vrs i).length wc3)⟩) (g10.n.trans H.n) b10 rfl) rfl rfl rfl, ⟨bdOf op tb nm ix vk vi vt sl n kid (Sl.of (.slice wa1 i wc1) (C.frm.listTo i)) (Sl.of (.slice wa2 i wc2) (C.frms i)) (.slice wa3 (C.vrs i).length wc3), q2, rfl, fun hok => ?_⟩, by omega⟩
      exact ⟨mk _ hr hA, rfl, E.At.mono hr hwh, e1, by show 1 ≤ i; omega, g1, hF, e2, fun j hj => by subst hC; exact getD_range _ hj, ⟨Sl.of (.slice wa3 (C.vrs i).length wc3) (C.vrs i), rfl, hV, by subst hC; rfl, fun j hj => by subst hC; rfl, hq2 hok⟩, hbin, fun l hl hx => by
        rw [← hq]
        refine within_congr (fun m => ?_) _
        unfold hasI
        rw [hl]
        apply Bool.eq_iff_iff.2
        simp only [List.any_eq_true, List.mem_range]
        exact ⟨fun ⟨j, h1, h2⟩ => ⟨j, h1, by rw [hx j (by rw [hl]; exact h1)] at h2; exact h2⟩, fun ⟨j, h1, h2⟩ => ⟨j, h1, by rw [hx j (by rw [hl]; exact h1)]; exact h2⟩⟩⟩

end Go.Proofs.YtkjkcoemloakhaaGreat
end

section
set_option linter.unusedVariables false
namespace Go.Proofs.YtkjkcoemloakhaaGreat
open Go Go.Vae
set_option maxRecDepth 100000

theorem partExpr {rd : RO} {xs : List E} (hx : ∀ x ∈ xs, x.At rd) {i : Nat} (h : i < xs.length) : partT TT 30 (exprsV xs) (0 + i * 8) = some (.agg ⟨xs[i].cells⟩) := by
  show (lcut (exprsV xs) (0 + i * 8) 8).map mkAgg = _
  rw [Nat.zero_add]
  have : lcut (exprsV xs) (i * 8) 8 = some (xs[i].cells) := lcut_flat (fun x hxx => E.cells_len (hx x hxx)) h
  rw [this]
  rfl

set_option maxHeartbeats 1600000 in
theorem law5_ok {N lim : Nat} {rd : RO} (c : Cs) (h0 : AH) (H : Hp N lim rd h0) (hc : c.At rd) : Kp TT 5 [.agg ⟨c.cells⟩] h0 fun v _ => v = .bool true := by
  have hB := fun h (H : Hp N lim rd h) => bound_ok c h H hc
  have hbc : ∀ (b : Bd) (r : RO), BoundP r c b → c.wh.bin 8 := fun b r h => h.bin
  obtain ⟨⟨sv, sn, sx⟩, ⟨fv, fn, fx⟩, ⟨av, an, ax⟩, wh⟩ := c
  have hwh := hc.wh
  simp only at hwh hbc
  cases wh with
  | nil => exact hwh.elim
  | mk op tb nm ix vk vi vt sl n kid =>
  refine Kp.of (fi := Tryz.fi5) rfl rfl rfl ?_
  refine WpB.seq (WpB.region ?_)
  refine SpB.box H rfl rfl rfl rfl rfl rfl fun h g s1 b1 => ?_
  have hle := H.le
  have H := g.hp H
  have l1 : h0.sz < h.sz := by omega
  clear g s1
  repeat first | refine qN ?_ | refine qM rfl ?_ | refine qA rfl ?_ | refine qS rfl ?_ | refine qL H b1 rfl ?_ | refine qT rfl ?_ | refine qF rfl ?_ | refine qI i (by omega) rfl ?_ | refine qI io (by omega) rfl ?_ | refine qP rfl ?_ | refine wQ ?_ | refine wR ?_ | refine wD ?_ | refine wN rfl ?_ | refine wS ?_
  refine SpB.callK Tryz.T1OK H (by omega) (hB h H) rfl rfl rfl rfl rfl ?_
  rintro r h2 ⟨b, ok, rfl, hP⟩ g
  have hs2 := g.le
  have H := g.hp H
  have b1 := g.keep l1 b1
  have l1 := g.lt l1
  clear g
  repeat first | refine qN ?_ | refine qM rfl ?_ | refine qA rfl ?_ | refine qS rfl ?_ | refine qL H b1 rfl ?_ | refine qT rfl ?_ | refine qF rfl ?_ | refine qI i (by omega) rfl ?_ | refine qI io (by omega) rfl ?_ | refine qP rfl ?_ | refine wQ ?_ | refine wR ?_ | refine wD ?_ | refine wN rfl ?_ | refine wS ?_
  refine SpB.alloc H rfl rfl rfl rfl rfl fun h3 g s3 b3 => ?_
  have l3 : h2.sz < h3.sz := by omega
  have H := g.hp H
  have b1 := g.keep l1 b1
  have l1 := g.lt l1
  clear g
  refine SpB.storeO H b3 (by omega) (by omega) rfl rfl rfl rfl rfl rfl rfl rfl rfl fun h4 g4 s4 b4 f4 => ?_
  have H := g4.hpL (by omega) H
  have b1 := (f4 h0.sz (by omega)).trans b1
  have l1 : h0.sz < h4.sz := by omega
  clear g4 f4 b4 b3
  repeat first | refine qN ?_ | refine qM rfl ?_ | refine qA rfl ?_ | refine qS rfl ?_ | refine qL H b1 rfl ?_ | refine qT rfl ?_ | refine qF rfl ?_ | refine qI i (by omega) rfl ?_ | refine qI io (by omega) rfl ?_ | refine qP rfl ?_ | refine wQ ?_ | refine wR ?_ | refine wD ?_ | refine wN rfl ?_ | refine wS ?_
  refine SpB.callK (R := fun v _ => v = .bool true) Tryz.T1OK H (by omega) (Kp.known rfl rfl) rfl rfl rfl rfl rfl ?_
  rintro v h5 rfl g
  have hs5 := g.le
  have H := g.hp H
  have b1 := g.keep l1 b1
  have l1 := g.lt l1
  clear g
  repeat first | refine qN ?_ | refine qM rfl ?_ | refine qA rfl ?_ | refine qS rfl ?_ | refine qL H b1 rfl ?_ | refine qT rfl ?_ | refine qF rfl ?_ | refine qI i (by omega) rfl ?_ | refine qI io (by omega) rfl ?_ | refine qP rfl ?_ | refine wQ ?_ | refine wR ?_ | refine wD ?_ | refine wN rfl ?_ | refine wS ?_
  refine WpB.cond rfl (fun ht => ?_) fun ht => ?_
  · repeat first | refine qN ?_ | refine qM rfl ?_ | refine qA rfl ?_ | refine qS rfl ?_ | refine qL H b1 rfl ?_ | refine qT rfl ?_ | refine qF rfl ?_ | refine qI i (by omega) rfl ?_ | refine qI io (by omega) rfl ?_ | refine qP rfl ?_ | refine wQ ?_ | refine wR ?_ | refine wD ?_ | refine wN rfl ?_ | refine wS ?_
    refine SpB.callK (R := fun v _ => v = .bool true) Tryz.T1OK H (by omega) (Kp.known rfl rfl) rfl rfl rfl rfl rfl ?_
    rintro v h rfl g
    repeat first | refine qN ?_ | refine qM rfl ?_ | refine qA rfl ?_ | refine qS rfl ?_ | refine qL H b1 rfl ?_ | refine qT rfl ?_ | refine qF rfl ?_ | refine qI i (by omega) rfl ?_ | refine qI io (by omega) rfl ?_ | refine qP rfl ?_ | refine wQ ?_ | refine wR ?_ | refine wD ?_ | refine wN rfl ?_ | refine wS ?_
    exact WpB.ret ⟨_, rfl, rfl, Nat.le_refl _⟩
  have hok : ok = true := by simpa using ht
  have hbin := hbc b _ (hP hok)
  have hsz := E.bin_size _ _ hbin
  have h28 : (2 : Nat) ^ 8 ≤ 1000000 := by decide
  have hpairs := E.bin_pairs _ _ hbin
  clear hP hbc hB ht
  repeat first | refine qN ?_ | refine qM rfl ?_ | refine qA rfl ?_ | refine qS rfl ?_ | refine qL H b1 rfl ?_ | refine qT rfl ?_ | refine qF rfl ?_ | refine qI i (by omega) rfl ?_ | refine qI io (by omega) rfl ?_ | refine qP rfl ?_ | refine wQ ?_ | refine wR ?_ | refine wD ?_ | refine wN rfl ?_ | refine wS ?_
  refine SpB.callK Tryz.T1OK H (by omega) (conj16_ok (.mk op tb nm ix vk vi vt sl n kid) h5 H hwh (by omega)) rfl rfl rfl rfl rfl ?_
  intro v1 h6 o1 g
  have hs6 := g.le
  have H := g.hp H
  have b1 := g.keep l1 b1
  have l1 := g.lt l1
  clear g
  repeat first | refine qN ?_ | refine qM rfl ?_ | refine qA rfl ?_ | refine qS rfl ?_ | refine qL H b1 rfl ?_ | refine qT rfl ?_ | refine qF rfl ?_ | refine qI i (by omega) rfl ?_ | refine qI io (by omega) rfl ?_ | refine qP rfl ?_ | refine wQ ?_ | refine wR ?_ | refine wD ?_ | refine wN rfl ?_ | refine wS ?_
  refine SpB.callK Tryz.T1OK H (by omega) (conj17_ok (.mk op tb nm ix vk vi vt sl n kid) h6 H hwh hpairs (by omega)) rfl rfl rfl rfl rfl ?_
  intro v2 h7 o2 g
  have hs7 := g.le
  have o1 := o1.grow g (Nat.le_refl _)
  have H := g.hp H
  have hat := E.conj_at hwh
  clear g
  have hcl : (E.mk op tb nm ix vk vi vt sl n kid).conj.length ≤ 1000000 := Nat.le_trans (E.conj_le _) (by omega)
  generalize (E.mk op tb nm ix vk vi vt sl n kid).conj = xs at o1 o2 hat hcl
  obtain ⟨a1, c1, rfl, e1⟩ := o1.shape
  obtain ⟨a2, c2, rfl, e2⟩ := o2.shape
  repeat first | refine qN ?_ | refine qM rfl ?_ | refine qA rfl ?_ | refine qS rfl ?_ | refine qL H b1 rfl ?_ | refine qT rfl ?_ | refine qF rfl ?_ | refine qI i (by omega) rfl ?_ | refine qI io (by omega) rfl ?_ | refine qP rfl ?_ | refine wQ ?_ | refine wR ?_ | refine wD ?_ | refine wN rfl ?_ | refine wS ?_
  refine WpB.cond rfl (fun ht => by simp at ht) fun _ => ?_
  repeat first | refine qN ?_ | refine qM rfl ?_ | refine qA rfl ?_ | refine qS rfl ?_ | refine qL H b1 rfl ?_ | refine qT rfl ?_ | refine qF rfl ?_ | refine qI i (by omega) rfl ?_ | refine qI io (by omega) rfl ?_ | refine qP rfl ?_ | refine wQ ?_ | refine wR ?_ | refine wD ?_ | refine wN rfl ?_ | refine wS ?_
  refine WpB.block ?_
  refine WpB.loopC xs.length (fun i => [(33, .int .i64 (i : Int)), (32, .int .i64 (xs.length : Int)), (5, .slice a1 xs.length c1), (6, .slice a2 xs.length c2)]) (fun i h' => Grow h7 h7.sz h') (Grow.refl H.wf _) (by repeat first | exact sub_nil | refine sub_cons rfl ?_) ?_
  rintro i h hi g
  have hg := g.le
  have H := g.hp H
  repeat first | refine qN ?_ | refine qM rfl ?_ | refine qA rfl ?_ | refine qS rfl ?_ | refine qL H b1 rfl ?_ | refine qT rfl ?_ | refine qF rfl ?_ | refine qI i (by omega) rfl ?_ | refine qI io (by omega) rfl ?_ | refine qP rfl ?_ | refine wQ ?_ | refine wR ?_ | refine wD ?_ | refine wN rfl ?_ | refine wS ?_
  refine WpB.cond rfl (fun ht => ?_) fun ht => ?_
  · have hlt : i < xs.length := by simpa using ht
    obtain ⟨k1, q1, _, rfl, b1⟩ := e1 i hlt
    obtain ⟨k2, q2, _, rfl, b2⟩ := e2 i hlt
    have b1 := g.keep q1 b1
    have b2 := g.keep q2 b2
    have hn7 : h7.n = N := by rw [← g.n]; exact H.n
    rw [hn7]
    refine WpB.skip ?_
    refine WpB.seq (WpB.block ?_)
    repeat first | refine qN ?_ | refine qM rfl ?_ | refine qA rfl ?_ | refine qS rfl ?_ | refine qL H b1 rfl ?_ | refine qT rfl ?_ | refine qF rfl ?_ | refine qI i (by omega) rfl ?_ | refine qI io (by omega) rfl ?_ | refine qP rfl ?_ | refine wQ ?_ | refine wR ?_ | refine wD ?_ | refine wN rfl ?_ | refine wS ?_
    refine SpB.indexN hlt rfl rfl rfl rfl rfl rfl rfl rfl rfl ?_
    refine SpB.loadO H b1 rfl rfl rfl (partExpr hat hlt) rfl rfl ?_
    repeat first | refine qN ?_ | refine qM rfl ?_ | refine qA rfl ?_ | refine qS rfl ?_ | refine qL H b1 rfl ?_ | refine qT rfl ?_ | refine qF rfl ?_ | refine qI i (by omega) rfl ?_ | refine qI io (by omega) rfl ?_ | refine qP rfl ?_ | refine wQ ?_ | refine wR ?_ | refine wD ?_ | refine wN rfl ?_ | refine wS ?_
    refine SpB.indexN hlt rfl rfl rfl rfl rfl rfl rfl rfl rfl ?_
    refine SpB.loadO H b2 rfl rfl rfl (partExpr hat hlt) rfl rfl ?_
    have hx := hat _ (List.getElem_mem hlt)
    refine SpB.callK Tryz.T1OK H (by omega) (expr_ok _ _ h H hx hx) rfl rfl rfl rfl rfl ?_
    rintro r h8 rfl g8
    rw [E.same_refl hx]
    repeat first | refine qN ?_ | refine qM rfl ?_ | refine qA rfl ?_ | refine qS rfl ?_ | refine qL H b1 rfl ?_ | refine qT rfl ?_ | refine qF rfl ?_ | refine qI i (by omega) rfl ?_ | refine qI io (by omega) rfl ?_ | refine qP rfl ?_ | refine wQ ?_ | refine wR ?_ | refine wD ?_ | refine wN rfl ?_ | refine wS ?_ | refine wT rfl ?_ | refine wF rfl ?_
    exact ⟨hlt, (by repeat first | exact sub_nil | refine sub_cons rfl ?_), g.more g8 (by omega), rfl⟩
  · refine WpB.exit ?_
    repeat first | refine qN ?_ | refine qM rfl ?_ | refine qA rfl ?_ | refine qS rfl ?_ | refine qL H b1 rfl ?_ | refine qT rfl ?_ | refine qF rfl ?_ | refine qI i (by omega) rfl ?_ | refine qI io (by omega) rfl ?_ | refine qP rfl ?_ | refine wQ ?_ | refine wR ?_ | refine wD ?_ | refine wN rfl ?_ | refine wS ?_
    exact WpB.ret ⟨_, rfl, rfl, Nat.le_refl _⟩

end Go.Proofs.YtkjkcoemloakhaaGreat
end


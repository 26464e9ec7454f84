/- A part of the evaluator, of its proof or of the walks (laid together by a program of my own); conditions: none. -/
import Derived.Test.YtkjkcoemloakhaaGreatP1
import Derived.Test.YtkjkcoemloakhaaGreatP2
import Derived.Test.YtkjkcoemloakhaaGreatP3
section
set_option linter.unusedVariables false
namespace Go.Proofs.YtkjkcoemloakhaaGreat
open Go Go.Vae
set_option maxRecDepth 100000

theorem owner_ok {N lim : Nat} {rd : RO} (s : Sl Tb) (b : Bd) (v : Int) (h0 : AH) (H : Hp N lim rd h0) (hb : BdAt rd s b) : Kp TT 56 [s.v, .agg ⟨b.cells⟩, .int .i64 v] h0 fun r _ => r = .int .i64 (owner s b.tabs v) := by
  have hb0 := hb
  obtain ⟨sv, sn, sx⟩ := s
  obtain ⟨kd, tn, c0, c1, c2, c3, vals, sets, items, frm, op, tb, nm, ix, vk, vi, vt, sl, en, kid, grp, ord, lm, name, table, ⟨tv, tn', tx⟩, vars, rows⟩ := b
  obtain ⟨⟨hsn, ⟨sa, scap, hsv, _, _, hsx⟩, hso⟩, _, ⟨htn, ⟨ta, tcap, htv, _, _, htx⟩, _⟩, hfew, hin⟩ := hb
  simp only at hsv hsx hso hsn htv htx htn hfew hin
  subst hsv htv
  have hreach : reachBytes < 2 ^ 47 := by decide
  refine Kp.of (fi := Tryz.fi56) rfl rfl rfl ?_
  refine WpB.seq (WpB.region ?_)
  refine SpB.box H rfl rfl rfl rfl rfl rfl fun h g s1 b1 => ?_
  have hle := H.le
  have H := g.hp H
  have l1 : h0.sz < h.sz := by omega
  clear g s1
  repeat first | refine qN ?_ | refine qM rfl ?_ | refine qA rfl ?_ | refine qS rfl ?_ | refine qL H b1 rfl ?_ | refine qT rfl ?_ | refine qF rfl ?_ | refine qI i (by omega) rfl ?_ | refine qI io (by omega) rfl ?_ | refine qP rfl ?_ | refine wQ ?_ | refine wR ?_ | refine wD ?_ | refine wN rfl ?_ | refine wS ?_
  refine WpB.block ?_
  refine WpB.loopC tn' (fun i => [(7, .int .i64 (i : Int)), (4, .pointer (some ⟨N + h0.sz, 0, none⟩)), (2, .int .i64 v), (0, .slice sa sn scap)]) (fun i h => Hp N lim rd h ∧ h.blk h0.sz = some (.cells (Bd.mk kd tn c0 c1 c2 c3 vals sets items frm op tb nm ix vk vi vt sl en kid grp ord lm name table ⟨.slice ta tn' tcap, tn', tx⟩ vars rows).cells) ∧ h0.sz < h.sz ∧
      ∀ j, j < i → ownAt ⟨.slice sa sn scap, sn, sx⟩ ⟨.slice ta tn' tcap, tn', tx⟩ v j = false) ⟨H, b1, l1, fun j hj => absurd hj (Nat.not_lt_zero _)⟩ (by repeat first | exact sub_nil | refine sub_cons rfl ?_) ?_
  rintro i h hi ⟨H, b1, l1, hj⟩
  repeat first | refine qN ?_ | refine qM rfl ?_ | refine qA rfl ?_ | refine qS rfl ?_ | refine qL H b1 rfl ?_ | refine qT rfl ?_ | refine qF rfl ?_ | refine qI i (by omega) rfl ?_ | refine qI io (by omega) rfl ?_ | refine qP rfl ?_ | refine wQ ?_ | refine wR ?_ | refine wD ?_ | refine wN rfl ?_ | refine wS ?_
  refine WpB.cond rfl (fun ht => ?_) fun ht => ?_
  · have hlt : i < tn' := by simpa using ht
    refine WpB.skip ?_
    refine WpB.seq (WpB.block ?_)
    repeat first | refine qN ?_ | refine qM rfl ?_ | refine qA rfl ?_ | refine qS rfl ?_ | refine qL H b1 rfl ?_ | refine qT rfl ?_ | refine qF rfl ?_ | refine qI i (by omega) rfl ?_ | refine qI io (by omega) rfl ?_ | refine qP rfl ?_ | refine wQ ?_ | refine wR ?_ | refine wD ?_ | refine wN rfl ?_ | refine wS ?_
    refine SpB.callK Tryz.T1OK H (by omega) (offset_ok ⟨.slice sa sn scap, sn, sx⟩ (Bd.mk kd tn c0 c1 c2 c3 vals sets items frm op tb nm ix vk vi vt sl en kid grp ord lm name table ⟨.slice ta tn' tcap, tn', tx⟩ vars rows) i h H hb0 (by show i ≤ tn'; omega)) rfl rfl rfl rfl rfl ?_
    rintro r h rfl g
    have H := g.hp H
    have b1 := g.keep l1 b1
    have l1 := g.lt l1
    have ho := offs_le hb0 (i := i) (by show i ≤ tn'; omega)
    have hn := ncols_le hb0 (i := i) hlt
    simp only at ho hn
    repeat first | refine qN ?_ | refine qM rfl ?_ | refine qA rfl ?_ | refine qS rfl ?_ | refine qL H b1 rfl ?_ | refine qT rfl ?_ | refine qF rfl ?_ | refine qI i (by omega) rfl ?_ | refine qI io (by omega) rfl ?_ | refine qP rfl ?_ | refine wQ ?_ | refine wR ?_ | refine wD ?_ | refine wN rfl ?_ | refine wS ?_
    refine qB rfl (fun c1 => ?_) fun c1 => ?_
    · have c1 : (offs ⟨.slice sa sn scap, sn, sx⟩ ⟨.slice ta tn' tcap, tn', tx⟩ i : Int) ≤ v := by simpa using c1
      obtain ⟨b, off, rfl, hc⟩ := htx i hlt
      obtain ⟨hi1, hi2⟩ := hin i hlt
      simp only at hi1 hi2
      obtain ⟨j, hj2⟩ := Int.eq_ofNat_of_zero_le hi1
      have hjn : j < sn := by omega
      obtain ⟨b2, off2, rfl, hc2⟩ := hsx j hjn
      obtain ⟨_, ⟨ca, ccap, hcv, _, _, _⟩, _⟩ := (hso j hjn).cols
      have hnc : ncols ⟨.slice (some ⟨b2, off2, none⟩) sn scap, sn, sx⟩ ⟨.slice (some ⟨b, off, none⟩) tn' tcap, tn', tx⟩ i = (sx j).cols.n := by
        simp only [ncols, hj2]; rfl
      rw [hj2] at hc
      rw [hnc] at hn
      repeat first | refine qN ?_ | refine qM rfl ?_ | refine qA rfl ?_ | refine qS rfl ?_ | refine qL H b1 rfl ?_ | refine qT rfl ?_ | refine qF rfl ?_ | refine qI i (by omega) rfl ?_ | refine qI io (by omega) rfl ?_ | refine qP rfl ?_ | refine wQ ?_ | refine wR ?_ | refine wD ?_ | refine wN rfl ?_ | refine wS ?_
      refine SpB.indexN hlt rfl rfl rfl rfl rfl rfl rfl rfl rfl ?_
      refine SpB.loadRC H hc rfl rfl rfl rfl rfl rfl rfl ?_
      refine SpB.indexN (n := j) hjn rfl rfl rfl rfl rfl rfl rfl rfl rfl ?_
      repeat first | refine qN ?_ | refine qM rfl ?_ | refine qA rfl ?_ | refine qS rfl ?_ | refine qL H b1 rfl ?_ | refine qT rfl ?_ | refine qF rfl ?_ | refine qI i (by omega) rfl ?_ | refine qI io (by omega) rfl ?_ | refine qP rfl ?_ | refine wQ ?_ | refine wR ?_ | refine wD ?_ | refine wN rfl ?_ | refine wS ?_
      refine SpB.load (v := .slice ca (sx j).cols.n ccap) rfl rfl rfl (loadT_cell rfl rfl ?_) rfl rfl ?_
      · have := cell_at (H.ext _ _ _ _ hc2).2 (j := 1) (v := .slice ca (sx j).cols.n ccap) (by simp only [Tb.cells, hcv]; rfl)
        exact this
      have w : IntKind.i64.wrap ((offs ⟨.slice (some ⟨b2, off2, none⟩) sn scap, sn, sx⟩ ⟨.slice (some ⟨b, off, none⟩) tn' tcap, tn', tx⟩ i : Int) + ((sx j).cols.n : Int)) = (offs ⟨.slice (some ⟨b2, off2, none⟩) sn scap, sn, sx⟩ ⟨.slice (some ⟨b, off, none⟩) tn' tcap, tn', tx⟩ i : Int) + ((sx j).cols.n : Int) := wrap_small (by omega) (by omega)
      repeat first | refine qN ?_ | refine qM rfl ?_ | refine qA rfl ?_ | refine qS rfl ?_ | refine qL H b1 rfl ?_ | refine qT rfl ?_ | refine qF rfl ?_ | refine qI i (by omega) rfl ?_ | refine qI io (by omega) rfl ?_ | refine qP rfl ?_ | refine wQ ?_ | refine wR ?_ | refine wD ?_ | refine wN rfl ?_ | refine wS ?_
      refine WpB.cond rfl (fun ht2 => ?_) fun ht2 => ?_
      · have ht2 := of_decide_eq_true ht2
        rw [w] at ht2
        repeat first | refine qN ?_ | refine qM rfl ?_ | refine qA rfl ?_ | refine qS rfl ?_ | refine qL H b1 rfl ?_ | refine qT rfl ?_ | refine qF rfl ?_ | refine qI i (by omega) rfl ?_ | refine qI io (by omega) rfl ?_ | refine qP rfl ?_ | refine wQ ?_ | refine wR ?_ | refine wD ?_ | refine wN rfl ?_ | refine wS ?_
        refine WpB.ret ⟨_, rfl, ?_, Nat.le_refl _⟩
        have : owner ⟨.slice (some ⟨b2, off2, none⟩) sn scap, sn, sx⟩ ⟨.slice (some ⟨b, off, none⟩) tn' tcap, tn', tx⟩ v = (i : Int) := by
          unfold owner
          rw [find_some (f := ownAt ⟨.slice (some ⟨b2, off2, none⟩) sn scap, sn, sx⟩ ⟨.slice (some ⟨b, off, none⟩) tn' tcap, tn', tx⟩ v) (i := i) hlt (by simp only [ownAt, hnc, Bool.and_eq_true, decide_eq_true_eq]; exact ⟨c1, ht2⟩) hj]
        exact congrArg _ this.symm
      · have ht2 := of_decide_eq_false ht2
        rw [w] at ht2
        repeat first | refine qN ?_ | refine qM rfl ?_ | refine qA rfl ?_ | refine qS rfl ?_ | refine qL H b1 rfl ?_ | refine qT rfl ?_ | refine qF rfl ?_ | refine qI i (by omega) rfl ?_ | refine qI io (by omega) rfl ?_ | refine qP rfl ?_ | refine wQ ?_ | refine wR ?_ | refine wD ?_ | refine wN rfl ?_ | refine wS ?_
        refine ⟨hlt, (by repeat first | exact sub_nil | refine sub_cons rfl ?_), ⟨H, b1, l1, fun j' hj1 => ?_⟩, rfl⟩
        by_cases e : j' = i
        · subst e
          simp only [ownAt, hnc, Bool.and_eq_false_iff, decide_eq_false_iff_not]
          exact .inr ht2
        · exact hj j' (by omega)
    · have c1 : ¬ (offs ⟨.slice sa sn scap, sn, sx⟩ ⟨.slice ta tn' tcap, tn', tx⟩ i : Int) ≤ v := by simpa using c1
      repeat' first | refine qN ?_ | refine qM rfl ?_ | refine qA rfl ?_ | refine qS rfl ?_ | refine qL H b1 rfl ?_ | refine qT rfl ?_ | refine qF rfl ?_ | refine qB rfl (fun ht => ?_) fun ht => ?_ | refine qI i (by omega) rfl ?_ | refine qI io (by omega) rfl ?_ | refine qP rfl ?_ | refine wQ ?_ | refine wR ?_ | refine wD ?_ | refine wN rfl ?_ | refine wS ?_ | refine wT rfl ?_ | refine wF rfl ?_ | refine WpB.cond rfl (fun ht => ?_) fun ht => ?_
      refine ⟨hlt, (by repeat first | exact sub_nil | refine sub_cons rfl ?_), ⟨H, b1, l1, fun j' hj1 => ?_⟩, rfl⟩
      by_cases e : j' = i
      · subst e
        simp only [ownAt, Bool.and_eq_false_iff, decide_eq_false_iff_not]
        exact .inl c1
      · exact hj j' (by omega)
  · refine WpB.exit ?_
    have hge : ¬ i < tn' := by simpa using ht
    repeat first | refine qN ?_ | refine qM rfl ?_ | refine qA rfl ?_ | refine qS rfl ?_ | refine qL H b1 rfl ?_ | refine qT rfl ?_ | refine qF rfl ?_ | refine qI i (by omega) rfl ?_ | refine qI io (by omega) rfl ?_ | refine qP rfl ?_ | refine wQ ?_ | refine wR ?_ | refine wD ?_ | refine wN rfl ?_ | refine wS ?_
    refine WpB.ret ⟨_, rfl, ?_, Nat.le_refl _⟩
    have : owner ⟨.slice sa sn scap, sn, sx⟩ ⟨.slice ta tn' tcap, tn', tx⟩ v = -1 := by
      unfold owner
      rw [find_none (f := ownAt ⟨.slice sa sn scap, sn, sx⟩ ⟨.slice ta tn' tcap, tn', tx⟩ v) (fun j (hj1 : j < tn') => hj j (by omega))]
    exact congrArg _ this.symm

theorem within_ok {N lim : Nat} {rd : RO} (s : Sl Tb) (bd : Bd) (l : Sl Int) (hb : BdAt rd s bd) (hl : l.ints rd) : ∀ (e : E) (h : AH), Hp N lim rd h → e.At rd → Kp TT 31 [s.v, .agg ⟨bd.cells⟩, .agg ⟨e.cells⟩, l.v] h fun v _ => v = .bool (e.within s bd.tabs l)
  | .nil, h, _, he => he.elim
  | .mk op tb nm ix vk vi vt sl n kid, h0, H, he => by
    obtain ⟨_, _, hn, ⟨a, cap, rfl, _, _, hx⟩, hk⟩ := he
    have hreach : reachBytes < 2 ^ 47 := by decide
    have hown := fun h (H : Hp N lim rd h) => owner_ok s bd ix h H hb
    generalize hbt : bd.tabs = bt
    have hbc : ∃ c0 c1 c2 c3 c4 c5 c6 c7 c8 c9 c10 c11 c12 c13 c14 c15 c16 c17 c18 c19 c20 c21 c22 c23 c24 c25 : Value, bd.cells = [c0, c1, c2, c3, c4, c5, c6, c7, c8, c9, c10, c11, c12, c13, c14, c15, c16, c17, c18, c19, c20, c21, c22, c23, c24, c25] := ⟨_, _, _, _, _, _, _, _, _, _, _, _, _, _, _, _, _, _, _, _, _, _, _, _, _, _, rfl⟩
    obtain ⟨c0, c1, c2, c3, c4, c5, c6, c7, c8, c9, c10, c11, c12, c13, c14, c15, c16, c17, c18, c19, c20, c21, c22, c23, c24, c25, hbc⟩ := hbc
    rw [hbc] at hown
    simp only [hbt] at hown ⊢
    rw [hbc]
    refine Kp.of (fi := Tryz.fi31) rfl rfl rfl ?_
    refine WpB.seq (WpB.region ?_)
    refine SpB.box H rfl rfl rfl rfl rfl rfl fun h g s1 b1 => ?_
    have hle := H.le
    have H := g.hp H
    have l1 : h0.sz < h.sz := by omega
    clear g s1
    refine SpB.box H rfl rfl rfl rfl rfl rfl fun h2 g s2 b2 => ?_
    have b1 := g.keep l1 b1
    have l2 : h.sz < h2.sz := by omega
    have l1 := g.lt l1
    have H := g.hp H
    clear g s2
    refine SpB.assign rfl rfl rfl rfl rfl (SpB.nil ?_)
    refine WpB.cut [(5, .pointer (some ⟨N + h0.sz, 0, none⟩)), (6, .pointer (some ⟨N + h.sz, 0, none⟩)), (0, s.v), (3, l.v)] (fun h2 => Hp N lim rd h2 ∧ h2.blk h0.sz = some (.cells [c0, c1, c2, c3, c4, c5, c6, c7, c8, c9, c10, c11, c12, c13, c14, c15, c16, c17, c18, c19, c20, c21, c22, c23, c24, c25]) ∧ h0.sz < h2.sz ∧
        h2.blk h.sz = some (.cells (E.mk op tb nm ix vk vi vt (.slice a n cap) n kid).cells) ∧ h.sz < h2.sz ∧ ((op == 2) && !(hasI l (owner s bt ix))) = false) ?_ ?_
    · repeat first | refine qN ?_ | refine qM rfl ?_ | refine qA rfl ?_ | refine qS rfl ?_ | refine qL H b1 rfl ?_ | refine qL H b2 rfl ?_ | refine qT rfl ?_ | refine qF rfl ?_ | refine qI i (by omega) rfl ?_ | refine qI io (by omega) rfl ?_ | refine qP rfl ?_ | refine wQ ?_ | refine wR ?_ | refine wD ?_ | refine wN rfl ?_ | refine wS ?_
      refine qB rfl (fun c1 => ?_) fun c1 => ?_
      · have c1 : op = 2 := by simpa using c1
        repeat first | refine qN ?_ | refine qM rfl ?_ | refine qA rfl ?_ | refine qS rfl ?_ | refine qL H b1 rfl ?_ | refine qL H b2 rfl ?_ | refine qT rfl ?_ | refine qF rfl ?_ | refine qI i (by omega) rfl ?_ | refine qI io (by omega) rfl ?_ | refine qP rfl ?_ | refine wQ ?_ | refine wR ?_ | refine wD ?_ | refine wN rfl ?_ | refine wS ?_
        refine SpB.callK Tryz.T1OK H (by omega) (hown h2 H) rfl rfl rfl rfl rfl ?_
        rintro v h3 rfl g
        have H := g.hp H
        have b1 := g.keep l1 b1
        have l1 := g.lt l1
        have b2 := g.keep l2 b2
        have l2 := g.lt l2
        refine SpB.callK Tryz.T1OK H (by omega) (has_ok l (owner s bt ix) h3 H hl) rfl rfl rfl rfl rfl ?_
        rintro v h4 rfl g
        have H := g.hp H
        have b1 := g.keep l1 b1
        have l1 := g.lt l1
        have b2 := g.keep l2 b2
        have l2 := g.lt l2
        repeat first | refine qN ?_ | refine qM rfl ?_ | refine qA rfl ?_ | refine qS rfl ?_ | refine qL H b1 rfl ?_ | refine qL H b2 rfl ?_ | refine qT rfl ?_ | refine qF rfl ?_ | refine qI i (by omega) rfl ?_ | refine qI io (by omega) rfl ?_ | refine qP rfl ?_ | refine wQ ?_ | refine wR ?_ | refine wD ?_ | refine wN rfl ?_ | refine wS ?_
        refine WpB.cond rfl (fun ht2 => ?_) fun ht2 => ?_
        · repeat first | refine qN ?_ | refine qM rfl ?_ | refine qA rfl ?_ | refine qS rfl ?_ | refine qL H b1 rfl ?_ | refine qL H b2 rfl ?_ | refine qT rfl ?_ | refine qF rfl ?_ | refine qI i (by omega) rfl ?_ | refine qI io (by omega) rfl ?_ | refine qP rfl ?_ | refine wQ ?_ | refine wR ?_ | refine wD ?_ | refine wN rfl ?_ | refine wS ?_
          refine WpB.ret ⟨_, rfl, ?_, Nat.le_refl _⟩
          have ht2 : hasI l (owner s bt ix) = false := by simpa using ht2
          simp [E.within, c1, ht2]
        · repeat first | refine qN ?_ | refine qM rfl ?_ | refine qA rfl ?_ | refine qS rfl ?_ | refine qL H b1 rfl ?_ | refine qL H b2 rfl ?_ | refine qT rfl ?_ | refine qF rfl ?_ | refine qI i (by omega) rfl ?_ | refine qI io (by omega) rfl ?_ | refine qP rfl ?_ | refine wQ ?_ | refine wR ?_ | refine wD ?_ | refine wN rfl ?_ | refine wS ?_
          have ht2 : hasI l (owner s bt ix) = true := by simpa using ht2
          refine ⟨(by repeat first | exact sub_nil | refine sub_cons rfl ?_), ⟨H, b1, l1, b2, l2, by simp [ht2]⟩, rfl⟩
      · have c1 : (op == 2) = false := by simpa using c1
        repeat' first | refine qN ?_ | refine qM rfl ?_ | refine qA rfl ?_ | refine qS rfl ?_ | refine qL H b1 rfl ?_ | refine qL H b2 rfl ?_ | refine qT rfl ?_ | refine qF rfl ?_ | refine qB rfl (fun ht => ?_) fun ht => ?_ | refine qI i (by omega) rfl ?_ | refine qI io (by omega) rfl ?_ | refine qP rfl ?_ | refine wQ ?_ | refine wR ?_ | refine wD ?_ | refine wN rfl ?_ | refine wS ?_ | refine wT rfl ?_ | refine wF rfl ?_ | refine WpB.cond rfl (fun ht => ?_) fun ht => ?_
        refine ⟨(by repeat first | exact sub_nil | refine sub_cons rfl ?_), ⟨H, b1, l1, b2, l2, by simp [c1]⟩, rfl⟩
    · rintro h2 ⟨H, b1, l1, b2, l2, hop⟩
      repeat first | refine qN ?_ | refine qM rfl ?_ | refine qA rfl ?_ | refine qS rfl ?_ | refine qL H b1 rfl ?_ | refine qL H b2 rfl ?_ | refine qT rfl ?_ | refine qF rfl ?_ | refine qI i (by omega) rfl ?_ | refine qI io (by omega) rfl ?_ | refine qP rfl ?_ | refine wQ ?_ | refine wR ?_ | refine wD ?_ | refine wN rfl ?_ | refine wS ?_
      refine WpB.block ?_
      refine WpB.loopC n (fun i => [(9, .int .i64 (i : Int)), (5, .pointer (some ⟨N + h0.sz, 0, none⟩)), (6, .pointer (some ⟨N + h.sz, 0, none⟩)), (0, s.v), (3, l.v)]) (fun i h2 => Hp N lim rd h2 ∧ h2.blk h0.sz = some (.cells [c0, c1, c2, c3, c4, c5, c6, c7, c8, c9, c10, c11, c12, c13, c14, c15, c16, c17, c18, c19, c20, c21, c22, c23, c24, c25]) ∧ h0.sz < h2.sz ∧
          h2.blk h.sz = some (.cells (E.mk op tb nm ix vk vi vt (.slice a n cap) n kid).cells) ∧ h.sz < h2.sz ∧ ∀ j, j < i → (kid j).within s bt l = true)
        ⟨H, b1, l1, b2, l2, fun j hj => absurd hj (Nat.not_lt_zero _)⟩ (by repeat first | exact sub_nil | refine sub_cons rfl ?_) ?_
      rintro i h2 hi ⟨H, b1, l1, b2, l2, hj⟩
      repeat first | refine qN ?_ | refine qM rfl ?_ | refine qA rfl ?_ | refine qS rfl ?_ | refine qL H b1 rfl ?_ | refine qL H b2 rfl ?_ | refine qT rfl ?_ | refine qF rfl ?_ | refine qI i (by omega) rfl ?_ | refine qI io (by omega) rfl ?_ | refine qP rfl ?_ | refine wQ ?_ | refine wR ?_ | refine wD ?_ | refine wN rfl ?_ | refine wS ?_
      refine WpB.cond rfl (fun ht => ?_) fun ht => ?_
      · have hlt : i < n := by simpa using ht
        obtain ⟨b, off, rfl, hc⟩ := hx i hlt
        refine WpB.skip ?_
        refine WpB.seq (WpB.block ?_)
        repeat first | refine qN ?_ | refine qM rfl ?_ | refine qA rfl ?_ | refine qS rfl ?_ | refine qL H b1 rfl ?_ | refine qL H b2 rfl ?_ | refine qT rfl ?_ | refine qF rfl ?_ | refine qI i (by omega) rfl ?_ | refine qI io (by omega) rfl ?_ | refine qP rfl ?_ | refine wQ ?_ | refine wR ?_ | refine wD ?_ | refine wN rfl ?_ | refine wS ?_
        refine SpB.indexN hlt rfl rfl rfl rfl rfl rfl rfl rfl rfl ?_
        refine SpB.loadR H hc rfl rfl rfl rfl rfl rfl rfl ?_
        repeat first | refine qN ?_ | refine qM rfl ?_ | refine qA rfl ?_ | refine qS rfl ?_ | refine qL H b1 rfl ?_ | refine qL H b2 rfl ?_ | refine qT rfl ?_ | refine qF rfl ?_ | refine qI i (by omega) rfl ?_ | refine qI io (by omega) rfl ?_ | refine qP rfl ?_ | refine wQ ?_ | refine wR ?_ | refine wD ?_ | refine wN rfl ?_ | refine wS ?_
        have hrec := within_ok s bd l hb hl (kid i) h2 H (hk i hlt)
        rw [hbc, hbt] at hrec
        refine SpB.callK Tryz.T1OK H (by omega) hrec rfl rfl rfl rfl rfl ?_
        rintro v h3 rfl g
        have H := g.hp H
        have b1 := g.keep l1 b1
        have l1 := g.lt l1
        have b2 := g.keep l2 b2
        have l2 := g.lt l2
        repeat first | refine qN ?_ | refine qM rfl ?_ | refine qA rfl ?_ | refine qS rfl ?_ | refine qL H b1 rfl ?_ | refine qL H b2 rfl ?_ | refine qT rfl ?_ | refine qF rfl ?_ | refine qI i (by omega) rfl ?_ | refine qI io (by omega) rfl ?_ | refine qP rfl ?_ | refine wQ ?_ | refine wR ?_ | refine wD ?_ | refine wN rfl ?_ | refine wS ?_
        refine WpB.cond rfl (fun ht2 => ?_) fun ht2 => ?_
        · repeat first | refine qN ?_ | refine qM rfl ?_ | refine qA rfl ?_ | refine qS rfl ?_ | refine qL H b1 rfl ?_ | refine qL H b2 rfl ?_ | refine qT rfl ?_ | refine qF rfl ?_ | refine qI i (by omega) rfl ?_ | refine qI io (by omega) rfl ?_ | refine qP rfl ?_ | refine wQ ?_ | refine wR ?_ | refine wD ?_ | refine wN rfl ?_ | refine wS ?_
          refine WpB.ret ⟨_, rfl, ?_, Nat.le_refl _⟩
          have ht2 : (kid i).within s bt l = false := by simpa using ht2
          have : ((List.range n).all fun i => (kid i).within s bt l) = false := by
            cases hr : (List.range n).all fun i => (kid i).within s bt l with
            | false => rfl
            | true =>
              have := range_all.1 hr i hlt
              rw [ht2] at this
              cases this
          simp only [E.within, this, Bool.and_false]
        · repeat first | refine qN ?_ | refine qM rfl ?_ | refine qA rfl ?_ | refine qS rfl ?_ | refine qL H b1 rfl ?_ | refine qL H b2 rfl ?_ | refine qT rfl ?_ | refine qF rfl ?_ | refine qI i (by omega) rfl ?_ | refine qI io (by omega) rfl ?_ | refine qP rfl ?_ | refine wQ ?_ | refine wR ?_ | refine wD ?_ | refine wN rfl ?_ | refine wS ?_
          refine ⟨hlt, (by repeat first | exact sub_nil | refine sub_cons rfl ?_), ⟨H, b1, l1, b2, l2, fun j hj1 => ?_⟩, rfl⟩
          by_cases e : j = i
          · subst e; simpa using ht2
          · exact hj j (by omega)
      · refine WpB.exit ?_
        repeat first | refine qN ?_ | refine qM rfl ?_ | refine qA rfl ?_ | refine qS rfl ?_ | refine qL H b1 rfl ?_ | refine qL H b2 rfl ?_ | refine qT rfl ?_ | refine qF rfl ?_ | refine qI i (by omega) rfl ?_ | refine qI io (by omega) rfl ?_ | refine qP rfl ?_ | refine wQ ?_ | refine wR ?_ | refine wD ?_ | refine wN rfl ?_ | refine wS ?_
        refine WpB.ret ⟨_, rfl, ?_, Nat.le_refl _⟩
        have hge : ¬ i < n := by simpa using ht
        have := range_all.2 fun j (hj1 : j < n) => hj j (by omega)
        simp only [E.within, this, hop, Bool.not_false, Bool.and_self]

end Go.Proofs.YtkjkcoemloakhaaGreat
end

section
set_option linter.unusedVariables false
namespace Go.Proofs.YtkjkcoemloakhaaGreat
open Go Go.Vae
set_option maxRecDepth 100000

def varC (c : Col) : List Value := [.int .i64 c.ty, .int .i64 c.lo, .int .i64 c.hi, .int .i64 c.mx, .bool (!c.nn)]

def varsV (x : Nat → Col) (n : Nat) : List Value := catTo (fun i => varC (x i)) n

theorem variables_ok {N lim : Nat} {rd : RO} (t : Tb) (h0 : AH) (H : Hp N lim rd h0) (ht : t.At rd) (hs : t.cols.n ≤ 20) : Kp TT 30 [.agg ⟨t.cells⟩] h0 fun v h' => Own h' h0.sz 5 v t.cols.n (varsV t.cols.x t.cols.n) := by
  obtain ⟨nm, ⟨cv, cn, cx⟩, keys, fors, chk⟩ := t
  obtain ⟨hn1, ⟨ca, ccap, hcv, _, _, hcx⟩, hco⟩ := ht.cols
  simp only at hcv hcx hco hn1 hs
  subst hcv
  refine Kp.of (fi := Tryz.fi30) rfl rfl rfl ?_
  refine WpB.seq (WpB.region ?_)
  refine SpB.box H rfl rfl rfl rfl rfl rfl fun h g s1 b1 => ?_
  have hle := H.le
  have H := g.hp H
  have l1 : h0.sz < h.sz := by omega
  clear g s1
  repeat first | refine qN ?_ | refine qM rfl ?_ | refine qA rfl ?_ | refine qS rfl ?_ | refine qL H b1 rfl ?_ | refine qT rfl ?_ | refine qF rfl ?_ | refine qI i (by omega) rfl ?_ | refine qI io (by omega) rfl ?_ | refine qP rfl ?_ | refine wQ ?_ | refine wR ?_ | refine wD ?_ | refine wN rfl ?_ | refine wS ?_
  refine WpB.block ?_
  refine WpB.loopS (σ := Nat × Value) (fun s => cn - s.1) (fun s => [(4, .int .i64 (s.1 : Int)), (3, s.2), (1, .pointer (some ⟨N + h0.sz, 0, none⟩))])
    (fun s h => Hp N lim rd h ∧ h.blk h0.sz = some (.cells (Tb.mk nm ⟨.slice ca cn ccap, cn, cx⟩ keys fors chk).cells) ∧ h0.sz < h.sz ∧ s.1 ≤ cn ∧ Own h (h0.sz + 1) 5 s.2 s.1 (varsV cx s.1)) (0, .slice none 0 0)
    ⟨H, b1, l1, Nat.zero_le _, Own.nil _ _ _⟩ (by repeat first | exact sub_nil | refine sub_cons rfl ?_) ?_
  rintro ⟨i, v⟩ h ⟨H, b1, l1, hi, o1⟩
  simp only at hi o1
  repeat first | refine qN ?_ | refine qM rfl ?_ | refine qA rfl ?_ | refine qS rfl ?_ | refine qL H b1 rfl ?_ | refine qT rfl ?_ | refine qF rfl ?_ | refine qI i (by omega) rfl ?_ | refine qI io (by omega) rfl ?_ | refine qP rfl ?_ | refine wQ ?_ | refine wR ?_ | refine wD ?_ | refine wN rfl ?_ | refine wS ?_
  refine WpB.cond rfl (fun ht => ?_) fun ht => ?_
  · have hlt : i < cn := by simpa using ht
    obtain ⟨b, off, rfl, hc⟩ := hcx i hlt
    refine WpB.skip ?_
    refine WpB.seq (WpB.block ?_)
    repeat first | refine qN ?_ | refine qM rfl ?_ | refine qA rfl ?_ | refine qS rfl ?_ | refine qL H b1 rfl ?_ | refine qT rfl ?_ | refine qF rfl ?_ | refine qI i (by omega) rfl ?_ | refine qI io (by omega) rfl ?_ | refine qP rfl ?_ | refine wQ ?_ | refine wR ?_ | refine wD ?_ | refine wN rfl ?_ | refine wS ?_
    refine SpB.indexN hlt rfl rfl rfl rfl rfl rfl rfl rfl rfl ?_
    refine SpB.loadR H hc rfl rfl rfl rfl rfl rfl rfl ?_
    refine SpB.alloc H rfl rfl rfl rfl rfl fun h2 g s2 b2 => ?_
    have H := g.hp H
    have b1 := g.keep l1 b1
    refine SpB.storeO H b2 (by omega) (by omega) rfl rfl rfl rfl rfl rfl rfl rfl rfl fun h3 g3 s3 b3 f3 => ?_
    have H := g3.hpL (by omega) H
    have o1 := o1.grow (g.trans g3) (by simp)
    have b1 := (f3 h0.sz (by omega)).trans b1
    have b2 : h3.blk h.sz = some (.cells (cx i).cells) := b3
    have l2 : h.sz < h3.sz := by omega
    have l1 : h0.sz < h3.sz := by omega
    clear g g3 f3 b3
    repeat first | refine qN ?_ | refine qM rfl ?_ | refine qA rfl ?_ | refine qS rfl ?_ | refine qL H b1 rfl ?_ | refine qL H b2 rfl ?_ | refine qT rfl ?_ | refine qF rfl ?_ | refine qI i (by omega) rfl ?_ | refine qI io (by omega) rfl ?_ | refine qP rfl ?_ | refine wQ ?_ | refine wR ?_ | refine wD ?_ | refine wN rfl ?_ | refine wS ?_
    refine SpB.newS H rfl rfl rfl rfl rfl fun h4 g s4 b4 => ?_
    have H := g.hp H
    have b1 := g.keep l1 b1
    have l1 := g.lt l1
    have b2 := g.keep l2 b2
    have l2 := g.lt l2
    have o1 := o1.grow g (Nat.le_refl _)
    have o2 : Own h4 h3.sz 5 (.slice (some ⟨N + h3.sz, 0, none⟩) 1 1) 1 (varC (cx i)) := .inr ⟨h3.sz, 1, Nat.le_refl _, by omega, by rw [H.n], b4, rfl, .inr ⟨rfl, by decide⟩⟩
    refine SpB.append (st := 48) (xt := 48) H o1 o2.src rfl (by omega) (by omega) (show (i + 1) * 40 ≤ 70368744177664 by omega) rfl rfl rfl rfl rfl rfl rfl rfl rfl rfl rfl rfl rfl rfl ?_
    intro v3 h5 acc o3 g3
    have H := g3.hpL (by omega) H
    have b1 := g3.keepL (by omega) (by omega) b1
    have l3 := g3.le
    repeat first | refine qN ?_ | refine qM rfl ?_ | refine qA rfl ?_ | refine qS rfl ?_ | refine qL H b1 rfl ?_ | refine qL H b2 rfl ?_ | refine qT rfl ?_ | refine qF rfl ?_ | refine qI i (by omega) rfl ?_ | refine qI io (by omega) rfl ?_ | refine qP rfl ?_ | refine wQ ?_ | refine wR ?_ | refine wD ?_ | refine wN rfl ?_ | refine wS ?_
    exact ⟨(i + 1, v3), by show cn - (i + 1) < cn - i; omega, (by repeat first | exact sub_nil | refine sub_cons rfl ?_), ⟨H, b1, by omega, hlt, o3⟩, rfl⟩
  · refine WpB.exit ?_
    have : ¬ i < cn := by simpa using ht
    obtain rfl : i = cn := by omega
    repeat first | refine qN ?_ | refine qM rfl ?_ | refine qA rfl ?_ | refine qS rfl ?_ | refine qL H b1 rfl ?_ | refine qT rfl ?_ | refine qF rfl ?_ | refine qI i (by omega) rfl ?_ | refine qI io (by omega) rfl ?_ | refine qP rfl ?_ | refine wQ ?_ | refine wR ?_ | refine wD ?_ | refine wN rfl ?_ | refine wS ?_
    exact WpB.ret ⟨_, res1 rfl o1.one, o1.low (by omega), Nat.le_refl _⟩

end Go.Proofs.YtkjkcoemloakhaaGreat
end

section
set_option linter.unusedVariables false
set_option linter.unusedSimpArgs false
namespace Go.Vae
open Go

/-- A value: kind, number, text. -/
structure Vl where
  k : Int
  i : Int
  t : ByteArray
instance : Inhabited Vl := ⟨⟨0, 0, ⟨#[]⟩⟩⟩
def Vl.cells (v : Vl) : List Value := [.int .i64 v.k, .int .i64 v.i, .string v.t]
def Vl.zero : Vl := ⟨0, 0, ⟨#[]⟩⟩
def Vl.int (n : Int) : Vl := ⟨1, n, ⟨#[]⟩⟩

def w6 (n : Int) : Int := IntKind.i64.wrap n

/-- The quotient, rounded downward. -/
def floorI (a b : Int) : Int :=
  if a.tmod b ≠ 0 ∧ (decide (a < 0) ≠ decide (b < 0)) then w6 (w6 (a.tdiv b) - 1) else w6 (a.tdiv b)

def E.val (row : Nat → Vl) : E → Vl
  | .nil => .zero
  | .mk op _ _ ix vk vi vt _ _ kid =>
    if op = 1 then ⟨vk, vi, vt⟩ else if op = 2 then row ix.toNat else
    if ((kid 0).val row).k = 0 then .zero else
    if op = 3 then .int (w6 (0 - ((kid 0).val row).i)) else
    if op = 9 then .int (txt ((kid 0).val row).t) else
    if ((kid 1).val row).k = 0 then .zero else
    if op = 4 then .int (w6 (((kid 0).val row).i + ((kid 1).val row).i)) else
    if op = 5 then .int (w6 (((kid 0).val row).i - ((kid 1).val row).i)) else
    if op = 6 then .int (w6 (((kid 0).val row).i * ((kid 1).val row).i)) else
    if op = 7 then .int (floorI ((kid 0).val row).i ((kid 1).val row).i) else
    .int (w6 (((kid 0).val row).i - w6 (((kid 1).val row).i * floorI ((kid 0).val row).i ((kid 1).val row).i)))

/-- The evaluation finds what it needs. -/
def E.vok (row : Nat → Vl) (rn : Nat) : E → Prop
  | .nil => False
  | .mk op _ _ ix _ _ _ _ n kid =>
    op = 1 ∨ (op = 2 ∧ 0 ≤ ix ∧ ix < (rn : Int)) ∨ ((op = 3 ∨ op = 9) ∧ 1 ≤ n ∧ (kid 0).vok row rn) ∨
    ((4 ≤ op ∧ op ≤ 8) ∧ n = 2 ∧ (kid 0).vok row rn ∧ (kid 1).vok row rn ∧ (7 ≤ op → ((kid 1).val row).i ≠ 0))

/-- Does a column occur? -/
def E.cols : E → Bool
  | .nil => false
  | .mk op _ _ _ _ _ _ _ n kid => (List.range n).any (fun i => (kid i).cols) || (op == 2)

/-- A divisor, or a factor. -/
def E.factors : E → Prop
  | .nil => False
  | .mk op _ _ _ _ _ _ _ n kid => (op = 6 → (kid 0).cols = false ∨ (kid 1).cols = false) ∧
      (7 ≤ op → (kid 1).cols = false ∧ ((kid 1).val fun _ => .zero).k = 1 ∧ 1 ≤ ((kid 1).val fun _ => .zero).i ∧ ((kid 1).val fun _ => .zero).i ≤ 1000)

/-- An expression of a type: 0 NULL, 1 number, 2 text, 3 condition. -/
def E.Ty (lt : Nat → Int) (nv : Nat) : E → Int → Prop
  | .nil, _ => False
  | .mk op tb nm ix vk vi vt sl n kid, t =>
    (op = 1 ∧ n = 0 ∧ vk = t ∧ (t = 0 ∨ t = 1 ∨ t = 2)) ∨
    (op = 2 ∧ n = 0 ∧ 0 ≤ ix ∧ ix < (nv : Int) ∧ t = lt ix.toNat ∧ (t = 1 ∨ t = 2)) ∨
    (op = 3 ∧ n = 1 ∧ t = 1 ∧ ((kid 0).Ty lt nv 0 ∨ (kid 0).Ty lt nv 1)) ∨
    (op = 9 ∧ n = 1 ∧ t = 1 ∧ ((kid 0).Ty lt nv 0 ∨ (kid 0).Ty lt nv 2)) ∨
    ((4 ≤ op ∧ op ≤ 8) ∧ n = 2 ∧ t = 1 ∧ ((kid 0).Ty lt nv 0 ∨ (kid 0).Ty lt nv 1) ∧ ((kid 1).Ty lt nv 0 ∨ (kid 1).Ty lt nv 1) ∧ (E.mk op tb nm ix vk vi vt sl n kid).factors) ∨
    ((10 ≤ op ∧ op ≤ 15) ∧ n = 2 ∧ t = 3 ∧ ((((kid 0).Ty lt nv 0 ∨ (kid 0).Ty lt nv 1) ∧ ((kid 1).Ty lt nv 0 ∨ (kid 1).Ty lt nv 1)) ∨ (((kid 0).Ty lt nv 0 ∨ (kid 0).Ty lt nv 2) ∧ ((kid 1).Ty lt nv 0 ∨ (kid 1).Ty lt nv 2)))) ∨
    (op = 16 ∧ n = 2 ∧ t = 3 ∧ ((kid 0).Ty lt nv 0 ∨ (kid 0).Ty lt nv 2) ∧ (kid 1).Ty lt nv 2) ∨
    (op = 17 ∧ n = 1 ∧ t = 3 ∧ (((kid 0).Ty lt nv 0 ∨ (kid 0).Ty lt nv 1) ∨ ((kid 0).Ty lt nv 0 ∨ (kid 0).Ty lt nv 2))) ∨
    ((op = 18 ∨ op = 19) ∧ n = 2 ∧ t = 3 ∧ ((kid 0).Ty lt nv 0 ∨ (kid 0).Ty lt nv 3) ∧ ((kid 1).Ty lt nv 0 ∨ (kid 1).Ty lt nv 3)) ∨
    (op = 20 ∧ n = 1 ∧ t = 3 ∧ ((kid 0).Ty lt nv 0 ∨ (kid 0).Ty lt nv 3))

def E.Num (lt : Nat → Int) (nv : Nat) (e : E) : Prop := e.Ty lt nv 0 ∨ e.Ty lt nv 1
def E.Txt (lt : Nat → Int) (nv : Nat) (e : E) : Prop := e.Ty lt nv 0 ∨ e.Ty lt nv 2

theorem any_eq {f : Nat → Bool} {n : Nat} (h : (List.range n).any f = false) : ∀ i, i < n → f i = false := fun i hi => by
  cases hf : f i with
  | false => rfl
  | true => rw [any_true hi hf] at h; cases h

theorem E.val_cols {r r' : Nat → Vl} : ∀ {e : E} {lt : Nat → Int} {nv : Nat}, e.Num lt nv ∨ e.Txt lt nv → e.cols = false → e.val r = e.val r'
  | .nil, _, _, _, _ => rfl
  | .mk op tb nm ix vk vi vt sl n kid, lt, nv, h, hc => by
    simp only [E.cols, Bool.or_eq_false_iff] at hc
    have hk := any_eq hc.1
    have h2 : op ≠ 2 := by simpa using hc.2
    have cases2 : (op = 1) ∨ (n = 1 ∧ (op = 3 ∨ op = 9) ∧ ((kid 0).Num lt nv ∨ (kid 0).Txt lt nv)) ∨ (n = 2 ∧ ((kid 0).Num lt nv ∨ (kid 0).Txt lt nv) ∧ ((kid 1).Num lt nv ∨ (kid 1).Txt lt nv)) := by
      rcases h with (h | h) | (h | h) <;> simp only [E.Ty] at h <;>
      · rcases h with h | h | h | h | h | h | h | h | h | h
        · exact .inl h.1
        · exact absurd h.1 h2
        · exact .inr (.inl ⟨h.2.1, .inl h.1, .inl h.2.2.2⟩)
        · exact .inr (.inl ⟨h.2.1, .inr h.1, .inr h.2.2.2⟩)
        · exact .inr (.inr ⟨h.2.1, .inl h.2.2.2.1, .inl h.2.2.2.2.1⟩)
        · have := h.2.2.1; omega
        · have := h.2.2.1; omega
        · have := h.2.2.1; omega
        · have := h.2.2.1; omega
        · have := h.2.2.1; omega
    rcases cases2 with h | ⟨h1, h3, h4⟩ | ⟨h1, h3, h4⟩
    · simp [E.val, h]
    · have e0 := E.val_cols (r := r) (r' := r') h4 (hk 0 (by omega))
      have h1' : op ≠ 1 := by rcases h3 with h3 | h3 <;> omega
      rcases h3 with h3 | h3 <;> simp [E.val, h3, e0]
    · have e0 := E.val_cols (r := r) (r' := r') h3 (hk 0 (by omega))
      have e1 := E.val_cols (r := r) (r' := r') h4 (hk 1 (by omega))
      simp only [E.val, e0, e1, if_neg h2]

/-- A number or a text without columns can be evaluated. -/
theorem E.vok_of {r : Nat → Vl} {rn : Nat} : ∀ {e : E} {lt : Nat → Int} {nv : Nat}, e.Num lt nv ∨ e.Txt lt nv → e.cols = false → e.vok r rn
  | .nil, _, _, h, _ => by rcases h with (h | h) | (h | h) <;> exact h.elim
  | .mk op tb nm ix vk vi vt sl n kid, lt, nv, h, hc => by
    simp only [E.cols, Bool.or_eq_false_iff] at hc
    have hk := any_eq hc.1
    have h2 : op ≠ 2 := by simpa using hc.2
    rcases h with (h | h) | (h | h) <;> simp only [E.Ty] at h <;>
    · rcases h with h | h | h | h | h | h | h | h | h | h
      · exact .inl h.1
      · exact absurd h.1 h2
      · exact .inr (.inr (.inl ⟨.inl h.1, by omega, E.vok_of (.inl h.2.2.2) (hk 0 (by omega))⟩))
      · exact .inr (.inr (.inl ⟨.inr h.1, by omega, E.vok_of (.inr h.2.2.2) (hk 0 (by omega))⟩))
      · refine .inr (.inr (.inr ⟨h.1, h.2.1, E.vok_of (.inl h.2.2.2.1) (hk 0 (by omega)), E.vok_of (.inl h.2.2.2.2.1) (hk 1 (by omega)), fun h7 => ?_⟩))
        obtain ⟨_, g1, g2, _⟩ := h.2.2.2.2.2.2 h7 |> fun x => (⟨trivial, x.1, x.2.2.1, x.2.2.2⟩ : True ∧ _ ∧ _ ∧ _)
        rw [E.val_cols (r := r) (r' := fun _ => .zero) (.inl h.2.2.2.2.1) g1]
        omega
      · have := h.2.2.1; omega
      · have := h.2.2.1; omega
      · have := h.2.2.1; omega
      · have := h.2.2.1; omega
      · have := h.2.2.1; omega

/-! ### division -/
theorem abin_quo {T : Tabs} {t : TypeId} {a b : Int} (hb : b ≠ 0) : abin T .quo t (.int .i64 a) (.int .i64 b) = some (.int .i64 (w6 (a.tdiv b))) := by
  simp [abin, Go.binOp, Op.intDiv, hb, pv, scal, w6]
  rfl

theorem abin_rem {T : Tabs} {t : TypeId} {a b : Int} (hb : b ≠ 0) : abin T .rem t (.int .i64 a) (.int .i64 b) = some (.int .i64 (a.tmod b)) := by
  simp [abin, Go.binOp, Op.intDiv, hb, pv, scal, w6]
  rfl

theorem SpB.quo {T : Tabs} {nt : Nat} {ops l : List Oper} {o : Oper} {bs : Bs} {h : AH} {low : Nat} {Q : Bs → AH → Nat → List Acc → Prop} {t u : TypeId} {x y : Operand} {a b : Int} {d : Nat} (hb : b ≠ 0) (ho : o.op = .binOp .quo t x y u) (hw : wantedB ops bs o = some true) (hx : evB bs h x = some (.int .i64 a)) (hy : evB bs h y = some (.int .i64 b))
    (hd : o.dst = some d) (hlt : Nat.blt d nt = true)
    (h2 : SpB T nt ops l ((d, .int .i64 (w6 (a.tdiv b))) :: bs) h low fun b' h' l' acs => Q b' h' l' (⟨[], [], h.sz, h.sz, none⟩ :: acs)) : SpB T nt ops (o :: l) bs h low Q :=
  SpB.pure hw (by rw [ho]; simp [Op.operands, allB, hx, hy]) (by simp only [aop, ho, rho_some hx, rho_some hy, abin_quo hb, okO]) hd hlt h2

theorem SpB.rem {T : Tabs} {nt : Nat} {ops l : List Oper} {o : Oper} {bs : Bs} {h : AH} {low : Nat} {Q : Bs → AH → Nat → List Acc → Prop} {t u : TypeId} {x y : Operand} {a b : Int} {d : Nat} (hb : b ≠ 0) (ho : o.op = .binOp .rem t x y u) (hw : wantedB ops bs o = some true) (hx : evB bs h x = some (.int .i64 a)) (hy : evB bs h y = some (.int .i64 b))
    (hd : o.dst = some d) (hlt : Nat.blt d nt = true)
    (h2 : SpB T nt ops l ((d, .int .i64 (a.tmod b)) :: bs) h low fun b' h' l' acs => Q b' h' l' (⟨[], [], h.sz, h.sz, none⟩ :: acs)) : SpB T nt ops (o :: l) bs h low Q :=
  SpB.pure hw (by rw [ho]; simp [Op.operands, allB, hx, hy]) (by simp only [aop, ho, rho_some hx, rho_some hy, abin_rem hb, okO]) hd hlt h2

theorem resCell {T : Tabs} {h : AH} {bs : Bs} {a t b off : Nat} {v : Value} (hl : look bs a = some (.pointer (some ⟨b, off, none⟩))) (hv : loadT T h t b off = some v) (h1 : isOne v = true) : resAllB T h bs [.cell a t] = some v := by
  simp [resAllB, resVsB, resVB, hl, hv, h1]

/-- A byte of a string. -/
theorem SpB.indexStr {T : Tabs} {nt : Nat} {ops l : List Oper} {o : Oper} {bs : Bs} {h : AH} {low : Nat} {Q : Bs → AH → Nat → List Acc → Prop} {t : TypeId} {x i : Operand} {s : ByteArray} {k : IntKind} {n : Nat} {ti : TI} {d : Nat} (h1 : n < s.data.toList.length) (ho : o.op = .index t x i) (hw : wantedB ops bs o = some true) (hx : evB bs h x = some (.string s))
    (hi : evB bs h i = some (.int k n)) (ht : T.ty t = some ti) (hk : ti.k = .string) (hd : o.dst = some d) (hlt : Nat.blt d nt = true)
    (h2 : SpB T nt ops l ((d, .int .u8 (s.data.toList[n]).toNat) :: bs) h low fun b' h' l' acs => Q b' h' l' (⟨[], [], h.sz, h.sz, none⟩ :: acs)) : SpB T nt ops (o :: l) bs h low Q :=
  SpB.pure hw (by rw [ho]; simp [Op.operands, allB, hx, hi]) (by
    have h0 : decide (0 ≤ (n : Int)) = true := by simp
    have h3 : lget s.data.toList ((n : Int).toNat) = some s.data.toList[n] := by rw [lget_eq]; simp [h1]
    simp only [aop, ho, rho_some hx, rho_some hi, aindex, ht, hk, h0, h3, cond]
    rfl) hd hlt h2

theorem E.cells8 {rd : RO} {e : E} (h : e.At rd) : ∃ o x1 x2 x3 x4 x5 x6 x7, e.cells = [.int .i64 o, x1, x2, x3, x4, x5, x6, x7] := by
  cases e with
  | nil => exact h.elim
  | mk => exact ⟨_, _, _, _, _, _, _, _, rfl⟩

/-- The domain of a variable. -/
structure Vr where
  ty : Int
  lo : Int
  hi : Int
  mx : Int
  nu : Bool
instance : Inhabited Vr := ⟨⟨0, 0, 0, 0, false⟩⟩
def Vr.cells (v : Vr) : List Value := [.int .i64 v.ty, .int .i64 v.lo, .int .i64 v.hi, .int .i64 v.mx, .bool v.nu]

def Sl.lt (l : Sl Vr) : Nat → Int := fun i => (l.x i).ty

/-! ### the order of a region, finer: 0 still, 1 a writer, 2 reads below block K only, 3 writes from block K on -/
def needO (u v : Nat) : Bool := Nat.beq u 1 || (Nat.beq v 1 || ((Nat.beq u 3 && !Nat.beq v 2) || (Nat.beq v 3 && !Nat.beq u 2)))

def laterK (w : Nat) (i : Nat) : List Nat → List Nat → Bool
  | v :: vs, m :: ms => (!needO w v || Nat.testBit m i) && laterK w i vs ms
  | [], _ => true
  | _ :: _, [] => false

def orderK : Nat → List Nat → List Nat → Bool
  | _, [], _ => true
  | i, w :: ws, _ :: ms => laterK w i ws ms && orderK (i + 1) ws ms
  | _, _ :: _, [] => false

def classK (K : Nat) (w : Nat) (a : Acc) : Prop :=
  (w = 0 ∧ a.wr = [] ∧ a.call ≠ some true) ∨ w = 1 ∨ (w = 2 ∧ a.wr = [] ∧ a.call = none ∧ a.lo = a.hi ∧ ∀ x ∈ a.rd, x < K) ∨ (w = 3 ∧ (∀ x ∈ a.wr, K ≤ x) ∧ a.call = none)

def quietsK (K : Nat) : List Nat → List Acc → Prop
  | [], [] => True
  | w :: ws, a :: rs => classK K w a ∧ quietsK K ws rs
  | _, _ => False

theorem lmeet_false {xs ys : List Nat} (h : ∀ x ∈ xs, x ∉ ys) : lmeet xs ys = false := by
  induction xs with
  | nil => rfl
  | cons x xs ih =>
    simp only [lmeet, Bool.or_eq_false_iff]
    refine ⟨?_, ih fun y hy => h y (List.mem_cons_of_mem _ hy)⟩
    cases hq : lmem x ys with
    | false => rfl
    | true => exact absurd (lmem_mem hq) (h x (List.mem_cons_self ..))

theorem lwithin_false {lo hi : Nat} (h : lo = hi) : ∀ xs : List Nat, lwithin lo hi xs = false
  | [] => rfl
  | x :: xs => by
    subst h
    simp only [lwithin, lwithin_false rfl xs, Bool.or_false]
    cases h1 : Nat.ble lo x with
    | false => rfl
    | true =>
      have := Nat.le_of_ble_eq_true h1
      cases h2 : Nat.blt x lo with
      | false => rfl
      | true => have := blt_true h2; omega

theorem clash_comm (a b : Acc) : a.clash b = b.clash a := by simp [Acc.clash, Bool.or_comm]

theorem clash23 {K : Nat} {a b : Acc} (h1 : a.wr = []) (h2 : a.call = none) (h3 : a.lo = a.hi) (h4 : ∀ x ∈ a.rd, x < K) (h5 : ∀ x ∈ b.wr, K ≤ x) (h6 : b.call = none) : a.clash b = false := by
  have e1 : a.clash1 b = false := by simp [Acc.clash1, h1, h2, lmeet, lwithin]
  have e2 : b.clash1 a = false := by
    simp only [Acc.clash1, h1, h6]
    rw [lmeet_false fun x hx hm => by have := h4 x hm; have := h5 x hx; omega, lmeet_false fun x hx hm => by simp at hm, lwithin_false h3]
    rfl
  simp [Acc.clash, e1, e2]

theorem needO_false {K : Nat} {u v : Nat} {a b : Acc} (ha : classK K u a) (hb : classK K v b) (h : needO u v = false) : a.clash b = false := by
  rcases ha with ⟨rfl, a1, a2⟩ | rfl | ⟨rfl, a1, a2, a3, a4⟩ | ⟨rfl, a1, a2⟩ <;> rcases hb with ⟨rfl, b1, b2⟩ | rfl | ⟨rfl, b1, b2, b3, b4⟩ | ⟨rfl, b1, b2⟩
  case inl.inl => exact quiet_clash2 a1 a2 b1 b2
  case inl.inr.inr.inl => exact quiet_clash2 a1 a2 b1 (by simp [b2])
  case inr.inr.inl.inl => exact quiet_clash2 a1 (by simp [a2]) b1 b2
  case inr.inr.inl.inr.inr.inl => exact quiet_clash2 a1 (by simp [a2]) b1 (by simp [b2])
  case inr.inr.inl.inr.inr.inr => exact clash23 a1 a2 a3 a4 b1 b2
  case inr.inr.inr.inr.inr.inl => rw [clash_comm]; exact clash23 b1 b2 b3 b4 a1 a2
  all_goals cases h

theorem orderK_of {K : Nat} {ws : List Nat} {acs : List Acc} {ms : List Nat} (hq : quietsK K ws acs) (hs : orderK 0 ws ms = true) : orderOK acs ms = true := by
  have later : ∀ (w : Nat) (i : Nat) (a : Acc) (ws : List Nat) (rs : List Acc) (ms : List Nat), classK K w a → quietsK K ws rs → laterK w i ws ms = true → pairs1 Acc.clash a i rs ms = true := by
    intro w i a ws
    induction ws with
    | nil => intro rs ms _ hq _; cases rs with
      | nil => rfl
      | cons b bs => exact hq.elim
    | cons v vs ih =>
      intro rs ms ha hq hs
      cases rs with
      | nil => exact hq.elim
      | cons b bs =>
        cases ms with
        | nil => cases hs
        | cons m ms =>
          simp only [laterK, Bool.and_eq_true, Bool.or_eq_true, Bool.not_eq_true'] at hs
          simp only [pairs1, Bool.and_eq_true, Bool.or_eq_true, Bool.not_eq_true']
          refine ⟨?_, ih bs ms ha hq.2 hs.2⟩
          rcases hs.1 with h | h
          · exact .inl (needO_false ha hq.1 h)
          · exact .inr h
  have all : ∀ (ws : List Nat) (i : Nat) (rs : List Acc) (ms : List Nat), quietsK K ws rs → orderK i ws ms = true → pairsOK Acc.clash i rs ms = true := by
    intro ws
    induction ws with
    | nil => intro i rs ms hq _; cases rs with
      | nil => rfl
      | cons b bs => exact hq.elim
    | cons w ws ih =>
      intro i rs ms hq hs
      cases rs with
      | nil => exact hq.elim
      | cons a rs =>
        cases ms with
        | nil => cases hs
        | cons m ms =>
          simp only [orderK, Bool.and_eq_true] at hs
          simp only [pairsOK, Bool.and_eq_true]
          exact ⟨later w i a ws rs ms hq.1 hq.2 hs.1, ih (i + 1) rs ms hq.2 hs.2⟩
  exact all ws 0 acs ms hq hs

theorem quietsK.nil {K : Nat} : quietsK K [] [] := trivial
theorem quietsK.q {K : Nat} {a : Acc} {ws : List Nat} {rs : List Acc} (h1 : a.wr = []) (h2 : a.call ≠ some true) (h : quietsK K ws rs) : quietsK K (0 :: ws) (a :: rs) := ⟨.inl ⟨rfl, h1, h2⟩, h⟩
theorem quietsK.w {K : Nat} {a : Acc} {ws : List Nat} {rs : List Acc} (h : quietsK K ws rs) : quietsK K (1 :: ws) (a :: rs) := ⟨.inr (.inl rfl), h⟩
theorem quietsK.r {K : Nat} {a : Acc} {ws : List Nat} {rs : List Acc} (h1 : a.wr = []) (h2 : a.call = none) (h3 : a.lo = a.hi) (h4 : ∀ x ∈ a.rd, x < K) (h : quietsK K ws rs) : quietsK K (2 :: ws) (a :: rs) := ⟨.inr (.inr (.inl ⟨rfl, h1, h2, h3, h4⟩)), h⟩
theorem quietsK.x {K : Nat} {a : Acc} {ws : List Nat} {rs : List Acc} (h1 : ∀ x ∈ a.wr, K ≤ x) (h2 : a.call = none) (h : quietsK K ws rs) : quietsK K (3 :: ws) (a :: rs) := ⟨.inr (.inr (.inr ⟨rfl, h1, h2⟩)), h⟩

theorem rdOf_low {N lim K b : Nat} {rd : RO} {h : AH} (H : Hp N lim rd h) (hb : b < N + K) : ∀ x ∈ rdOf h b, x < K := by
  intro x hx
  unfold rdOf at hx
  cases hq : Nat.blt b h.n with
  | true => rw [hq] at hx; simp at hx
  | false =>
    rw [hq] at hx
    simp only [cond, List.mem_singleton] at hx
    have := blt_false hq
    have := H.n
    omega

theorem draw_introK {K : Nat} {ws : List Nat} {acs : List Acc} {ms : List Nat} {Q : Prop} (hq : quietsK K ws acs) (hs : orderK 0 ws ms = true) (h : Q) : (anyWrites acs = true → orderOK acs ms = true) ∧ Q := ⟨fun _ => orderK_of hq hs, h⟩

def E.op : E → Int
  | .nil => 0
  | .mk op _ _ _ _ _ _ _ _ _ => op
def E.ix : E → Int
  | .nil => 0
  | .mk _ _ _ ix _ _ _ _ _ _ => ix

theorem E.cellsOI {rd : RO} {e : E} (h : e.At rd) : ∃ x1 x2 x4 x5 x6 x7, e.cells = [.int .i64 e.op, x1, x2, .int .i64 e.ix, x4, x5, x6, x7] := by
  cases e with
  | nil => exact h.elim
  | mk => exact ⟨_, _, _, _, _, _, rfl⟩

theorem E.Ty_col {lt : Nat → Int} {nv : Nat} {e : E} {t : Int} (h : e.Ty lt nv t) (ho : e.op = 2) : 0 ≤ e.ix ∧ e.ix < (nv : Int) := by
  cases e with
  | nil => exact h.elim
  | mk op tb nm ix vk vi vt sl n kid =>
    simp only [E.op] at ho
    simp only [E.Ty] at h
    simp only [E.ix]
    rcases h with h | h | h | h | h | h | h | h | h | h
    · have := h.1; omega
    · exact ⟨h.2.2.1, h.2.2.2.1⟩
    all_goals have := h.1; omega

theorem E.Ty_kid {lt : Nat → Int} {nv : Nat} {op : Int} {tb nm : ByteArray} {ix vk vi : Int} {vt : ByteArray} {sl : Value} {n : Nat} {kid : Nat → E} {t : Int} (h : (E.mk op tb nm ix vk vi vt sl n kid).Ty lt nv t) : ∀ i, i < n → ∃ t', (kid i).Ty lt nv t' := by
  simp only [E.Ty] at h
  have one : n = 1 → (∃ t', (kid 0).Ty lt nv t') → ∀ i, i < n → ∃ t', (kid i).Ty lt nv t' := fun hn h i hi => by
    obtain rfl : i = 0 := by omega
    exact h
  have two : n = 2 → (∃ t', (kid 0).Ty lt nv t') → (∃ t', (kid 1).Ty lt nv t') → ∀ i, i < n → ∃ t', (kid i).Ty lt nv t' := fun hn h h' i hi => by
    have : i = 0 ∨ i = 1 := by omega
    rcases this with rfl | rfl
    · exact h
    · exact h'
  have or2 : ∀ {e : E} {a b : Int}, (e.Ty lt nv a ∨ e.Ty lt nv b) → ∃ t', e.Ty lt nv t' := fun h => h.elim (fun h => ⟨_, h⟩) fun h => ⟨_, h⟩
  rcases h with h | h | h | h | h | h | h | h | h | h
  · intro i hi; have := h.2.1; omega
  · intro i hi; have := h.2.1; omega
  · exact one h.2.1 (or2 h.2.2.2)
  · exact one h.2.1 (or2 h.2.2.2)
  · exact two h.2.1 (or2 h.2.2.2.1) (or2 h.2.2.2.2.1)
  · exact two h.2.1 (h.2.2.2.elim (fun h => or2 h.1) fun h => or2 h.1) (h.2.2.2.elim (fun h => or2 h.2) fun h => or2 h.2)
  · exact two h.2.1 (or2 h.2.2.2.1) ⟨_, h.2.2.2.2⟩
  · exact one h.2.1 (h.2.2.2.elim or2 or2)
  · exact two h.2.1 (or2 h.2.2.2.1) (or2 h.2.2.2.2)
  · exact one h.2.1 (or2 h.2.2.2)

theorem E.Ty_cmp {lt : Nat → Int} {nv : Nat} {op : Int} {tb nm : ByteArray} {ix vk vi : Int} {vt : ByteArray} {sl : Value} {n : Nat} {kid : Nat → E} {t : Int} (h : (E.mk op tb nm ix vk vi vt sl n kid).Ty lt nv t) (ho : 10 ≤ op ∧ op ≤ 15) : n = 2 := by
  simp only [E.Ty] at h
  rcases h with h | h | h | h | h | h | h | h | h | h
  case inr.inr.inr.inr.inr.inl => exact h.2.1
  all_goals have := h.1; omega

end Go.Vae
end

section
set_option linter.unusedVariables false
namespace Go.Proofs.YtkjkcoemloakhaaGreat
open Go Go.Vae
set_option maxRecDepth 100000

theorem integer_ok {N lim : Nat} {rd : RO} (n : Int) (h0 : AH) (H : Hp N lim rd h0) : Kp TT 139 [.int .i64 n] h0 fun v _ => v = .agg ⟨(Vl.int n).cells⟩ := by
  refine Kp.of (fi := Tryz.fi139) rfl rfl rfl ?_
  refine WpB.seq (WpB.region ?_)
  refine SpB.alloc H rfl rfl rfl rfl rfl fun h g s1 b1 => ?_
  have hle := H.le
  have H := g.hp H
  repeat first | refine qN ?_ | refine qM rfl ?_ | refine qA rfl ?_ | refine qS rfl ?_ | refine qL H b1 rfl ?_ | refine qT rfl ?_ | refine qF rfl ?_ | refine qI i (by omega) rfl ?_ | refine qI io (by omega) rfl ?_ | refine qP rfl ?_ | refine wQ ?_ | refine wR ?_ | refine wD ?_ | refine wN rfl ?_ | refine wS ?_
  refine SpB.storeO H b1 (by omega) (Nat.le_refl _) rfl rfl rfl rfl rfl rfl rfl rfl rfl fun h3 g3 s3 b3 f3 => ?_
  have H := g3.hpL hle H
  repeat first | refine qN ?_ | refine qM rfl ?_ | refine qA rfl ?_ | refine qS rfl ?_ | refine qL H b1 rfl ?_ | refine qT rfl ?_ | refine qF rfl ?_ | refine qI i (by omega) rfl ?_ | refine qI io (by omega) rfl ?_ | refine qP rfl ?_ | refine wQ ?_ | refine wR ?_ | refine wD ?_ | refine wN rfl ?_ | refine wS ?_
  refine WpB.ret ⟨.agg ⟨(Vl.int n).cells⟩, ?_, rfl, Nat.le_refl _⟩
  have := partO (T := TT) (t := 27) (off := 0) (v := .agg ⟨(Vl.int n).cells⟩) H.n b3 rfl
  exact resCell rfl this rfl

theorem floor_ok {N lim : Nat} {rd : RO} (a b : Int) (hb : b ≠ 0) (h0 : AH) (H : Hp N lim rd h0) : Kp TT 140 [.int .i64 a, .int .i64 b] h0 fun v _ => v = .int .i64 (floorI a b) := by
  refine Kp.of (fi := Tryz.fi140) rfl rfl rfl ?_
  have b1 : True := trivial
  repeat first | refine WpB.seq ?_ | refine WpB.region ?_ | refine SpB.nil ?_ | refine SpB.assign rfl rfl rfl rfl rfl ?_ | refine SpB.move rfl rfl rfl rfl rfl ?_
  refine SpB.quo hb rfl rfl rfl rfl rfl rfl ?_
  repeat first | refine WpB.seq ?_ | refine WpB.region ?_ | refine SpB.nil ?_ | refine SpB.assign rfl rfl rfl rfl rfl ?_ | refine SpB.move rfl rfl rfl rfl rfl ?_
  refine SpB.rem hb rfl rfl rfl rfl rfl rfl ?_
  refine qB rfl (fun c1 => ?_) fun c1 => ?_
  · have c1 : a.tmod b ≠ 0 := by simpa using c1
    repeat first | refine qN ?_ | refine qM rfl ?_ | refine qA rfl ?_ | refine qS rfl ?_ | refine qL H b1 rfl ?_ | refine qT rfl ?_ | refine qF rfl ?_ | refine qI i (by omega) rfl ?_ | refine qI io (by omega) rfl ?_ | refine qP rfl ?_ | refine wQ ?_ | refine wR ?_ | refine wD ?_ | refine wN rfl ?_ | refine wS ?_
    refine qB rfl (fun c2 => ?_) fun c2 => ?_
    · repeat first | refine qN ?_ | refine qM rfl ?_ | refine qA rfl ?_ | refine qS rfl ?_ | refine qL H b1 rfl ?_ | refine qT rfl ?_ | refine qF rfl ?_ | refine qI i (by omega) rfl ?_ | refine qI io (by omega) rfl ?_ | refine qP rfl ?_ | refine wQ ?_ | refine wR ?_ | refine wD ?_ | refine wN rfl ?_ | refine wS ?_
      refine qB rfl (fun c3 => ?_) fun c3 => ?_
      · repeat' first | refine qN ?_ | refine qM rfl ?_ | refine qA rfl ?_ | refine qS rfl ?_ | refine qL H b1 rfl ?_ | refine qT rfl ?_ | refine qF rfl ?_ | refine qB rfl (fun ht => ?_) fun ht => ?_ | refine qI i (by omega) rfl ?_ | refine qI io (by omega) rfl ?_ | refine qP rfl ?_ | refine wQ ?_ | refine wR ?_ | refine wD ?_ | refine wN rfl ?_ | refine wS ?_ | refine wT rfl ?_ | refine wF rfl ?_ | refine WpB.cond rfl (fun ht => ?_) fun ht => ?_
        refine WpB.ret ⟨_, rfl, ?_, Nat.le_refl _⟩
        have c2 : a < 0 := of_decide_eq_true c2
        have c3 : b < 0 := of_decide_eq_true c3
        simp [floorI, c1, c2, c3]
      · repeat' first | refine qN ?_ | refine qM rfl ?_ | refine qA rfl ?_ | refine qS rfl ?_ | refine qL H b1 rfl ?_ | refine qT rfl ?_ | refine qF rfl ?_ | refine qB rfl (fun ht => ?_) fun ht => ?_ | refine qI i (by omega) rfl ?_ | refine qI io (by omega) rfl ?_ | refine qP rfl ?_ | refine wQ ?_ | refine wR ?_ | refine wD ?_ | refine wN rfl ?_ | refine wS ?_ | refine wT rfl ?_ | refine wF rfl ?_ | refine WpB.cond rfl (fun ht => ?_) fun ht => ?_
        refine WpB.ret ⟨_, rfl, ?_, Nat.le_refl _⟩
        have c2 : a < 0 := of_decide_eq_true c2
        have c3 : ¬ b < 0 := of_decide_eq_false c3
        simp [floorI, c1, c2, c3]
        rfl
    · repeat first | refine qN ?_ | refine qM rfl ?_ | refine qA rfl ?_ | refine qS rfl ?_ | refine qL H b1 rfl ?_ | refine qT rfl ?_ | refine qF rfl ?_ | refine qI i (by omega) rfl ?_ | refine qI io (by omega) rfl ?_ | refine qP rfl ?_ | refine wQ ?_ | refine wR ?_ | refine wD ?_ | refine wN rfl ?_ | refine wS ?_
      refine qB rfl (fun c3 => ?_) fun c3 => ?_
      · repeat' first | refine qN ?_ | refine qM rfl ?_ | refine qA rfl ?_ | refine qS rfl ?_ | refine qL H b1 rfl ?_ | refine qT rfl ?_ | refine qF rfl ?_ | refine qB rfl (fun ht => ?_) fun ht => ?_ | refine qI i (by omega) rfl ?_ | refine qI io (by omega) rfl ?_ | refine qP rfl ?_ | refine wQ ?_ | refine wR ?_ | refine wD ?_ | refine wN rfl ?_ | refine wS ?_ | refine wT rfl ?_ | refine wF rfl ?_ | refine WpB.cond rfl (fun ht => ?_) fun ht => ?_
        refine WpB.ret ⟨_, rfl, ?_, Nat.le_refl _⟩
        have c2 : ¬ a < 0 := of_decide_eq_false c2
        have c3 : b < 0 := of_decide_eq_true c3
        simp [floorI, c1, c2, c3]
        rfl
      · repeat' first | refine qN ?_ | refine qM rfl ?_ | refine qA rfl ?_ | refine qS rfl ?_ | refine qL H b1 rfl ?_ | refine qT rfl ?_ | refine qF rfl ?_ | refine qB rfl (fun ht => ?_) fun ht => ?_ | refine qI i (by omega) rfl ?_ | refine qI io (by omega) rfl ?_ | refine qP rfl ?_ | refine wQ ?_ | refine wR ?_ | refine wD ?_ | refine wN rfl ?_ | refine wS ?_ | refine wT rfl ?_ | refine wF rfl ?_ | refine WpB.cond rfl (fun ht => ?_) fun ht => ?_
        refine WpB.ret ⟨_, rfl, ?_, Nat.le_refl _⟩
        have c2 : ¬ a < 0 := of_decide_eq_false c2
        have c3 : ¬ b < 0 := of_decide_eq_false c3
        simp [floorI, c1, c2, c3]
  · have c1 : a.tmod b = 0 := by simpa using c1
    repeat' first | refine qN ?_ | refine qM rfl ?_ | refine qA rfl ?_ | refine qS rfl ?_ | refine qL H b1 rfl ?_ | refine qT rfl ?_ | refine qF rfl ?_ | refine qB rfl (fun ht => ?_) fun ht => ?_ | refine qI i (by omega) rfl ?_ | refine qI io (by omega) rfl ?_ | refine qP rfl ?_ | refine wQ ?_ | refine wR ?_ | refine wD ?_ | refine wN rfl ?_ | refine wS ?_ | refine wT rfl ?_ | refine wF rfl ?_ | refine WpB.cond rfl (fun ht => ?_) fun ht => ?_
    refine WpB.ret ⟨_, rfl, ?_, Nat.le_refl _⟩
    simp [floorI, c1]

theorem columns_ok {N lim : Nat} {rd : RO} : ∀ (e : E) (h : AH), Hp N lim rd h → e.At rd → Kp TT 153 [.agg ⟨e.cells⟩] h fun v _ => v = .bool e.cols
  | .nil, h, _, he => he.elim
  | .mk op tb nm ix vk vi vt sl n kid, h0, H, he => by
    obtain ⟨_, _, hn, ⟨a, cap, rfl, _, _, hx⟩, hk⟩ := he
    have hreach : reachBytes < 2 ^ 47 := by decide
    refine Kp.of (fi := Tryz.fi153) rfl rfl rfl ?_
    refine WpB.seq (WpB.region ?_)
    refine SpB.box H rfl rfl rfl rfl rfl rfl fun h g s1 b1 => ?_
    have hle := H.le
    have H := g.hp H
    have l1 : h0.sz < h.sz := by omega
    clear g s1
    repeat first | refine qN ?_ | refine qM rfl ?_ | refine qA rfl ?_ | refine qS rfl ?_ | refine qL H b1 rfl ?_ | refine qT rfl ?_ | refine qF rfl ?_ | refine qI i (by omega) rfl ?_ | refine qI io (by omega) rfl ?_ | refine qP rfl ?_ | refine wQ ?_ | refine wR ?_ | refine wD ?_ | refine wN rfl ?_ | refine wS ?_
    refine WpB.block ?_
    refine WpB.loopC n (fun i => [(3, .int .i64 (i : Int)), (1, .pointer (some ⟨N + h0.sz, 0, none⟩))]) (fun i h => Hp N lim rd h ∧ h.blk h0.sz = some (.cells (E.mk op tb nm ix vk vi vt (.slice a n cap) n kid).cells) ∧ h0.sz < h.sz ∧ ∀ j, j < i → (kid j).cols = false)
      ⟨H, b1, l1, fun j hj => absurd hj (Nat.not_lt_zero _)⟩ (by repeat first | exact sub_nil | refine sub_cons rfl ?_) ?_
    rintro i h hi ⟨H, b1, l1, hj⟩
    repeat first | refine qN ?_ | refine qM rfl ?_ | refine qA rfl ?_ | refine qS rfl ?_ | refine qL H b1 rfl ?_ | refine qT rfl ?_ | refine qF rfl ?_ | refine qI i (by omega) rfl ?_ | refine qI io (by omega) rfl ?_ | refine qP rfl ?_ | refine wQ ?_ | refine wR ?_ | refine wD ?_ | refine wN rfl ?_ | refine wS ?_
    refine WpB.cond rfl (fun ht => ?_) fun ht => ?_
    · have hlt : i < n := by simpa using ht
      obtain ⟨b, off, rfl, hc⟩ := hx i hlt
      refine WpB.skip ?_
      refine WpB.seq (WpB.block ?_)
      repeat first | refine qN ?_ | refine qM rfl ?_ | refine qA rfl ?_ | refine qS rfl ?_ | refine qL H b1 rfl ?_ | refine qT rfl ?_ | refine qF rfl ?_ | refine qI i (by omega) rfl ?_ | refine qI io (by omega) rfl ?_ | refine qP rfl ?_ | refine wQ ?_ | refine wR ?_ | refine wD ?_ | refine wN rfl ?_ | refine wS ?_
      refine SpB.indexN hlt rfl rfl rfl rfl rfl rfl rfl rfl rfl ?_
      refine SpB.loadR H hc rfl rfl rfl rfl rfl rfl rfl ?_
      refine SpB.callK Tryz.T1OK H (by omega) (columns_ok (kid i) h H (hk i hlt)) rfl rfl rfl rfl rfl ?_
      rintro v h rfl g
      have H := g.hp H
      have b1 := g.keep l1 b1
      have l1 := g.lt l1
      repeat first | refine qN ?_ | refine qM rfl ?_ | refine qA rfl ?_ | refine qS rfl ?_ | refine qL H b1 rfl ?_ | refine qT rfl ?_ | refine qF rfl ?_ | refine qI i (by omega) rfl ?_ | refine qI io (by omega) rfl ?_ | refine qP rfl ?_ | refine wQ ?_ | refine wR ?_ | refine wD ?_ | refine wN rfl ?_ | refine wS ?_
      refine WpB.cond rfl (fun ht2 => ?_) fun ht2 => ?_
      · repeat first | refine qN ?_ | refine qM rfl ?_ | refine qA rfl ?_ | refine qS rfl ?_ | refine qL H b1 rfl ?_ | refine qT rfl ?_ | refine qF rfl ?_ | refine qI i (by omega) rfl ?_ | refine qI io (by omega) rfl ?_ | refine qP rfl ?_ | refine wQ ?_ | refine wR ?_ | refine wD ?_ | refine wN rfl ?_ | refine wS ?_
        refine WpB.ret ⟨_, rfl, ?_, Nat.le_refl _⟩
        have := any_true (f := fun i => (kid i).cols) hlt ht2
        simp only [E.cols, this, Bool.true_or]
      · repeat first | refine qN ?_ | refine qM rfl ?_ | refine qA rfl ?_ | refine qS rfl ?_ | refine qL H b1 rfl ?_ | refine qT rfl ?_ | refine qF rfl ?_ | refine qI i (by omega) rfl ?_ | refine qI io (by omega) rfl ?_ | refine qP rfl ?_ | refine wQ ?_ | refine wR ?_ | refine wD ?_ | refine wN rfl ?_ | refine wS ?_
        refine ⟨hlt, (by repeat first | exact sub_nil | refine sub_cons rfl ?_), ⟨H, b1, l1, fun j hj1 => ?_⟩, rfl⟩
        by_cases e : j = i
        · subst e; exact ht2
        · exact hj j (by omega)
    · refine WpB.exit ?_
      repeat first | refine qN ?_ | refine qM rfl ?_ | refine qA rfl ?_ | refine qS rfl ?_ | refine qL H b1 rfl ?_ | refine qT rfl ?_ | refine qF rfl ?_ | refine qI i (by omega) rfl ?_ | refine qI io (by omega) rfl ?_ | refine qP rfl ?_ | refine wQ ?_ | refine wR ?_ | refine wD ?_ | refine wN rfl ?_ | refine wS ?_
      refine WpB.ret ⟨_, rfl, ?_, Nat.le_refl _⟩
      have hge : ¬ i < n := by simpa using ht
      have := any_false (f := fun i => (kid i).cols) (fun j (hj1 : j < n) => hj j (by omega))
      simp only [E.cols, this, Bool.false_or]

theorem count_ok {N lim : Nat} {rd : RO} : ∀ (e : E) (h : AH), Hp N lim rd h → e.At rd → Kp TT 78 [.agg ⟨e.cells⟩] h fun v _ => ∃ m, v = .int .i64 m
  | .nil, h, _, he => he.elim
  | .mk op tb nm ix vk vi vt sl n kid, h0, H, he => by
    obtain ⟨_, _, hn, ⟨a, cap, rfl, _, _, hx⟩, hk⟩ := he
    have hreach : reachBytes < 2 ^ 47 := by decide
    refine Kp.of (fi := Tryz.fi78) rfl rfl rfl ?_
    refine WpB.seq (WpB.region ?_)
    refine SpB.box H rfl rfl rfl rfl rfl rfl fun h g s1 b1 => ?_
    have hle := H.le
    have H := g.hp H
    have l1 : h0.sz < h.sz := by omega
    clear g s1
    repeat first | refine qN ?_ | refine qM rfl ?_ | refine qA rfl ?_ | refine qS rfl ?_ | refine qL H b1 rfl ?_ | refine qT rfl ?_ | refine qF rfl ?_ | refine qI i (by omega) rfl ?_ | refine qI io (by omega) rfl ?_ | refine qP rfl ?_ | refine wQ ?_ | refine wR ?_ | refine wD ?_ | refine wN rfl ?_ | refine wS ?_
    refine WpB.block ?_
    refine WpB.loopS (σ := Nat × Int) (fun s => n - s.1) (fun s => [(4, .int .i64 (s.1 : Int)), (3, .int .i64 s.2), (1, .pointer (some ⟨N + h0.sz, 0, none⟩))]) (fun s h => Hp N lim rd h ∧ h.blk h0.sz = some (.cells (E.mk op tb nm ix vk vi vt (.slice a n cap) n kid).cells) ∧ h0.sz < h.sz) (0, 1)
      ⟨H, b1, l1⟩ (by repeat first | exact sub_nil | refine sub_cons rfl ?_) ?_
    rintro ⟨i, m⟩ h ⟨H, b1, l1⟩
    repeat first | refine qN ?_ | refine qM rfl ?_ | refine qA rfl ?_ | refine qS rfl ?_ | refine qL H b1 rfl ?_ | refine qT rfl ?_ | refine qF rfl ?_ | refine qI i (by omega) rfl ?_ | refine qI io (by omega) rfl ?_ | refine qP rfl ?_ | refine wQ ?_ | refine wR ?_ | refine wD ?_ | refine wN rfl ?_ | refine wS ?_
    refine qB rfl (fun ht => ?_) fun ht => ?_
    · have hlt : i < n := by simpa using ht
      clear ht
      repeat first | refine qN ?_ | refine qM rfl ?_ | refine qA rfl ?_ | refine qS rfl ?_ | refine qL H b1 rfl ?_ | refine qT rfl ?_ | refine qF rfl ?_ | refine qI i (by omega) rfl ?_ | refine qI io (by omega) rfl ?_ | refine qP rfl ?_ | refine wQ ?_ | refine wR ?_ | refine wD ?_ | refine wN rfl ?_ | refine wS ?_
      refine WpB.cond rfl (fun ht => ?_) fun ht => ?_
      · obtain ⟨b, off, rfl, hc⟩ := hx i hlt
        refine WpB.skip ?_
        refine WpB.seq (WpB.block ?_)
        repeat first | refine qN ?_ | refine qM rfl ?_ | refine qA rfl ?_ | refine qS rfl ?_ | refine qL H b1 rfl ?_ | refine qT rfl ?_ | refine qF rfl ?_ | refine qI i (by omega) rfl ?_ | refine qI io (by omega) rfl ?_ | refine qP rfl ?_ | refine wQ ?_ | refine wR ?_ | refine wD ?_ | refine wN rfl ?_ | refine wS ?_
        refine SpB.indexN hlt rfl rfl rfl rfl rfl rfl rfl rfl rfl ?_
        refine SpB.loadR H hc rfl rfl rfl rfl rfl rfl rfl ?_
        refine SpB.callK Tryz.T1OK H (by omega) (count_ok (kid i) h H (hk i hlt)) rfl rfl rfl rfl rfl ?_
        rintro v h ⟨r, rfl⟩ g
        have H := g.hp H
        have b1 := g.keep l1 b1
        have l1 := g.lt l1
        repeat first | refine qN ?_ | refine qM rfl ?_ | refine qA rfl ?_ | refine qS rfl ?_ | refine qL H b1 rfl ?_ | refine qT rfl ?_ | refine qF rfl ?_ | refine qI i (by omega) rfl ?_ | refine qI io (by omega) rfl ?_ | refine qP rfl ?_ | refine wQ ?_ | refine wR ?_ | refine wD ?_ | refine wN rfl ?_ | refine wS ?_
        exact ⟨(i + 1, IntKind.i64.wrap (m + r)), by show n - (i + 1) < n - i; omega, (by repeat first | exact sub_nil | refine sub_cons rfl ?_), ⟨H, b1, l1⟩, rfl⟩
      · refine WpB.exit ?_
        repeat first | refine qN ?_ | refine qM rfl ?_ | refine qA rfl ?_ | refine qS rfl ?_ | refine qL H b1 rfl ?_ | refine qT rfl ?_ | refine qF rfl ?_ | refine qI i (by omega) rfl ?_ | refine qI io (by omega) rfl ?_ | refine qP rfl ?_ | refine wQ ?_ | refine wR ?_ | refine wD ?_ | refine wN rfl ?_ | refine wS ?_
        exact WpB.ret ⟨_, rfl, ⟨_, rfl⟩, Nat.le_refl _⟩
    · repeat' first | refine qN ?_ | refine qM rfl ?_ | refine qA rfl ?_ | refine qS rfl ?_ | refine qL H b1 rfl ?_ | refine qT rfl ?_ | refine qF rfl ?_ | refine qB rfl (fun ht => ?_) fun ht => ?_ | refine qI i (by omega) rfl ?_ | refine qI io (by omega) rfl ?_ | refine qP rfl ?_ | refine wQ ?_ | refine wR ?_ | refine wD ?_ | refine wN rfl ?_ | refine wS ?_ | refine wT rfl ?_ | refine wF rfl ?_ | refine WpB.cond rfl (fun ht => ?_) fun ht => ?_
      refine WpB.exit ?_
      repeat first | refine qN ?_ | refine qM rfl ?_ | refine qA rfl ?_ | refine qS rfl ?_ | refine qL H b1 rfl ?_ | refine qT rfl ?_ | refine qF rfl ?_ | refine qI i (by omega) rfl ?_ | refine qI io (by omega) rfl ?_ | refine qP rfl ?_ | refine wQ ?_ | refine wR ?_ | refine wD ?_ | refine wN rfl ?_ | refine wS ?_
      exact WpB.ret ⟨_, rfl, ⟨_, rfl⟩, Nat.le_refl _⟩

end Go.Proofs.YtkjkcoemloakhaaGreat
end

section
set_option linter.unusedVariables false
namespace Go.Proofs.YtkjkcoemloakhaaGreat
open Go Go.Vae
set_option maxRecDepth 100000

theorem ret_cell {N lim : Nat} {rd : RO} {h : AH} {k : Nat} {bs : Bs} {w : Vl} (hl : Vae.look bs 4 = some (.pointer (some ⟨N + k, 0, none⟩))) (H : Hp N lim rd h) (b : h.blk k = some (.cells w.cells)) : resAllB TT h bs [.cell 4 27] = some (.agg ⟨w.cells⟩) :=
  resCell hl (partO (off := 0) H.n b rfl) rfl

theorem value_one {N lim : Nat} {rd : RO} (rv : Sl Vl) (hrv : rv.At rd 3 Vl.cells fun _ => True) {op : Int} {tb nm : ByteArray} {ix vk vi : Int} {vt : ByteArray} {a : Option Addr} {cap n : Nat} {kid : Nat → E} (h0 : AH) (H : Hp N lim rd h0) (ho : op = 3 ∨ op = 9) (hn1 : 1 ≤ n) (hv0 : (kid 0).vok rv.x rv.n)
    (hx : ∀ i, i < n → ∃ b off, a = some ⟨b, off, none⟩ ∧ rd b (off + i * 8) 8 = some (kid i).cells) (hrec : ∀ i, i < n → ∀ h, Hp N lim rd h → (kid i).vok rv.x rv.n → Kp TT 106 [.agg ⟨(kid i).cells⟩, rv.v] h fun v _ => v = .agg ⟨((kid i).val rv.x).cells⟩) :
    Kp TT 106 [.agg ⟨(E.mk op tb nm ix vk vi vt (.slice a n cap) n kid).cells⟩, rv.v] h0 fun v _ => v = .agg ⟨((E.mk op tb nm ix vk vi vt (.slice a n cap) n kid).val rv.x).cells⟩ := by
  refine Kp.of (fi := Tryz.fi106) rfl rfl rfl ?_
  refine WpB.seq (WpB.region ?_)
  refine SpB.box H rfl rfl rfl rfl rfl rfl fun h g s1 b1 => ?_
  have hle := H.le
  have H := g.hp H
  have l1 : h0.sz < h.sz := by omega
  clear g s1
  refine SpB.alloc H rfl rfl rfl rfl rfl fun h2 g s2 b2 => ?_
  have l2 : h.sz < h2.sz := by omega
  have H := g.hp H
  have b1 := g.keep l1 b1
  have l1 := g.lt l1
  have lt2 : h0.sz < h.sz := by omega
  clear g s2
  have h1 : op ≠ 1 := by omega
  have h2' : op ≠ 2 := by omega
  obtain ⟨b, off, rfl, hc0⟩ := hx 0 (by omega)
  have hz : ((kid 0).val rv.x).k = 0 → (E.mk op tb nm ix vk vi vt (.slice (some ⟨b, off, none⟩) n cap) n kid).val rv.x = .zero := fun h => by
    simp [E.val, h1, h2', h]
  have h3v : op = 3 → ((kid 0).val rv.x).k ≠ 0 → (E.mk op tb nm ix vk vi vt (.slice (some ⟨b, off, none⟩) n cap) n kid).val rv.x = .int (w6 (0 - ((kid 0).val rv.x).i)) := fun h h' => by
    simp [E.val, h, h']
  have h9v : op = 9 → ((kid 0).val rv.x).k ≠ 0 → (E.mk op tb nm ix vk vi vt (.slice (some ⟨b, off, none⟩) n cap) n kid).val rv.x = .int (txt ((kid 0).val rv.x).t) := fun h h' => by
    simp [E.val, h, h']
  rcases ho with rfl | rfl
  all_goals
    repeat first | refine qN ?_ | refine qM rfl ?_ | refine qA rfl ?_ | refine qS rfl ?_ | refine qL H b1 rfl ?_ | refine qL H b2 rfl ?_ | refine qT rfl ?_ | refine qF rfl ?_ | refine qI i (by omega) rfl ?_ | refine qI io (by omega) rfl ?_ | refine qP rfl ?_ | refine wQ ?_ | refine wR ?_ | refine wD ?_ | refine wN rfl ?_ | refine wS ?_
    refine WpB.condF rfl ?_
    repeat first | refine qN ?_ | refine qM rfl ?_ | refine qA rfl ?_ | refine qS rfl ?_ | refine qL H b1 rfl ?_ | refine qL H b2 rfl ?_ | refine qT rfl ?_ | refine qF rfl ?_ | refine qI i (by omega) rfl ?_ | refine qI io (by omega) rfl ?_ | refine qP rfl ?_ | refine wQ ?_ | refine wR ?_ | refine wD ?_ | refine wN rfl ?_ | refine wS ?_
    refine WpB.condF rfl ?_
    repeat first | refine qN ?_ | refine qM rfl ?_ | refine qA rfl ?_ | refine qS rfl ?_ | refine qL H b1 rfl ?_ | refine qL H b2 rfl ?_ | refine qT rfl ?_ | refine qF rfl ?_ | refine qI i (by omega) rfl ?_ | refine qI io (by omega) rfl ?_ | refine qP rfl ?_ | refine wQ ?_ | refine wR ?_ | refine wD ?_ | refine wN rfl ?_ | refine wS ?_
    refine SpB.indexN (n := 0) (show 0 < n by omega) rfl rfl rfl rfl rfl rfl rfl rfl rfl ?_
    refine SpB.loadR H hc0 rfl rfl rfl rfl rfl rfl rfl ?_
    repeat first | refine qN ?_ | refine qM rfl ?_ | refine qA rfl ?_ | refine qS rfl ?_ | refine qL H b1 rfl ?_ | refine qL H b2 rfl ?_ | refine qT rfl ?_ | refine qF rfl ?_ | refine qI i (by omega) rfl ?_ | refine qI io (by omega) rfl ?_ | refine qP rfl ?_ | refine wQ ?_ | refine wR ?_ | refine wD ?_ | refine wN rfl ?_ | refine wS ?_
    refine SpB.callK Tryz.T1OK H (by omega) (hrec 0 (by omega) h2 H hv0) rfl rfl rfl rfl rfl ?_
    rintro v h3 rfl g
    have H := g.hp H
    have b1 := g.keep l1 b1
    have l1 := g.lt l1
    have b2 := g.keep l2 b2
    have l2 := g.lt l2
    generalize E.val rv.x (kid 0) = r at hz h3v h9v
    refine SpB.alloc H rfl rfl rfl rfl rfl fun h4 g s4 b3 => ?_
    have l3 : h3.sz < h4.sz := by omega
    have l23 : h.sz < h3.sz := by omega
    have H := g.hp H
    have b1 := g.keep l1 b1
    have l1 := g.lt l1
    have b2 := g.keep l2 b2
    have l2 := g.lt l2
    refine SpB.storeO H b3 (by omega) (by omega) rfl rfl rfl rfl rfl rfl rfl rfl rfl fun h5 g5 s5 b5 f5 => ?_
    have H := g5.hpL (by omega) H
    have b1 := (f5 h0.sz (by omega)).trans b1
    have b2 := (f5 h.sz (by omega)).trans b2
    have b3 : h5.blk h3.sz = some (.cells r.cells) := b5
    clear f5 b5 g5
    have l1 : h0.sz < h5.sz := by omega
    have l2 : h.sz < h5.sz := by omega
    have l3 : h3.sz < h5.sz := by omega
    repeat first | refine qN ?_ | refine qM rfl ?_ | refine qA rfl ?_ | refine qS rfl ?_ | refine qL H b1 rfl ?_ | refine qL H b2 rfl ?_ | refine qL H b3 rfl ?_ | refine qT rfl ?_ | refine qF rfl ?_ | refine qI i (by omega) rfl ?_ | refine qI io (by omega) rfl ?_ | refine qP rfl ?_ | refine wQ ?_ | refine wR ?_ | refine wD ?_ | refine wN rfl ?_ | refine wS ?_
    refine WpB.cond rfl (fun ht => ?_) fun ht => ?_
    · repeat first | refine qN ?_ | refine qM rfl ?_ | refine qA rfl ?_ | refine qS rfl ?_ | refine qL H b1 rfl ?_ | refine qL H b2 rfl ?_ | refine qL H b3 rfl ?_ | refine qT rfl ?_ | refine qF rfl ?_ | refine qI i (by omega) rfl ?_ | refine qI io (by omega) rfl ?_ | refine qP rfl ?_ | refine wQ ?_ | refine wR ?_ | refine wD ?_ | refine wN rfl ?_ | refine wS ?_
      refine SpB.storeO H b2 (by omega) (by omega) rfl rfl rfl rfl rfl rfl rfl rfl rfl fun h6 g6 s6 b6 f6 => ?_
      have H := g6.hpL (by omega) H
      repeat first | refine qN ?_ | refine qM rfl ?_ | refine qA rfl ?_ | refine qS rfl ?_ | refine qL H b1 rfl ?_ | refine qT rfl ?_ | refine qF rfl ?_ | refine qI i (by omega) rfl ?_ | refine qI io (by omega) rfl ?_ | refine qP rfl ?_ | refine wQ ?_ | refine wR ?_ | refine wD ?_ | refine wN rfl ?_ | refine wS ?_
      refine WpB.ret ⟨_, ret_cell (w := .zero) rfl H b6, ?_, Nat.le_refl _⟩
      rw [hz (by simpa using ht)]
    · have ht : r.k ≠ 0 := by simpa using ht
      repeat first | refine qN ?_ | refine qM rfl ?_ | refine qA rfl ?_ | refine qS rfl ?_ | refine qL H b1 rfl ?_ | refine qL H b2 rfl ?_ | refine qL H b3 rfl ?_ | refine qT rfl ?_ | refine qF rfl ?_ | refine qI i (by omega) rfl ?_ | refine qI io (by omega) rfl ?_ | refine qP rfl ?_ | refine wQ ?_ | refine wR ?_ | refine wD ?_ | refine wN rfl ?_ | refine wS ?_
      first | refine WpB.condT rfl ?_ | refine WpB.condF rfl ?_
      repeat first | refine qN ?_ | refine qM rfl ?_ | refine qA rfl ?_ | refine qS rfl ?_ | refine qL H b1 rfl ?_ | refine qL H b2 rfl ?_ | refine qL H b3 rfl ?_ | refine qT rfl ?_ | refine qF rfl ?_ | refine qI i (by omega) rfl ?_ | refine qI io (by omega) rfl ?_ | refine qP rfl ?_ | refine wQ ?_ | refine wR ?_ | refine wD ?_ | refine wN rfl ?_ | refine wS ?_
      try refine WpB.condT rfl ?_
      repeat first | refine qN ?_ | refine qM rfl ?_ | refine qA rfl ?_ | refine qS rfl ?_ | refine qL H b1 rfl ?_ | refine qL H b2 rfl ?_ | refine qL H b3 rfl ?_ | refine qT rfl ?_ | refine qF rfl ?_ | refine qI i (by omega) rfl ?_ | refine qI io (by omega) rfl ?_ | refine qP rfl ?_ | refine wQ ?_ | refine wR ?_ | refine wD ?_ | refine wN rfl ?_ | refine wS ?_
      refine SpB.callK Tryz.T1OK H (by omega) (integer_ok _ h5 H) rfl rfl rfl rfl rfl ?_
      rintro v h6 rfl g
      have H := g.hp H
      have b1 := g.keep l1 b1
      have l1 := g.lt l1
      have b2 := g.keep l2 b2
      have l2 := g.lt l2
      refine SpB.storeO H b2 (by omega) (by omega) rfl rfl rfl rfl rfl rfl rfl rfl rfl fun h7 g7 s7 b7 f7 => ?_
      have H := g7.hpL (by omega) H
      repeat first | refine qN ?_ | refine qM rfl ?_ | refine qA rfl ?_ | refine qS rfl ?_ | refine qL H b1 rfl ?_ | refine qT rfl ?_ | refine qF rfl ?_ | refine qI i (by omega) rfl ?_ | refine qI io (by omega) rfl ?_ | refine qP rfl ?_ | refine wQ ?_ | refine wR ?_ | refine wD ?_ | refine wN rfl ?_ | refine wS ?_
      first
        | (refine WpB.ret ⟨_, ret_cell (w := .int (w6 (0 - r.i))) rfl H b7, ?_, Nat.le_refl _⟩
           rw [h3v rfl ht]
           done)
        | (refine WpB.ret ⟨_, ret_cell (w := .int (txt r.t)) rfl H b7, ?_, Nat.le_refl _⟩
           rw [h9v rfl ht]
           done)

theorem value_two {N lim : Nat} {rd : RO} (rv : Sl Vl) (hrv : rv.At rd 3 Vl.cells fun _ => True) {op : Int} {tb nm : ByteArray} {ix vk vi : Int} {vt : ByteArray} {a : Option Addr} {cap : Nat} {kid : Nat → E} (h0 : AH) (H : Hp N lim rd h0) (ho : 4 ≤ op ∧ op ≤ 8) (hv0 : (kid 0).vok rv.x rv.n) (hv1 : (kid 1).vok rv.x rv.n) (hdiv : 7 ≤ op → ((kid 1).val rv.x).i ≠ 0)
    (hx : ∀ i, i < 2 → ∃ b off, a = some ⟨b, off, none⟩ ∧ rd b (off + i * 8) 8 = some (kid i).cells) (hrec : ∀ i, i < 2 → ∀ h, Hp N lim rd h → (kid i).vok rv.x rv.n → Kp TT 106 [.agg ⟨(kid i).cells⟩, rv.v] h fun v _ => v = .agg ⟨((kid i).val rv.x).cells⟩) :
    Kp TT 106 [.agg ⟨(E.mk op tb nm ix vk vi vt (.slice a 2 cap) 2 kid).cells⟩, rv.v] h0 fun v _ => v = .agg ⟨((E.mk op tb nm ix vk vi vt (.slice a 2 cap) 2 kid).val rv.x).cells⟩ := by
  refine Kp.of (fi := Tryz.fi106) rfl rfl rfl ?_
  refine WpB.seq (WpB.region ?_)
  refine SpB.box H rfl rfl rfl rfl rfl rfl fun h g s1 b1 => ?_
  have hle := H.le
  have H := g.hp H
  have l1 : h0.sz < h.sz := by omega
  clear g s1
  refine SpB.alloc H rfl rfl rfl rfl rfl fun h2 g s2 b2 => ?_
  have l2 : h.sz < h2.sz := by omega
  have H := g.hp H
  have b1 := g.keep l1 b1
  have l1 := g.lt l1
  have lt2 : h0.sz < h.sz := by omega
  clear g s2
  have h1 : op ≠ 1 := by omega
  have h2' : op ≠ 2 := by omega
  have h3' : op ≠ 3 := by omega
  have h9' : op ≠ 9 := by omega
  obtain ⟨b, off, rfl, hc0⟩ := hx 0 (by omega)
  obtain ⟨_, _, ha1, hc1⟩ := hx 1 (by omega)
  injection ha1 with ha1
  injection ha1 with ha1 ha2
  subst ha1 ha2
  have hz : ((kid 0).val rv.x).k = 0 → (E.mk op tb nm ix vk vi vt (.slice (some ⟨b, off, none⟩) 2 cap) 2 kid).val rv.x = .zero := fun h => by
    simp [E.val, h1, h2', h]
  have hz2 : ((kid 0).val rv.x).k ≠ 0 → ((kid 1).val rv.x).k = 0 → (E.mk op tb nm ix vk vi vt (.slice (some ⟨b, off, none⟩) 2 cap) 2 kid).val rv.x = .zero := fun h h' => by
    simp [E.val, h1, h2', h3', h9', h, h']
  have hv : ((kid 0).val rv.x).k ≠ 0 → ((kid 1).val rv.x).k ≠ 0 → (E.mk op tb nm ix vk vi vt (.slice (some ⟨b, off, none⟩) 2 cap) 2 kid).val rv.x =
      (if op = 4 then .int (w6 (((kid 0).val rv.x).i + ((kid 1).val rv.x).i)) else
       if op = 5 then .int (w6 (((kid 0).val rv.x).i - ((kid 1).val rv.x).i)) else
       if op = 6 then .int (w6 (((kid 0).val rv.x).i * ((kid 1).val rv.x).i)) else
       if op = 7 then .int (floorI ((kid 0).val rv.x).i ((kid 1).val rv.x).i) else
       .int (w6 (((kid 0).val rv.x).i - w6 (((kid 1).val rv.x).i * floorI ((kid 0).val rv.x).i ((kid 1).val rv.x).i)))) := fun h h' => by
    simp only [E.val, if_neg h1, if_neg h2', if_neg h3', if_neg h9', if_neg h, if_neg h']
  have ho : op = 4 ∨ op = 5 ∨ op = 6 ∨ op = 7 ∨ op = 8 := by omega
  repeat first | refine qN ?_ | refine qM rfl ?_ | refine qA rfl ?_ | refine qS rfl ?_ | refine qL H b1 rfl ?_ | refine qL H b2 rfl ?_ | refine qT rfl ?_ | refine qF rfl ?_ | refine qI i (by omega) rfl ?_ | refine qI io (by omega) rfl ?_ | refine qP rfl ?_ | refine wQ ?_ | refine wR ?_ | refine wD ?_ | refine wN rfl ?_ | refine wS ?_
  refine WpB.cond rfl (fun ht => absurd (by simpa using ht) h1) fun _ => ?_
  repeat first | refine qN ?_ | refine qM rfl ?_ | refine qA rfl ?_ | refine qS rfl ?_ | refine qL H b1 rfl ?_ | refine qL H b2 rfl ?_ | refine qT rfl ?_ | refine qF rfl ?_ | refine qI i (by omega) rfl ?_ | refine qI io (by omega) rfl ?_ | refine qP rfl ?_ | refine wQ ?_ | refine wR ?_ | refine wD ?_ | refine wN rfl ?_ | refine wS ?_
  refine WpB.cond rfl (fun ht => absurd (by simpa using ht) h2') fun _ => ?_
  repeat first | refine qN ?_ | refine qM rfl ?_ | refine qA rfl ?_ | refine qS rfl ?_ | refine qL H b1 rfl ?_ | refine qL H b2 rfl ?_ | refine qT rfl ?_ | refine qF rfl ?_ | refine qI i (by omega) rfl ?_ | refine qI io (by omega) rfl ?_ | refine qP rfl ?_ | refine wQ ?_ | refine wR ?_ | refine wD ?_ | refine wN rfl ?_ | refine wS ?_
  refine SpB.loadR H hc0 rfl rfl rfl rfl rfl rfl rfl ?_
  repeat first | refine qN ?_ | refine qM rfl ?_ | refine qA rfl ?_ | refine qS rfl ?_ | refine qL H b1 rfl ?_ | refine qL H b2 rfl ?_ | refine qT rfl ?_ | refine qF rfl ?_ | refine qI i (by omega) rfl ?_ | refine qI io (by omega) rfl ?_ | refine qP rfl ?_ | refine wQ ?_ | refine wR ?_ | refine wD ?_ | refine wN rfl ?_ | refine wS ?_
  refine SpB.callK Tryz.T1OK H (by omega) (hrec 0 (by omega) h2 H hv0) rfl rfl rfl rfl rfl ?_
  rintro v h3 rfl g
  have H := g.hp H
  have b1 := g.keep l1 b1
  have l1 := g.lt l1
  have b2 := g.keep l2 b2
  have l2 := g.lt l2
  generalize E.val rv.x (kid 0) = r at hz hz2 hv
  refine SpB.alloc H rfl rfl rfl rfl rfl fun h4 g s4 b3 => ?_
  have l3 : h3.sz < h4.sz := by omega
  have l23 : h.sz < h3.sz := by omega
  have H := g.hp H
  have b1 := g.keep l1 b1
  have l1 := g.lt l1
  have b2 := g.keep l2 b2
  have l2 := g.lt l2
  refine SpB.storeO H b3 (by omega) (by omega) rfl rfl rfl rfl rfl rfl rfl rfl rfl fun h5 g5 s5 b5 f5 => ?_
  have H := g5.hpL (by omega) H
  have b1 := (f5 h0.sz (by omega)).trans b1
  have b2 := (f5 h.sz (by omega)).trans b2
  have b3 : h5.blk h3.sz = some (.cells r.cells) := b5
  clear f5 b5 g5
  have l1 : h0.sz < h5.sz := by omega
  have l2 : h.sz < h5.sz := by omega
  have l3 : h3.sz < h5.sz := by omega
  repeat first | refine qN ?_ | refine qM rfl ?_ | refine qA rfl ?_ | refine qS rfl ?_ | refine qL H b1 rfl ?_ | refine qL H b2 rfl ?_ | refine qL H b3 rfl ?_ | refine qT rfl ?_ | refine qF rfl ?_ | refine qI i (by omega) rfl ?_ | refine qI io (by omega) rfl ?_ | refine qP rfl ?_ | refine wQ ?_ | refine wR ?_ | refine wD ?_ | refine wN rfl ?_ | refine wS ?_
  refine WpB.cond rfl (fun ht => ?_) fun ht => ?_
  · repeat first | refine qN ?_ | refine qM rfl ?_ | refine qA rfl ?_ | refine qS rfl ?_ | refine qL H b1 rfl ?_ | refine qL H b2 rfl ?_ | refine qL H b3 rfl ?_ | refine qT rfl ?_ | refine qF rfl ?_ | refine qI i (by omega) rfl ?_ | refine qI io (by omega) rfl ?_ | refine qP rfl ?_ | refine wQ ?_ | refine wR ?_ | refine wD ?_ | refine wN rfl ?_ | refine wS ?_
    refine SpB.storeO H b2 (by omega) (by omega) rfl rfl rfl rfl rfl rfl rfl rfl rfl fun h6 g6 s6 b6 f6 => ?_
    have H := g6.hpL (by omega) H
    repeat first | refine qN ?_ | refine qM rfl ?_ | refine qA rfl ?_ | refine qS rfl ?_ | refine qL H b1 rfl ?_ | refine qT rfl ?_ | refine qF rfl ?_ | refine qI i (by omega) rfl ?_ | refine qI io (by omega) rfl ?_ | refine qP rfl ?_ | refine wQ ?_ | refine wR ?_ | refine wD ?_ | refine wN rfl ?_ | refine wS ?_
    refine WpB.ret ⟨_, ret_cell (w := .zero) rfl H b6, ?_, Nat.le_refl _⟩
    rw [hz (by simpa using ht)]
  have ht : r.k ≠ 0 := by simpa using ht
  repeat first | refine qN ?_ | refine qM rfl ?_ | refine qA rfl ?_ | refine qS rfl ?_ | refine qL H b1 rfl ?_ | refine qL H b2 rfl ?_ | refine qL H b3 rfl ?_ | refine qT rfl ?_ | refine qF rfl ?_ | refine qI i (by omega) rfl ?_ | refine qI io (by omega) rfl ?_ | refine qP rfl ?_ | refine wQ ?_ | refine wR ?_ | refine wD ?_ | refine wN rfl ?_ | refine wS ?_
  refine WpB.cond rfl (fun ht => absurd (by simpa using ht) h3') fun _ => ?_
  repeat first | refine qN ?_ | refine qM rfl ?_ | refine qA rfl ?_ | refine qS rfl ?_ | refine qL H b1 rfl ?_ | refine qL H b2 rfl ?_ | refine qL H b3 rfl ?_ | refine qT rfl ?_ | refine qF rfl ?_ | refine qI i (by omega) rfl ?_ | refine qI io (by omega) rfl ?_ | refine qP rfl ?_ | refine wQ ?_ | refine wR ?_ | refine wD ?_ | refine wN rfl ?_ | refine wS ?_
  refine WpB.cond rfl (fun ht => absurd (by simpa using ht) h9') fun _ => ?_
  repeat first | refine qN ?_ | refine qM rfl ?_ | refine qA rfl ?_ | refine qS rfl ?_ | refine qL H b1 rfl ?_ | refine qL H b2 rfl ?_ | refine qL H b3 rfl ?_ | refine qT rfl ?_ | refine qF rfl ?_ | refine qI i (by omega) rfl ?_ | refine qI io (by omega) rfl ?_ | refine qP rfl ?_ | refine wQ ?_ | refine wR ?_ | refine wD ?_ | refine wN rfl ?_ | refine wS ?_
  refine SpB.loadR H hc1 rfl rfl rfl rfl rfl rfl rfl ?_
  repeat first | refine qN ?_ | refine qM rfl ?_ | refine qA rfl ?_ | refine qS rfl ?_ | refine qL H b1 rfl ?_ | refine qL H b2 rfl ?_ | refine qL H b3 rfl ?_ | refine qT rfl ?_ | refine qF rfl ?_ | refine qI i (by omega) rfl ?_ | refine qI io (by omega) rfl ?_ | refine qP rfl ?_ | refine wQ ?_ | refine wR ?_ | refine wD ?_ | refine wN rfl ?_ | refine wS ?_
  refine SpB.callK Tryz.T1OK H (by omega) (hrec 1 (by omega) h5 H hv1) rfl rfl rfl rfl rfl ?_
  rintro v h6 rfl g
  have H := g.hp H
  have b1 := g.keep l1 b1
  have l1 := g.lt l1
  have b2 := g.keep l2 b2
  have l2 := g.lt l2
  have b3 := g.keep l3 b3
  have l3 := g.lt l3
  generalize E.val rv.x (kid 1) = r2 at hz2 hv hdiv
  refine SpB.alloc H rfl rfl rfl rfl rfl fun h7 g s7 b4 => ?_
  have l36 : h3.sz < h6.sz := by omega
  have H := g.hp H
  have b1 := g.keep l1 b1
  have l1 := g.lt l1
  have b2 := g.keep l2 b2
  have l2 := g.lt l2
  have b3 := g.keep l3 b3
  have l3 := g.lt l3
  refine SpB.storeO H b4 (by omega) (by omega) rfl rfl rfl rfl rfl rfl rfl rfl rfl fun h8 g8 s8 b8 f8 => ?_
  have H := g8.hpL (by omega) H
  have b1 := (f8 h0.sz (by omega)).trans b1
  have b2 := (f8 h.sz (by omega)).trans b2
  have b3 := (f8 h3.sz (by omega)).trans b3
  have b4 : h8.blk h6.sz = some (.cells r2.cells) := b8
  clear f8 b8 g8
  have l1 : h0.sz < h8.sz := by omega
  have l2 : h.sz < h8.sz := by omega
  repeat first | refine qN ?_ | refine qM rfl ?_ | refine qA rfl ?_ | refine qS rfl ?_ | refine qL H b1 rfl ?_ | refine qL H b2 rfl ?_ | refine qL H b3 rfl ?_ | refine qL H b4 rfl ?_ | refine qT rfl ?_ | refine qF rfl ?_ | refine qI i (by omega) rfl ?_ | refine qI io (by omega) rfl ?_ | refine qP rfl ?_ | refine wQ ?_ | refine wR ?_ | refine wD ?_ | refine wN rfl ?_ | refine wS ?_
  refine WpB.cond rfl (fun ht2 => ?_) fun ht2 => ?_
  · repeat first | refine qN ?_ | refine qM rfl ?_ | refine qA rfl ?_ | refine qS rfl ?_ | refine qL H b1 rfl ?_ | refine qL H b2 rfl ?_ | refine qL H b3 rfl ?_ | refine qL H b4 rfl ?_ | refine qT rfl ?_ | refine qF rfl ?_ | refine qI i (by omega) rfl ?_ | refine qI io (by omega) rfl ?_ | refine qP rfl ?_ | refine wQ ?_ | refine wR ?_ | refine wD ?_ | refine wN rfl ?_ | refine wS ?_
    refine SpB.storeO H b2 (by omega) (by omega) rfl rfl rfl rfl rfl rfl rfl rfl rfl fun h9 g9 s9 b9 f9 => ?_
    have H := g9.hpL (by omega) H
    repeat first | refine qN ?_ | refine qM rfl ?_ | refine qA rfl ?_ | refine qS rfl ?_ | refine qL H b1 rfl ?_ | refine qT rfl ?_ | refine qF rfl ?_ | refine qI i (by omega) rfl ?_ | refine qI io (by omega) rfl ?_ | refine qP rfl ?_ | refine wQ ?_ | refine wR ?_ | refine wD ?_ | refine wN rfl ?_ | refine wS ?_
    refine WpB.ret ⟨_, ret_cell (w := .zero) rfl H b9, ?_, Nat.le_refl _⟩
    rw [hz2 ht (by simpa using ht2)]
  have ht2 : r2.k ≠ 0 := by simpa using ht2
  have hv := hv ht ht2
  repeat first | refine qN ?_ | refine qM rfl ?_ | refine qA rfl ?_ | refine qS rfl ?_ | refine qL H b1 rfl ?_ | refine qL H b2 rfl ?_ | refine qL H b3 rfl ?_ | refine qL H b4 rfl ?_ | refine qT rfl ?_ | refine qF rfl ?_ | refine qI i (by omega) rfl ?_ | refine qI io (by omega) rfl ?_ | refine qP rfl ?_ | refine wQ ?_ | refine wR ?_ | refine wD ?_ | refine wN rfl ?_ | refine wS ?_
  refine WpB.block ?_
  have ho : op = 4 ∨ op = 5 ∨ op = 6 ∨ op = 7 ∨ op = 8 := by omega
  rcases ho with rfl | rfl | rfl | rfl | rfl
  · repeat first | refine qN ?_ | refine qM rfl ?_ | refine qA rfl ?_ | refine qS rfl ?_ | refine qL H b1 rfl ?_ | refine qL H b2 rfl ?_ | refine qL H b3 rfl ?_ | refine qL H b4 rfl ?_ | refine qT rfl ?_ | refine qF rfl ?_ | refine qI i (by omega) rfl ?_ | refine qI io (by omega) rfl ?_ | refine qP rfl ?_ | refine wQ ?_ | refine wR ?_ | refine wD ?_ | refine wN rfl ?_ | refine wS ?_ | refine wT rfl ?_ | refine wF rfl ?_
    refine SpB.callK Tryz.T1OK H (by omega) (integer_ok _ h8 H) rfl rfl rfl rfl rfl ?_
    rintro v h9 rfl g
    have H := g.hp H
    have b1 := g.keep l1 b1
    have l1 := g.lt l1
    have b2 := g.keep l2 b2
    have l2 := g.lt l2
    refine SpB.storeO H b2 (by omega) (by omega) rfl rfl rfl rfl rfl rfl rfl rfl rfl fun h10 g10 s10 b10 f10 => ?_
    have H := g10.hpL (by omega) H
    repeat first | refine qN ?_ | refine qM rfl ?_ | refine qA rfl ?_ | refine qS rfl ?_ | refine qL H b1 rfl ?_ | refine qT rfl ?_ | refine qF rfl ?_ | refine qI i (by omega) rfl ?_ | refine qI io (by omega) rfl ?_ | refine qP rfl ?_ | refine wQ ?_ | refine wR ?_ | refine wD ?_ | refine wN rfl ?_ | refine wS ?_
    refine WpB.ret ⟨_, ret_cell (w := .int (w6 (r.i + r2.i))) rfl H b10, ?_, Nat.le_refl _⟩
    rw [hv, if_pos rfl]
  · repeat first | refine qN ?_ | refine qM rfl ?_ | refine qA rfl ?_ | refine qS rfl ?_ | refine qL H b1 rfl ?_ | refine qL H b2 rfl ?_ | refine qL H b3 rfl ?_ | refine qL H b4 rfl ?_ | refine qT rfl ?_ | refine qF rfl ?_ | refine qI i (by omega) rfl ?_ | refine qI io (by omega) rfl ?_ | refine qP rfl ?_ | refine wQ ?_ | refine wR ?_ | refine wD ?_ | refine wN rfl ?_ | refine wS ?_ | refine wT rfl ?_ | refine wF rfl ?_
    refine SpB.callK Tryz.T1OK H (by omega) (integer_ok _ h8 H) rfl rfl rfl rfl rfl ?_
    rintro v h9 rfl g
    have H := g.hp H
    have b1 := g.keep l1 b1
    have l1 := g.lt l1
    have b2 := g.keep l2 b2
    have l2 := g.lt l2
    refine SpB.storeO H b2 (by omega) (by omega) rfl rfl rfl rfl rfl rfl rfl rfl rfl fun h10 g10 s10 b10 f10 => ?_
    have H := g10.hpL (by omega) H
    repeat first | refine qN ?_ | refine qM rfl ?_ | refine qA rfl ?_ | refine qS rfl ?_ | refine qL H b1 rfl ?_ | refine qT rfl ?_ | refine qF rfl ?_ | refine qI i (by omega) rfl ?_ | refine qI io (by omega) rfl ?_ | refine qP rfl ?_ | refine wQ ?_ | refine wR ?_ | refine wD ?_ | refine wN rfl ?_ | refine wS ?_
    refine WpB.ret ⟨_, ret_cell (w := .int (w6 (r.i - r2.i))) rfl H b10, ?_, Nat.le_refl _⟩
    rw [hv, if_neg (by omega), if_pos rfl]
  · repeat first | refine qN ?_ | refine qM rfl ?_ | refine qA rfl ?_ | refine qS rfl ?_ | refine qL H b1 rfl ?_ | refine qL H b2 rfl ?_ | refine qL H b3 rfl ?_ | refine qL H b4 rfl ?_ | refine qT rfl ?_ | refine qF rfl ?_ | refine qI i (by omega) rfl ?_ | refine qI io (by omega) rfl ?_ | refine qP rfl ?_ | refine wQ ?_ | refine wR ?_ | refine wD ?_ | refine wN rfl ?_ | refine wS ?_ | refine wT rfl ?_ | refine wF rfl ?_
    refine SpB.callK Tryz.T1OK H (by omega) (integer_ok _ h8 H) rfl rfl rfl rfl rfl ?_
    rintro v h9 rfl g
    have H := g.hp H
    have b1 := g.keep l1 b1
    have l1 := g.lt l1
    have b2 := g.keep l2 b2
    have l2 := g.lt l2
    refine SpB.storeO H b2 (by omega) (by omega) rfl rfl rfl rfl rfl rfl rfl rfl rfl fun h10 g10 s10 b10 f10 => ?_
    have H := g10.hpL (by omega) H
    repeat first | refine qN ?_ | refine qM rfl ?_ | refine qA rfl ?_ | refine qS rfl ?_ | refine qL H b1 rfl ?_ | refine qT rfl ?_ | refine qF rfl ?_ | refine qI i (by omega) rfl ?_ | refine qI io (by omega) rfl ?_ | refine qP rfl ?_ | refine wQ ?_ | refine wR ?_ | refine wD ?_ | refine wN rfl ?_ | refine wS ?_
    refine WpB.ret ⟨_, ret_cell (w := .int (w6 (r.i * r2.i))) rfl H b10, ?_, Nat.le_refl _⟩
    rw [hv, if_neg (by omega), if_neg (by omega), if_pos rfl]
  · repeat first | refine qN ?_ | refine qM rfl ?_ | refine qA rfl ?_ | refine qS rfl ?_ | refine qL H b1 rfl ?_ | refine qL H b2 rfl ?_ | refine qL H b3 rfl ?_ | refine qL H b4 rfl ?_ | refine qT rfl ?_ | refine qF rfl ?_ | refine qI i (by omega) rfl ?_ | refine qI io (by omega) rfl ?_ | refine qP rfl ?_ | refine wQ ?_ | refine wR ?_ | refine wD ?_ | refine wN rfl ?_ | refine wS ?_ | refine wT rfl ?_ | refine wF rfl ?_
    refine SpB.callK Tryz.T1OK H (by omega) (floor_ok r.i r2.i (hdiv (by omega)) h8 H) rfl rfl rfl rfl rfl ?_
    rintro v h9 rfl g
    have H := g.hp H
    have b1 := g.keep l1 b1
    have l1 := g.lt l1
    have b2 := g.keep l2 b2
    have l2 := g.lt l2
    refine SpB.callK Tryz.T1OK H (by omega) (integer_ok _ h9 H) rfl rfl rfl rfl rfl ?_
    rintro v h9' rfl g
    have H := g.hp H
    have b1 := g.keep l1 b1
    have l1 := g.lt l1
    have b2 := g.keep l2 b2
    have l2 := g.lt l2
    refine SpB.storeO H b2 (by omega) (by omega) rfl rfl rfl rfl rfl rfl rfl rfl rfl fun h10 g10 s10 b10 f10 => ?_
    have H := g10.hpL (by omega) H
    repeat first | refine qN ?_ | refine qM rfl ?_ | refine qA rfl ?_ | refine qS rfl ?_ | refine qL H b1 rfl ?_ | refine qT rfl ?_ | refine qF rfl ?_ | refine qI i (by omega) rfl ?_ | refine qI io (by omega) rfl ?_ | refine qP rfl ?_ | refine wQ ?_ | refine wR ?_ | refine wD ?_ | refine wN rfl ?_ | refine wS ?_
    refine WpB.ret ⟨_, ret_cell (w := .int (floorI r.i r2.i)) rfl H b10, ?_, Nat.le_refl _⟩
    rw [hv, if_neg (by omega), if_neg (by omega), if_neg (by omega), if_pos rfl]
  · repeat first | refine qN ?_ | refine qM rfl ?_ | refine qA rfl ?_ | refine qS rfl ?_ | refine qL H b1 rfl ?_ | refine qL H b2 rfl ?_ | refine qL H b3 rfl ?_ | refine qL H b4 rfl ?_ | refine qT rfl ?_ | refine qF rfl ?_ | refine qI i (by omega) rfl ?_ | refine qI io (by omega) rfl ?_ | refine qP rfl ?_ | refine wQ ?_ | refine wR ?_ | refine wD ?_ | refine wN rfl ?_ | refine wS ?_ | refine wT rfl ?_ | refine wF rfl ?_
    refine SpB.callK Tryz.T1OK H (by omega) (floor_ok r.i r2.i (hdiv (by omega)) h8 H) rfl rfl rfl rfl rfl ?_
    rintro v h9 rfl g
    have H := g.hp H
    have b1 := g.keep l1 b1
    have l1 := g.lt l1
    have b2 := g.keep l2 b2
    have l2 := g.lt l2
    repeat first | refine qN ?_ | refine qM rfl ?_ | refine qA rfl ?_ | refine qS rfl ?_ | refine qL H b1 rfl ?_ | refine qT rfl ?_ | refine qF rfl ?_ | refine qI i (by omega) rfl ?_ | refine qI io (by omega) rfl ?_ | refine qP rfl ?_ | refine wQ ?_ | refine wR ?_ | refine wD ?_ | refine wN rfl ?_ | refine wS ?_
    refine SpB.callK Tryz.T1OK H (by omega) (integer_ok _ h9 H) rfl rfl rfl rfl rfl ?_
    rintro v h9' rfl g
    have H := g.hp H
    have b1 := g.keep l1 b1
    have l1 := g.lt l1
    have b2 := g.keep l2 b2
    have l2 := g.lt l2
    refine SpB.storeO H b2 (by omega) (by omega) rfl rfl rfl rfl rfl rfl rfl rfl rfl fun h10 g10 s10 b10 f10 => ?_
    have H := g10.hpL (by omega) H
    refine SpB.nil ?_
    refine draw_intro (ws := [false, false, false, false, false, false, false, false, false, false, false, false, true]) (by repeat first | exact quiets.nil | refine quiets.q rfl (fun h => by cases h) ?_ | refine quiets.w ?_) (by kernel_rfl) ?_
    refine WpB.ret ⟨_, ret_cell (w := .int (w6 (r.i - w6 (r2.i * floorI r.i r2.i)))) rfl H b10, ?_, Nat.le_refl _⟩
    rw [hv, if_neg (by omega), if_neg (by omega), if_neg (by omega), if_neg (by omega)]

theorem value_ok {N lim : Nat} {rd : RO} (rv : Sl Vl) (hrv : rv.At rd 3 Vl.cells fun _ => True) : ∀ (e : E) (h : AH), Hp N lim rd h → e.At rd → e.vok rv.x rv.n → Kp TT 106 [.agg ⟨e.cells⟩, rv.v] h fun v _ => v = .agg ⟨(e.val rv.x).cells⟩
  | .nil, h, _, he, _ => he.elim
  | .mk op tb nm ix vk vi vt sl n kid, h0, H, he, hvok => by
    obtain ⟨_, ⟨_, _, ht3⟩, hn, ⟨a, cap, rfl, _, _, hx⟩, hk⟩ := he
    have hreach : reachBytes < 2 ^ 47 := by decide
    rcases hvok with rfl | ⟨rfl, hi0, hi1⟩ | ⟨ho, hn1, hv0⟩ | ⟨ho, rfl, hv0, hv1, hdiv⟩
    · have _ := hn
      refine Kp.of (fi := Tryz.fi106) rfl rfl rfl ?_
      refine WpB.seq (WpB.region ?_)
      refine SpB.box H rfl rfl rfl rfl rfl rfl fun h g s1 b1 => ?_
      have hle := H.le
      have H := g.hp H
      have l1 : h0.sz < h.sz := by omega
      clear g s1
      refine SpB.alloc H rfl rfl rfl rfl rfl fun h2 g s2 b2 => ?_
      have l2 : h.sz < h2.sz := by omega
      have H := g.hp H
      have b1 := g.keep l1 b1
      have l1 := g.lt l1
      have lt2 : h0.sz < h.sz := by omega
      clear g s2
      repeat' first | refine qN ?_ | refine qM rfl ?_ | refine qA rfl ?_ | refine qS rfl ?_ | refine qL H b1 rfl ?_ | refine qL H b2 rfl ?_ | refine qT rfl ?_ | refine qF rfl ?_ | refine qB rfl (fun ht => ?_) fun ht => ?_ | refine qI i (by omega) rfl ?_ | refine qI io (by omega) rfl ?_ | refine qP rfl ?_ | refine wQ ?_ | refine wR ?_ | refine wD ?_ | refine wN rfl ?_ | refine wS ?_ | refine wT rfl ?_ | refine wF rfl ?_ | refine WpB.cond rfl (fun ht => ?_) fun ht => ?_
      refine SpB.storeO H b2 (by omega) (by omega) rfl rfl rfl rfl rfl rfl rfl rfl rfl fun h3 g3 s3 b3 f3 => ?_
      have H := g3.hpL (by omega) H
      repeat first | refine qN ?_ | refine qM rfl ?_ | refine qA rfl ?_ | refine qS rfl ?_ | refine qL H b1 rfl ?_ | refine qL H b2 rfl ?_ | refine qT rfl ?_ | refine qF rfl ?_ | refine qI i (by omega) rfl ?_ | refine qI io (by omega) rfl ?_ | refine qP rfl ?_ | refine wQ ?_ | refine wR ?_ | refine wD ?_ | refine wN rfl ?_ | refine wS ?_
      refine WpB.ret ⟨_, ret_cell (w := ⟨vk, vi, vt⟩) rfl H b3, ?_, Nat.le_refl _⟩
      simp [E.val]
    · have _ := hn
      refine Kp.of (fi := Tryz.fi106) rfl rfl rfl ?_
      refine WpB.seq (WpB.region ?_)
      refine SpB.box H rfl rfl rfl rfl rfl rfl fun h g s1 b1 => ?_
      have hle := H.le
      have H := g.hp H
      have l1 : h0.sz < h.sz := by omega
      clear g s1
      refine SpB.alloc H rfl rfl rfl rfl rfl fun h2 g s2 b2 => ?_
      have l2 : h.sz < h2.sz := by omega
      have H := g.hp H
      have b1 := g.keep l1 b1
      have l1 := g.lt l1
      have lt2 : h0.sz < h.sz := by omega
      clear g s2
      obtain ⟨j, hj⟩ := Int.eq_ofNat_of_zero_le hi0
      have hjn : j < rv.n := by omega
      subst hj
      obtain ⟨rvv, rn, rx⟩ := rv
      obtain ⟨_, ⟨ra, rcap, hrv1, _, _, hrx⟩, _⟩ := hrv
      simp only at hrv1 hrx hjn hi1
      subst hrv1
      obtain ⟨b, off, rfl, hc⟩ := hrx j hjn
      repeat' first | refine qN ?_ | refine qM rfl ?_ | refine qA rfl ?_ | refine qS rfl ?_ | refine qL H b1 rfl ?_ | refine qL H b2 rfl ?_ | refine qT rfl ?_ | refine qF rfl ?_ | refine qB rfl (fun ht => ?_) fun ht => ?_ | refine qI i (by omega) rfl ?_ | refine qI io (by omega) rfl ?_ | refine qP rfl ?_ | refine wQ ?_ | refine wR ?_ | refine wD ?_ | refine wN rfl ?_ | refine wS ?_ | refine wT rfl ?_ | refine wF rfl ?_ | refine WpB.cond rfl (fun ht => ?_) fun ht => ?_
      refine SpB.indexN hjn rfl rfl rfl rfl rfl rfl rfl rfl rfl ?_
      refine SpB.loadR H hc rfl rfl rfl rfl rfl rfl rfl ?_
      refine SpB.storeO H b2 (by omega) (by omega) rfl rfl rfl rfl rfl rfl rfl rfl rfl fun h3 g3 s3 b3 f3 => ?_
      have H := g3.hpL (by omega) H
      repeat first | refine qN ?_ | refine qM rfl ?_ | refine qA rfl ?_ | refine qS rfl ?_ | refine qL H b1 rfl ?_ | refine qL H b2 rfl ?_ | refine qT rfl ?_ | refine qF rfl ?_ | refine qI i (by omega) rfl ?_ | refine qI io (by omega) rfl ?_ | refine qP rfl ?_ | refine wQ ?_ | refine wR ?_ | refine wD ?_ | refine wN rfl ?_ | refine wS ?_
      refine WpB.ret ⟨_, ret_cell (w := rx j) rfl H b3, ?_, Nat.le_refl _⟩
      simp [E.val]
    · exact value_one rv hrv h0 H ho hn1 hv0 hx fun i hi h H hv => value_ok rv hrv (kid i) h H (hk i hi) hv
    · exact value_two rv hrv h0 H ho hv0 hv1 hdiv hx fun i hi h H hv => value_ok rv hrv (kid i) h H (hk i hi) hv

end Go.Proofs.YtkjkcoemloakhaaGreat
end

section
set_option linter.unusedVariables false
namespace Go.Proofs.YtkjkcoemloakhaaGreat
open Go Go.Vae
set_option maxRecDepth 100000

def anyI : Value → AH → Prop := fun v _ => ∃ m : Int, v = .int .i64 m

theorem bound_two {N lim : Nat} {rd : RO} (lv : Value) {op : Int} {tb nm : ByteArray} {ix vk vi : Int} {vt : ByteArray} {a : Option Addr} {cap : Nat} {kid : Nat → E} (h0 : AH) (H : Hp N lim rd h0) (ho : 4 ≤ op ∧ op ≤ 8)
    (hx : ∀ i, i < 2 → ∃ b off, a = some ⟨b, off, none⟩ ∧ rd b (off + i * 8) 8 = some (kid i).cells) (hrec : ∀ i, i < 2 → ∀ h, Hp N lim rd h → Kp TT 101 [.agg ⟨(kid i).cells⟩, lv] h anyI) :
    Kp TT 101 [.agg ⟨(E.mk op tb nm ix vk vi vt (.slice a 2 cap) 2 kid).cells⟩, lv] h0 anyI := by
  have h1 : op ≠ 1 := by omega
  have h2' : op ≠ 2 := by omega
  have h3' : op ≠ 3 := by omega
  have h9' : op ≠ 9 := by omega
  obtain ⟨b, off, rfl, hc0⟩ := hx 0 (by omega)
  obtain ⟨_, _, ha1, hc1⟩ := hx 1 (by omega)
  injection ha1 with ha1
  injection ha1 with ha1 ha2
  subst ha1 ha2
  refine Kp.of (fi := Tryz.fi101) rfl rfl rfl ?_
  refine WpB.seq (WpB.region ?_)
  refine SpB.box H rfl rfl rfl rfl rfl rfl fun h g s1 b1 => ?_
  have hle := H.le
  have H := g.hp H
  have l1 : h0.sz < h.sz := by omega
  clear g s1
  repeat first | refine qN ?_ | refine qM rfl ?_ | refine qA rfl ?_ | refine qS rfl ?_ | refine qL H b1 rfl ?_ | refine qT rfl ?_ | refine qF rfl ?_ | refine qI i (by omega) rfl ?_ | refine qI io (by omega) rfl ?_ | refine qP rfl ?_ | refine wQ ?_ | refine wR ?_ | refine wD ?_ | refine wN rfl ?_ | refine wS ?_
  refine WpB.cut1 [(2, .pointer (some ⟨N + h0.sz, 0, none⟩)), (1, lv), (5, .int .i64 1152921504606846976), (6, .int .i64 0)] (fun h' => h' = h) ?_ ?_
  · refine WpB.block ?_
    repeat first | refine qN ?_ | refine qM rfl ?_ | refine qA rfl ?_ | refine qS rfl ?_ | refine qL H b1 rfl ?_ | refine qT rfl ?_ | refine qF rfl ?_ | refine qI i (by omega) rfl ?_ | refine qI io (by omega) rfl ?_ | refine qP rfl ?_ | refine wQ ?_ | refine wR ?_ | refine wD ?_ | refine wN rfl ?_ | refine wS ?_
    refine WpB.cond rfl (fun ht => absurd (by simpa using ht) h1) fun _ => ?_
    repeat first | refine qN ?_ | refine qM rfl ?_ | refine qA rfl ?_ | refine qS rfl ?_ | refine qL H b1 rfl ?_ | refine qT rfl ?_ | refine qF rfl ?_ | refine qI i (by omega) rfl ?_ | refine qI io (by omega) rfl ?_ | refine qP rfl ?_ | refine wQ ?_ | refine wR ?_ | refine wD ?_ | refine wN rfl ?_ | refine wS ?_
    refine WpB.cond rfl (fun ht => absurd (by simpa using ht) h2') fun _ => ?_
    repeat first | refine qN ?_ | refine qM rfl ?_ | refine qA rfl ?_ | refine qS rfl ?_ | refine qL H b1 rfl ?_ | refine qT rfl ?_ | refine qF rfl ?_ | refine qI i (by omega) rfl ?_ | refine qI io (by omega) rfl ?_ | refine qP rfl ?_ | refine wQ ?_ | refine wR ?_ | refine wD ?_ | refine wN rfl ?_ | refine wS ?_
    refine WpB.cond rfl (fun ht => absurd (by simpa using ht) h9') fun _ => ?_
    repeat first | refine qN ?_ | refine qM rfl ?_ | refine qA rfl ?_ | refine qS rfl ?_ | refine qL H b1 rfl ?_ | refine qT rfl ?_ | refine qF rfl ?_ | refine qI i (by omega) rfl ?_ | refine qI io (by omega) rfl ?_ | refine qP rfl ?_ | refine wQ ?_ | refine wR ?_ | refine wD ?_ | refine wN rfl ?_ | refine wS ?_
    refine WpB.cond rfl (fun ht => absurd (by simpa using ht) h3') fun _ => ?_
    repeat first | refine qN ?_ | refine qM rfl ?_ | refine qA rfl ?_ | refine qS rfl ?_ | refine qL H b1 rfl ?_ | refine qT rfl ?_ | refine qF rfl ?_ | refine qI i (by omega) rfl ?_ | refine qI io (by omega) rfl ?_ | refine qP rfl ?_ | refine wQ ?_ | refine wR ?_ | refine wD ?_ | refine wN rfl ?_ | refine wS ?_
    exact ⟨(by repeat first | exact sub_nil | refine sub_cons rfl ?_), rfl, rfl⟩
  rintro h rfl
  repeat first | refine qN ?_ | refine qM rfl ?_ | refine qA rfl ?_ | refine qS rfl ?_ | refine qL H b1 rfl ?_ | refine qT rfl ?_ | refine qF rfl ?_ | refine qI i (by omega) rfl ?_ | refine qI io (by omega) rfl ?_ | refine qP rfl ?_ | refine wQ ?_ | refine wR ?_ | refine wD ?_ | refine wN rfl ?_ | refine wS ?_
  refine SpB.loadR H hc0 rfl rfl rfl rfl rfl rfl rfl ?_
  repeat first | refine qN ?_ | refine qM rfl ?_ | refine qA rfl ?_ | refine qS rfl ?_ | refine qL H b1 rfl ?_ | refine qT rfl ?_ | refine qF rfl ?_ | refine qI i (by omega) rfl ?_ | refine qI io (by omega) rfl ?_ | refine qP rfl ?_ | refine wQ ?_ | refine wR ?_ | refine wD ?_ | refine wN rfl ?_ | refine wS ?_
  refine SpB.callK Tryz.T1OK H (by omega) (hrec 0 (by omega) h H) rfl rfl rfl rfl rfl ?_
  rintro v h2 ⟨m1, rfl⟩ g
  have H := g.hp H
  have b1 := g.keep l1 b1
  have l1 := g.lt l1
  repeat first | refine qN ?_ | refine qM rfl ?_ | refine qA rfl ?_ | refine qS rfl ?_ | refine qL H b1 rfl ?_ | refine qT rfl ?_ | refine qF rfl ?_ | refine qI i (by omega) rfl ?_ | refine qI io (by omega) rfl ?_ | refine qP rfl ?_ | refine wQ ?_ | refine wR ?_ | refine wD ?_ | refine wN rfl ?_ | refine wS ?_
  refine SpB.loadR H hc1 rfl rfl rfl rfl rfl rfl rfl ?_
  repeat first | refine qN ?_ | refine qM rfl ?_ | refine qA rfl ?_ | refine qS rfl ?_ | refine qL H b1 rfl ?_ | refine qT rfl ?_ | refine qF rfl ?_ | refine qI i (by omega) rfl ?_ | refine qI io (by omega) rfl ?_ | refine qP rfl ?_ | refine wQ ?_ | refine wR ?_ | refine wD ?_ | refine wN rfl ?_ | refine wS ?_
  refine SpB.callK Tryz.T1OK H (by omega) (hrec 1 (by omega) h2 H) rfl rfl rfl rfl rfl ?_
  rintro v h3 ⟨m2, rfl⟩ g
  have H := g.hp H
  have b1 := g.keep l1 b1
  have l1 := g.lt l1
  repeat first | refine qN ?_ | refine qM rfl ?_ | refine qA rfl ?_ | refine qS rfl ?_ | refine qL H b1 rfl ?_ | refine qT rfl ?_ | refine qF rfl ?_ | refine qI i (by omega) rfl ?_ | refine qI io (by omega) rfl ?_ | refine qP rfl ?_ | refine wQ ?_ | refine wR ?_ | refine wD ?_ | refine wN rfl ?_ | refine wS ?_
  refine qB rfl (fun c1 => ?_) fun c1 => ?_
  · repeat' first | refine qN ?_ | refine qM rfl ?_ | refine qA rfl ?_ | refine qS rfl ?_ | refine qL H b1 rfl ?_ | refine qT rfl ?_ | refine qF rfl ?_ | refine qB rfl (fun ht => ?_) fun ht => ?_ | refine qI i (by omega) rfl ?_ | refine qI io (by omega) rfl ?_ | refine qP rfl ?_ | refine wQ ?_ | refine wR ?_ | refine wD ?_ | refine wN rfl ?_ | refine wS ?_ | refine wT rfl ?_ | refine wF rfl ?_ | refine WpB.cond rfl (fun ht => ?_) fun ht => ?_
    exact WpB.ret ⟨_, rfl, ⟨_, rfl⟩, Nat.le_refl _⟩
  repeat first | refine qN ?_ | refine qM rfl ?_ | refine qA rfl ?_ | refine qS rfl ?_ | refine qL H b1 rfl ?_ | refine qT rfl ?_ | refine qF rfl ?_ | refine qI i (by omega) rfl ?_ | refine qI io (by omega) rfl ?_ | refine qP rfl ?_ | refine wQ ?_ | refine wR ?_ | refine wD ?_ | refine wN rfl ?_ | refine wS ?_
  refine WpB.cond rfl (fun ht => ?_) fun ht => ?_
  · repeat' first | refine qN ?_ | refine qM rfl ?_ | refine qA rfl ?_ | refine qS rfl ?_ | refine qL H b1 rfl ?_ | refine qT rfl ?_ | refine qF rfl ?_ | refine qB rfl (fun ht => ?_) fun ht => ?_ | refine qI i (by omega) rfl ?_ | refine qI io (by omega) rfl ?_ | refine qP rfl ?_ | refine wQ ?_ | refine wR ?_ | refine wD ?_ | refine wN rfl ?_ | refine wS ?_ | refine wT rfl ?_ | refine wF rfl ?_ | refine WpB.cond rfl (fun ht => ?_) fun ht => ?_
    exact WpB.ret ⟨_, rfl, ⟨_, rfl⟩, Nat.le_refl _⟩
  repeat first | refine qN ?_ | refine qM rfl ?_ | refine qA rfl ?_ | refine qS rfl ?_ | refine qL H b1 rfl ?_ | refine qT rfl ?_ | refine qF rfl ?_ | refine qI i (by omega) rfl ?_ | refine qI io (by omega) rfl ?_ | refine qP rfl ?_ | refine wQ ?_ | refine wR ?_ | refine wD ?_ | refine wN rfl ?_ | refine wS ?_
  have ho : op = 4 ∨ op = 5 ∨ op = 6 ∨ op = 7 ∨ op = 8 := by omega
  rcases ho with rfl | rfl | rfl | rfl | rfl
  · refine WpB.block ?_
    repeat' first | refine qN ?_ | refine qM rfl ?_ | refine qA rfl ?_ | refine qS rfl ?_ | refine qL H b1 rfl ?_ | refine qT rfl ?_ | refine qF rfl ?_ | refine qB rfl (fun ht => ?_) fun ht => ?_ | refine qI i (by omega) rfl ?_ | refine qI io (by omega) rfl ?_ | refine qP rfl ?_ | refine wQ ?_ | refine wR ?_ | refine wD ?_ | refine wN rfl ?_ | refine wS ?_ | refine wT rfl ?_ | refine wF rfl ?_ | refine WpB.cond rfl (fun ht => ?_) fun ht => ?_
    exact WpB.ret ⟨_, rfl, ⟨_, rfl⟩, Nat.le_refl _⟩
  · refine WpB.block ?_
    repeat' first | refine qN ?_ | refine qM rfl ?_ | refine qA rfl ?_ | refine qS rfl ?_ | refine qL H b1 rfl ?_ | refine qT rfl ?_ | refine qF rfl ?_ | refine qB rfl (fun ht => ?_) fun ht => ?_ | refine qI i (by omega) rfl ?_ | refine qI io (by omega) rfl ?_ | refine qP rfl ?_ | refine wQ ?_ | refine wR ?_ | refine wD ?_ | refine wN rfl ?_ | refine wS ?_ | refine wT rfl ?_ | refine wF rfl ?_ | refine WpB.cond rfl (fun ht => ?_) fun ht => ?_
    exact WpB.ret ⟨_, rfl, ⟨_, rfl⟩, Nat.le_refl _⟩
  · refine WpB.block ?_
    repeat first | refine qN ?_ | refine qM rfl ?_ | refine qA rfl ?_ | refine qS rfl ?_ | refine qL H b1 rfl ?_ | refine qL H b2 rfl ?_ | refine qL H b3 rfl ?_ | refine qL H b4 rfl ?_ | refine qT rfl ?_ | refine qF rfl ?_ | refine qI i (by omega) rfl ?_ | refine qI io (by omega) rfl ?_ | refine qP rfl ?_ | refine wQ ?_ | refine wR ?_ | refine wD ?_ | refine wN rfl ?_ | refine wS ?_ | refine wT rfl ?_ | refine wF rfl ?_
    refine qB rfl (fun c2 => ?_) fun c2 => ?_
    · have c2 : m2 ≠ 0 := by simpa using c2
      repeat first | refine qN ?_ | refine qM rfl ?_ | refine qA rfl ?_ | refine qS rfl ?_ | refine qL H b1 rfl ?_ | refine qT rfl ?_ | refine qF rfl ?_ | refine qI i (by omega) rfl ?_ | refine qI io (by omega) rfl ?_ | refine qP rfl ?_ | refine wQ ?_ | refine wR ?_ | refine wD ?_ | refine wN rfl ?_ | refine wS ?_
      refine SpB.quo c2 rfl rfl rfl rfl rfl rfl ?_
      repeat first | refine qN ?_ | refine qM rfl ?_ | refine qA rfl ?_ | refine qS rfl ?_ | refine qL H b1 rfl ?_ | refine qT rfl ?_ | refine qF rfl ?_ | refine qI i (by omega) rfl ?_ | refine qI io (by omega) rfl ?_ | refine qP rfl ?_ | refine wQ ?_ | refine wR ?_ | refine wD ?_ | refine wN rfl ?_ | refine wS ?_
      refine WpB.cond rfl (fun ht => ?_) fun ht => ?_
      · repeat' first | refine qN ?_ | refine qM rfl ?_ | refine qA rfl ?_ | refine qS rfl ?_ | refine qL H b1 rfl ?_ | refine qT rfl ?_ | refine qF rfl ?_ | refine qB rfl (fun ht => ?_) fun ht => ?_ | refine qI i (by omega) rfl ?_ | refine qI io (by omega) rfl ?_ | refine qP rfl ?_ | refine wQ ?_ | refine wR ?_ | refine wD ?_ | refine wN rfl ?_ | refine wS ?_ | refine wT rfl ?_ | refine wF rfl ?_ | refine WpB.cond rfl (fun ht => ?_) fun ht => ?_
        exact WpB.ret ⟨_, rfl, ⟨_, rfl⟩, Nat.le_refl _⟩
      · repeat' first | refine qN ?_ | refine qM rfl ?_ | refine qA rfl ?_ | refine qS rfl ?_ | refine qL H b1 rfl ?_ | refine qT rfl ?_ | refine qF rfl ?_ | refine qB rfl (fun ht => ?_) fun ht => ?_ | refine qI i (by omega) rfl ?_ | refine qI io (by omega) rfl ?_ | refine qP rfl ?_ | refine wQ ?_ | refine wR ?_ | refine wD ?_ | refine wN rfl ?_ | refine wS ?_ | refine wT rfl ?_ | refine wF rfl ?_ | refine WpB.cond rfl (fun ht => ?_) fun ht => ?_
        exact WpB.ret ⟨_, rfl, ⟨_, rfl⟩, Nat.le_refl _⟩
    · repeat' first | refine qN ?_ | refine qM rfl ?_ | refine qA rfl ?_ | refine qS rfl ?_ | refine qL H b1 rfl ?_ | refine qT rfl ?_ | refine qF rfl ?_ | refine qB rfl (fun ht => ?_) fun ht => ?_ | refine qI i (by omega) rfl ?_ | refine qI io (by omega) rfl ?_ | refine qP rfl ?_ | refine wQ ?_ | refine wR ?_ | refine wD ?_ | refine wN rfl ?_ | refine wS ?_ | refine wT rfl ?_ | refine wF rfl ?_ | refine WpB.cond rfl (fun ht => ?_) fun ht => ?_
      exact WpB.ret ⟨_, rfl, ⟨_, rfl⟩, Nat.le_refl _⟩
  · refine WpB.block ?_
    repeat' first | refine qN ?_ | refine qM rfl ?_ | refine qA rfl ?_ | refine qS rfl ?_ | refine qL H b1 rfl ?_ | refine qT rfl ?_ | refine qF rfl ?_ | refine qB rfl (fun ht => ?_) fun ht => ?_ | refine qI i (by omega) rfl ?_ | refine qI io (by omega) rfl ?_ | refine qP rfl ?_ | refine wQ ?_ | refine wR ?_ | refine wD ?_ | refine wN rfl ?_ | refine wS ?_ | refine wT rfl ?_ | refine wF rfl ?_ | refine WpB.cond rfl (fun ht => ?_) fun ht => ?_
    exact WpB.ret ⟨_, rfl, ⟨_, rfl⟩, Nat.le_refl _⟩
  · refine WpB.block ?_
    repeat' first | refine qN ?_ | refine qM rfl ?_ | refine qA rfl ?_ | refine qS rfl ?_ | refine qL H b1 rfl ?_ | refine qT rfl ?_ | refine qF rfl ?_ | refine qB rfl (fun ht => ?_) fun ht => ?_ | refine qI i (by omega) rfl ?_ | refine qI io (by omega) rfl ?_ | refine qP rfl ?_ | refine wQ ?_ | refine wR ?_ | refine wD ?_ | refine wN rfl ?_ | refine wS ?_ | refine wT rfl ?_ | refine wF rfl ?_ | refine WpB.cond rfl (fun ht => ?_) fun ht => ?_
    exact WpB.ret ⟨_, rfl, ⟨_, rfl⟩, Nat.le_refl _⟩

theorem bound14_ok {N lim : Nat} {rd : RO} (lv : Value) {lt : Nat → Int} {nv : Nat} : ∀ (e : E) (h : AH), Hp N lim rd h → e.At rd → e.Num lt nv → Kp TT 101 [.agg ⟨e.cells⟩, lv] h anyI
  | .nil, h, _, he, _ => he.elim
  | .mk op tb nm ix vk vi vt sl n kid, h0, H, he, hnum => by
    obtain ⟨_, ⟨_, _, ht3⟩, hn, ⟨a, cap, rfl, _, _, hx⟩, hk⟩ := he
    have key : op = 1 ∨ op = 2 ∨ op = 9 ∨ (op = 3 ∧ n = 1 ∧ (kid 0).Num lt nv) ∨ ((4 ≤ op ∧ op ≤ 8) ∧ n = 2 ∧ (kid 0).Num lt nv ∧ (kid 1).Num lt nv) := by
      rcases hnum with h | h <;> simp only [E.Ty] at h <;>
      · rcases h with h | h | h | h | h | h | h | h | h | h
        · exact .inl h.1
        · exact .inr (.inl h.1)
        · exact .inr (.inr (.inr (.inl ⟨h.1, h.2.1, h.2.2.2⟩)))
        · exact .inr (.inr (.inl h.1))
        · exact .inr (.inr (.inr (.inr ⟨h.1, h.2.1, h.2.2.2.1, h.2.2.2.2.1⟩)))
        · have := h.2.2.1; omega
        · have := h.2.2.1; omega
        · have := h.2.2.1; omega
        · have := h.2.2.1; omega
        · have := h.2.2.1; omega
    rcases key with rfl | rfl | rfl | ⟨rfl, rfl, hk0⟩ | ⟨ho, rfl, hk0, hk1⟩
    rotate_right
    · exact bound_two lv h0 H ho hx fun i hi h H => bound14_ok lv (kid i) h H (hk i hi) (by
        have : i = 0 ∨ i = 1 := by omega
        rcases this with rfl | rfl
        · exact hk0
        · exact hk1)
    all_goals
      refine Kp.of (fi := Tryz.fi101) rfl rfl rfl ?_
      refine WpB.seq (WpB.region ?_)
      refine SpB.box H rfl rfl rfl rfl rfl rfl fun h g s1 b1 => ?_
      have hle := H.le
      have H := g.hp H
      have l1 : h0.sz < h.sz := by omega
      clear g s1
      repeat first | refine qN ?_ | refine qM rfl ?_ | refine qA rfl ?_ | refine qS rfl ?_ | refine qL H b1 rfl ?_ | refine qT rfl ?_ | refine qF rfl ?_ | refine qI i (by omega) rfl ?_ | refine qI io (by omega) rfl ?_ | refine qP rfl ?_ | refine wQ ?_ | refine wR ?_ | refine wD ?_ | refine wN rfl ?_ | refine wS ?_
      refine WpB.block ?_
      repeat' first | refine qN ?_ | refine qM rfl ?_ | refine qA rfl ?_ | refine qS rfl ?_ | refine qL H b1 rfl ?_ | refine qT rfl ?_ | refine qF rfl ?_ | refine qB rfl (fun ht => ?_) fun ht => ?_ | refine qI i (by omega) rfl ?_ | refine qI io (by omega) rfl ?_ | refine qP rfl ?_ | refine wQ ?_ | refine wR ?_ | refine wD ?_ | refine wN rfl ?_ | refine wS ?_ | refine wT rfl ?_ | refine wF rfl ?_ | refine WpB.cond rfl (fun ht => ?_) fun ht => ?_
    · exact WpB.ret ⟨_, rfl, ⟨_, rfl⟩, Nat.le_refl _⟩
    · exact WpB.ret ⟨_, rfl, ⟨_, rfl⟩, Nat.le_refl _⟩
    · exact WpB.ret ⟨_, rfl, ⟨_, rfl⟩, Nat.le_refl _⟩
    · obtain ⟨b, off, rfl, hc0⟩ := hx 0 (by omega)
      repeat first | refine qN ?_ | refine qM rfl ?_ | refine qA rfl ?_ | refine qS rfl ?_ | refine qL H b1 rfl ?_ | refine qT rfl ?_ | refine qF rfl ?_ | refine qI i (by omega) rfl ?_ | refine qI io (by omega) rfl ?_ | refine qP rfl ?_ | refine wQ ?_ | refine wR ?_ | refine wD ?_ | refine wN rfl ?_ | refine wS ?_
      refine SpB.loadR H hc0 rfl rfl rfl rfl rfl rfl rfl ?_
      repeat first | refine qN ?_ | refine qM rfl ?_ | refine qA rfl ?_ | refine qS rfl ?_ | refine qL H b1 rfl ?_ | refine qT rfl ?_ | refine qF rfl ?_ | refine qI i (by omega) rfl ?_ | refine qI io (by omega) rfl ?_ | refine qP rfl ?_ | refine wQ ?_ | refine wR ?_ | refine wD ?_ | refine wN rfl ?_ | refine wS ?_
      refine SpB.callK Tryz.T1OK H (by omega) (bound14_ok lv (kid 0) h H (hk 0 (by omega)) hk0) rfl rfl rfl rfl rfl ?_
      rintro v h2 ⟨m1, rfl⟩ g
      repeat first | refine qN ?_ | refine qM rfl ?_ | refine qA rfl ?_ | refine qS rfl ?_ | refine qL H b1 rfl ?_ | refine qT rfl ?_ | refine qF rfl ?_ | refine qI i (by omega) rfl ?_ | refine qI io (by omega) rfl ?_ | refine qP rfl ?_ | refine wQ ?_ | refine wR ?_ | refine wD ?_ | refine wN rfl ?_ | refine wS ?_
      exact WpB.ret ⟨_, rfl, ⟨_, rfl⟩, Nat.le_refl _⟩

theorem literal_ok {N lim : Nat} {rd : RO} (w : Vl) (h0 : AH) (H : Hp N lim rd h0) (hw : txt w.t ≤ reachBytes) : Kp TT 81 [.agg ⟨w.cells⟩] h0 fun v _ => ∃ t, v = .int .i64 t ∧ (t = -1 ∨ (w.k = t ∧ (t = 0 ∨ t = 1 ∨ t = 2))) := by
  obtain ⟨k, n, s⟩ := w
  simp only [txt] at hw
  have hreach : reachBytes < 2 ^ 47 := by decide
  refine Kp.of (fi := Tryz.fi81) rfl rfl rfl ?_
  refine WpB.seq (WpB.region ?_)
  refine SpB.box H rfl rfl rfl rfl rfl rfl fun h g s1 b1 => ?_
  have hle := H.le
  have H := g.hp H
  have l1 : h0.sz < h.sz := by omega
  clear g s1
  have hm : (∃ t, Value.int .i64 (-1) = .int .i64 t ∧ (t = -1 ∨ (k = t ∧ (t = 0 ∨ t = 1 ∨ t = 2)))) ∧ h0.sz ≤ h0.sz := ⟨⟨-1, rfl, .inl rfl⟩, Nat.le_refl _⟩
  have hk : ∀ t, k = t → (t = 0 ∨ t = 1 ∨ t = 2) → (∃ t', Value.int .i64 t = .int .i64 t' ∧ (t' = -1 ∨ (k = t' ∧ (t' = 0 ∨ t' = 1 ∨ t' = 2)))) ∧ h0.sz ≤ h0.sz := fun t h1 h2 => ⟨⟨t, rfl, .inr ⟨h1, h2⟩⟩, Nat.le_refl _⟩
  refine SpB.assign rfl rfl rfl rfl rfl (SpB.nil ?_)
  refine WpB.cut [(1, .pointer (some ⟨N + h0.sz, 0, none⟩))] (fun h' => h' = h) ?_ ?_
  · repeat first | refine qN ?_ | refine qM rfl ?_ | refine qA rfl ?_ | refine qS rfl ?_ | refine qL H b1 rfl ?_ | refine qT rfl ?_ | refine qF rfl ?_ | refine qI i (by omega) rfl ?_ | refine qI io (by omega) rfl ?_ | refine qP rfl ?_ | refine wQ ?_ | refine wR ?_ | refine wD ?_ | refine wN rfl ?_ | refine wS ?_
    refine qB rfl (fun c1 => ?_) fun c1 => ?_
    · have c1 : k = 0 := by simpa using c1
      repeat' first | refine qN ?_ | refine qM rfl ?_ | refine qA rfl ?_ | refine qS rfl ?_ | refine qL H b1 rfl ?_ | refine qT rfl ?_ | refine qF rfl ?_ | refine qB rfl (fun ht => ?_) fun ht => ?_ | refine qI i (by omega) rfl ?_ | refine qI io (by omega) rfl ?_ | refine qP rfl ?_ | refine wQ ?_ | refine wR ?_ | refine wD ?_ | refine wN rfl ?_ | refine wS ?_ | refine wT rfl ?_ | refine wF rfl ?_ | refine WpB.cond rfl (fun ht => ?_) fun ht => ?_
      · exact WpB.ret ⟨_, rfl, hk 0 c1 (.inl rfl)⟩
      · exact ⟨(by repeat first | exact sub_nil | refine sub_cons rfl ?_), rfl, rfl⟩
      · exact ⟨(by repeat first | exact sub_nil | refine sub_cons rfl ?_), rfl, rfl⟩
    · repeat' first | refine qN ?_ | refine qM rfl ?_ | refine qA rfl ?_ | refine qS rfl ?_ | refine qL H b1 rfl ?_ | refine qT rfl ?_ | refine qF rfl ?_ | refine qB rfl (fun ht => ?_) fun ht => ?_ | refine qI i (by omega) rfl ?_ | refine qI io (by omega) rfl ?_ | refine qP rfl ?_ | refine wQ ?_ | refine wR ?_ | refine wD ?_ | refine wN rfl ?_ | refine wS ?_ | refine wT rfl ?_ | refine wF rfl ?_ | refine WpB.cond rfl (fun ht => ?_) fun ht => ?_
      exact ⟨(by repeat first | exact sub_nil | refine sub_cons rfl ?_), rfl, rfl⟩
  rintro h rfl
  refine WpB.cut [(1, .pointer (some ⟨N + h0.sz, 0, none⟩))] (fun h' => h' = h) ?_ ?_
  · repeat first | refine qN ?_ | refine qM rfl ?_ | refine qA rfl ?_ | refine qS rfl ?_ | refine qL H b1 rfl ?_ | refine qT rfl ?_ | refine qF rfl ?_ | refine qI i (by omega) rfl ?_ | refine qI io (by omega) rfl ?_ | refine qP rfl ?_ | refine wQ ?_ | refine wR ?_ | refine wD ?_ | refine wN rfl ?_ | refine wS ?_
    refine qB rfl (fun c1 => ?_) fun c1 => ?_
    · have c1 : k = 1 := by simpa using c1
      repeat' first | refine qN ?_ | refine qM rfl ?_ | refine qA rfl ?_ | refine qS rfl ?_ | refine qL H b1 rfl ?_ | refine qT rfl ?_ | refine qF rfl ?_ | refine qB rfl (fun ht => ?_) fun ht => ?_ | refine qI i (by omega) rfl ?_ | refine qI io (by omega) rfl ?_ | refine qP rfl ?_ | refine wQ ?_ | refine wR ?_ | refine wD ?_ | refine wN rfl ?_ | refine wS ?_ | refine wT rfl ?_ | refine wF rfl ?_ | refine WpB.cond rfl (fun ht => ?_) fun ht => ?_
      all_goals first | exact WpB.ret ⟨_, rfl, hk 1 c1 (.inr (.inl rfl))⟩ | exact ⟨(by repeat first | exact sub_nil | refine sub_cons rfl ?_), rfl, rfl⟩
    · repeat' first | refine qN ?_ | refine qM rfl ?_ | refine qA rfl ?_ | refine qS rfl ?_ | refine qL H b1 rfl ?_ | refine qT rfl ?_ | refine qF rfl ?_ | refine qB rfl (fun ht => ?_) fun ht => ?_ | refine qI i (by omega) rfl ?_ | refine qI io (by omega) rfl ?_ | refine qP rfl ?_ | refine wQ ?_ | refine wR ?_ | refine wD ?_ | refine wN rfl ?_ | refine wS ?_ | refine wT rfl ?_ | refine wF rfl ?_ | refine WpB.cond rfl (fun ht => ?_) fun ht => ?_
      exact ⟨(by repeat first | exact sub_nil | refine sub_cons rfl ?_), rfl, rfl⟩
  rintro h rfl
  repeat first | refine qN ?_ | refine qM rfl ?_ | refine qA rfl ?_ | refine qS rfl ?_ | refine qL H b1 rfl ?_ | refine qT rfl ?_ | refine qF rfl ?_ | refine qI i (by omega) rfl ?_ | refine qI io (by omega) rfl ?_ | refine qP rfl ?_ | refine wQ ?_ | refine wR ?_ | refine wD ?_ | refine wN rfl ?_ | refine wS ?_
  refine qB rfl (fun c1 => ?_) fun c1 => ?_
  · have c1 : k = 2 := by simpa using c1
    repeat first | refine qN ?_ | refine qM rfl ?_ | refine qA rfl ?_ | refine qS rfl ?_ | refine qL H b1 rfl ?_ | refine qT rfl ?_ | refine qF rfl ?_ | refine qI i (by omega) rfl ?_ | refine qI io (by omega) rfl ?_ | refine qP rfl ?_ | refine wQ ?_ | refine wR ?_ | refine wD ?_ | refine wN rfl ?_ | refine wS ?_
    refine qB rfl (fun c2 => ?_) fun c2 => ?_
    · repeat first | refine qN ?_ | refine qM rfl ?_ | refine qA rfl ?_ | refine qS rfl ?_ | refine qL H b1 rfl ?_ | refine qT rfl ?_ | refine qF rfl ?_ | refine qI i (by omega) rfl ?_ | refine qI io (by omega) rfl ?_ | refine qP rfl ?_ | refine wQ ?_ | refine wR ?_ | refine wD ?_ | refine wN rfl ?_ | refine wS ?_
      refine WpB.cond rfl (fun ht => ?_) fun ht => ?_
      · repeat first | refine qN ?_ | refine qM rfl ?_ | refine qA rfl ?_ | refine qS rfl ?_ | refine qL H b1 rfl ?_ | refine qT rfl ?_ | refine qF rfl ?_ | refine qI i (by omega) rfl ?_ | refine qI io (by omega) rfl ?_ | refine qP rfl ?_ | refine wQ ?_ | refine wR ?_ | refine wD ?_ | refine wN rfl ?_ | refine wS ?_
        refine WpB.cut1 [(1, .pointer (some ⟨N + h0.sz, 0, none⟩))] (fun h' => h' = h) ?_ ?_
        · refine WpB.block ?_
          refine WpB.loopC s.data.toList.length (fun i => [(3, .int .i64 (i : Int)), (1, .pointer (some ⟨N + h0.sz, 0, none⟩))]) (fun i h' => h' = h) rfl (by repeat first | exact sub_nil | refine sub_cons rfl ?_) ?_
          rintro i h' hi rfl
          repeat first | refine qN ?_ | refine qM rfl ?_ | refine qA rfl ?_ | refine qS rfl ?_ | refine qL H b1 rfl ?_ | refine qT rfl ?_ | refine qF rfl ?_ | refine qI i (by omega) rfl ?_ | refine qI io (by omega) rfl ?_ | refine qP rfl ?_ | refine wQ ?_ | refine wR ?_ | refine wD ?_ | refine wN rfl ?_ | refine wS ?_
          refine WpB.cond rfl (fun ht => ?_) fun ht => ?_
          · have hlt : i < s.data.toList.length := by simpa using ht
            refine WpB.skip ?_
            refine WpB.seq (WpB.block ?_)
            repeat first | refine qN ?_ | refine qM rfl ?_ | refine qA rfl ?_ | refine qS rfl ?_ | refine qL H b1 rfl ?_ | refine qT rfl ?_ | refine qF rfl ?_ | refine qI i (by omega) rfl ?_ | refine qI io (by omega) rfl ?_ | refine qP rfl ?_ | refine wQ ?_ | refine wR ?_ | refine wD ?_ | refine wN rfl ?_ | refine wS ?_
            refine SpB.indexStr hlt rfl rfl rfl rfl rfl rfl rfl rfl ?_
            refine qB rfl (fun c3 => ?_) fun c3 => ?_
            · repeat' first | refine qN ?_ | refine qM rfl ?_ | refine qA rfl ?_ | refine qS rfl ?_ | refine qL H b1 rfl ?_ | refine qT rfl ?_ | refine qF rfl ?_ | refine qB rfl (fun ht => ?_) fun ht => ?_ | refine qI i (by omega) rfl ?_ | refine qI io (by omega) rfl ?_ | refine qP rfl ?_ | refine wQ ?_ | refine wR ?_ | refine wD ?_ | refine wN rfl ?_ | refine wS ?_ | refine wT rfl ?_ | refine wF rfl ?_ | refine WpB.cond rfl (fun ht => ?_) fun ht => ?_
              exact WpB.ret ⟨_, rfl, hm⟩
            · repeat first | refine qN ?_ | refine qM rfl ?_ | refine qA rfl ?_ | refine qS rfl ?_ | refine qL H b1 rfl ?_ | refine qT rfl ?_ | refine qF rfl ?_ | refine qI i (by omega) rfl ?_ | refine qI io (by omega) rfl ?_ | refine qP rfl ?_ | refine wQ ?_ | refine wR ?_ | refine wD ?_ | refine wN rfl ?_ | refine wS ?_
              refine SpB.indexStr hlt rfl rfl rfl rfl rfl rfl rfl rfl ?_
              repeat first | refine qN ?_ | refine qM rfl ?_ | refine qA rfl ?_ | refine qS rfl ?_ | refine qL H b1 rfl ?_ | refine qT rfl ?_ | refine qF rfl ?_ | refine qI i (by omega) rfl ?_ | refine qI io (by omega) rfl ?_ | refine qP rfl ?_ | refine wQ ?_ | refine wR ?_ | refine wD ?_ | refine wN rfl ?_ | refine wS ?_
              refine WpB.cond rfl (fun ht => ?_) fun ht => ?_
              · repeat first | refine qN ?_ | refine qM rfl ?_ | refine qA rfl ?_ | refine qS rfl ?_ | refine qL H b1 rfl ?_ | refine qT rfl ?_ | refine qF rfl ?_ | refine qI i (by omega) rfl ?_ | refine qI io (by omega) rfl ?_ | refine qP rfl ?_ | refine wQ ?_ | refine wR ?_ | refine wD ?_ | refine wN rfl ?_ | refine wS ?_
                exact WpB.ret ⟨_, rfl, hm⟩
              · repeat first | refine qN ?_ | refine qM rfl ?_ | refine qA rfl ?_ | refine qS rfl ?_ | refine qL H b1 rfl ?_ | refine qT rfl ?_ | refine qF rfl ?_ | refine qI i (by omega) rfl ?_ | refine qI io (by omega) rfl ?_ | refine qP rfl ?_ | refine wQ ?_ | refine wR ?_ | refine wD ?_ | refine wN rfl ?_ | refine wS ?_
                exact ⟨hlt, (by repeat first | exact sub_nil | refine sub_cons rfl ?_), rfl, rfl⟩
          · refine WpB.exit ?_
            exact ⟨(by repeat first | exact sub_nil | refine sub_cons rfl ?_), rfl, rfl⟩
        rintro h rfl
        repeat first | refine qN ?_ | refine qM rfl ?_ | refine qA rfl ?_ | refine qS rfl ?_ | refine qL H b1 rfl ?_ | refine qT rfl ?_ | refine qF rfl ?_ | refine qI i (by omega) rfl ?_ | refine qI io (by omega) rfl ?_ | refine qP rfl ?_ | refine wQ ?_ | refine wR ?_ | refine wD ?_ | refine wN rfl ?_ | refine wS ?_
        exact WpB.ret ⟨_, rfl, hk 2 c1 (.inr (.inr rfl))⟩
      · repeat first | refine qN ?_ | refine qM rfl ?_ | refine qA rfl ?_ | refine qS rfl ?_ | refine qL H b1 rfl ?_ | refine qT rfl ?_ | refine qF rfl ?_ | refine qI i (by omega) rfl ?_ | refine qI io (by omega) rfl ?_ | refine qP rfl ?_ | refine wQ ?_ | refine wR ?_ | refine wD ?_ | refine wN rfl ?_ | refine wS ?_
        exact WpB.ret ⟨_, rfl, hm⟩
    · repeat' first | refine qN ?_ | refine qM rfl ?_ | refine qA rfl ?_ | refine qS rfl ?_ | refine qL H b1 rfl ?_ | refine qT rfl ?_ | refine qF rfl ?_ | refine qB rfl (fun ht => ?_) fun ht => ?_ | refine qI i (by omega) rfl ?_ | refine qI io (by omega) rfl ?_ | refine qP rfl ?_ | refine wQ ?_ | refine wR ?_ | refine wD ?_ | refine wN rfl ?_ | refine wS ?_ | refine wT rfl ?_ | refine wF rfl ?_ | refine WpB.cond rfl (fun ht => ?_) fun ht => ?_
      exact WpB.ret ⟨_, rfl, hm⟩
  · repeat' first | refine qN ?_ | refine qM rfl ?_ | refine qA rfl ?_ | refine qS rfl ?_ | refine qL H b1 rfl ?_ | refine qT rfl ?_ | refine qF rfl ?_ | refine qB rfl (fun ht => ?_) fun ht => ?_ | refine qI i (by omega) rfl ?_ | refine qI io (by omega) rfl ?_ | refine qP rfl ?_ | refine wQ ?_ | refine wR ?_ | refine wD ?_ | refine wN rfl ?_ | refine wS ?_ | refine wT rfl ?_ | refine wF rfl ?_ | refine WpB.cond rfl (fun ht => ?_) fun ht => ?_
    exact WpB.ret ⟨_, rfl, hm⟩

end Go.Proofs.YtkjkcoemloakhaaGreat
end

section
set_option linter.unusedVariables false
namespace Go.Proofs.YtkjkcoemloakhaaGreat
open Go Go.Vae
set_option maxRecDepth 100000

/-- What Type answers: -1, or a type that the expression has. -/
def TyR (l : Sl Vr) (e : E) : Value → AH → Prop := fun v _ => ∃ t, v = .int .i64 t ∧ (t = -1 ∨ e.Ty l.lt l.n t)

def IsR (l : Sl Vr) (e : E) (t0 : Int) : Value → AH → Prop := fun v _ => ∃ b, v = .bool b ∧ (b = true → e.Ty l.lt l.n 0 ∨ e.Ty l.lt l.n t0)

theorem is_of {N lim : Nat} {rd : RO} (l : Sl Vr) (e : E) (he : e.At rd) (hT : ∀ h, Hp N lim rd h → Kp TT 100 [.agg ⟨e.cells⟩, l.v] h (TyR l e)) (t0 : Int) (ht0 : 1 ≤ t0) (h0 : AH) (H : Hp N lim rd h0) : Kp TT 79 [.agg ⟨e.cells⟩, l.v, .int .i64 t0] h0 (IsR l e t0) := by
  obtain ⟨o, x1, x2, x3, x4, x5, x6, x7, hc⟩ := E.cells8 he
  rw [hc] at hT ⊢
  refine Kp.of (fi := Tryz.fi79) rfl rfl rfl ?_
  refine WpB.seq (WpB.region ?_)
  refine SpB.box H rfl rfl rfl rfl rfl rfl fun h g s1 b1 => ?_
  have hle := H.le
  have H := g.hp H
  have l1 : h0.sz < h.sz := by omega
  clear g s1
  repeat first | refine qN ?_ | refine qM rfl ?_ | refine qA rfl ?_ | refine qS rfl ?_ | refine qL H b1 rfl ?_ | refine qT rfl ?_ | refine qF rfl ?_ | refine qI i (by omega) rfl ?_ | refine qI io (by omega) rfl ?_ | refine qP rfl ?_ | refine wQ ?_ | refine wR ?_ | refine wD ?_ | refine wN rfl ?_ | refine wS ?_
  refine SpB.callK Tryz.T1OK H (by omega) (hT h H) rfl rfl rfl rfl rfl ?_
  rintro v h ⟨t, rfl, ht⟩ g
  repeat first | refine qN ?_ | refine qM rfl ?_ | refine qA rfl ?_ | refine qS rfl ?_ | refine qL H b1 rfl ?_ | refine qT rfl ?_ | refine qF rfl ?_ | refine qI i (by omega) rfl ?_ | refine qI io (by omega) rfl ?_ | refine qP rfl ?_ | refine wQ ?_ | refine wR ?_ | refine wD ?_ | refine wN rfl ?_ | refine wS ?_
  refine qB rfl (fun c1 => ?_) fun c1 => ?_
  · have c1 : t = 0 := by simpa using c1
    subst c1
    repeat' first | refine qN ?_ | refine qM rfl ?_ | refine qA rfl ?_ | refine qS rfl ?_ | refine qL H b1 rfl ?_ | refine qT rfl ?_ | refine qF rfl ?_ | refine qB rfl (fun ht => ?_) fun ht => ?_ | refine qI i (by omega) rfl ?_ | refine qI io (by omega) rfl ?_ | refine qP rfl ?_ | refine wQ ?_ | refine wR ?_ | refine wD ?_ | refine wN rfl ?_ | refine wS ?_ | refine wT rfl ?_ | refine wF rfl ?_ | refine WpB.cond rfl (fun ht => ?_) fun ht => ?_
    refine WpB.ret ⟨_, rfl, ⟨_, rfl, fun _ => .inl (ht.resolve_left (by omega))⟩, Nat.le_refl _⟩
  · have c1 : t ≠ 0 := by simpa using c1
    repeat first | refine qN ?_ | refine qM rfl ?_ | refine qA rfl ?_ | refine qS rfl ?_ | refine qL H b1 rfl ?_ | refine qT rfl ?_ | refine qF rfl ?_ | refine qI i (by omega) rfl ?_ | refine qI io (by omega) rfl ?_ | refine qP rfl ?_ | refine wQ ?_ | refine wR ?_ | refine wD ?_ | refine wN rfl ?_ | refine wS ?_
    refine WpB.ret ⟨_, rfl, ⟨_, rfl, fun h => ?_⟩, Nat.le_refl _⟩
    have h : t = t0 := by simpa using h
    subst h
    exact .inr (ht.resolve_left (by omega))

theorem factors_ok {N lim : Nat} {rd : RO} (l : Sl Vr) {op : Int} {tb nm : ByteArray} {ix vk vi : Int} {vt : ByteArray} {a : Option Addr} {cap : Nat} {kid : Nat → E} (h0 : AH) (H : Hp N lim rd h0) (ho : 4 ≤ op ∧ op ≤ 8)
    (hx : ∀ i, i < 2 → ∃ b off, a = some ⟨b, off, none⟩ ∧ rd b (off + i * 8) 8 = some (kid i).cells) (hk : ∀ i, i < 2 → (kid i).At rd) (hn1 : (kid 1).Num l.lt l.n) :
    Kp TT 137 [.agg ⟨(E.mk op tb nm ix vk vi vt (.slice a 2 cap) 2 kid).cells⟩, l.v] h0 fun v _ => ∃ b, v = .bool b ∧ (b = true → (E.mk op tb nm ix vk vi vt (.slice a 2 cap) 2 kid).factors) := by
  have hk0 := hk 0 (by omega)
  have hk1 := hk 1 (by omega)
  have hcol0 := fun h (H : Hp N lim rd h) => columns_ok (kid 0) h H hk0
  have hcol1 := fun h (H : Hp N lim rd h) => columns_ok (kid 1) h H hk1
  have hbnd1 := fun h (H : Hp N lim rd h) => bound14_ok l.v (kid 1) h H hk1 hn1
  have hval1 := fun h (H : Hp N lim rd h) (hc : (kid 1).cols = false) => value_ok (⟨.slice none 0 0, 0, fun _ => .zero⟩ : Sl Vl) ⟨Nat.zero_le _, ⟨none, 0, rfl, Nat.le_refl _, .inl (by decide), fun i hi => absurd hi (Nat.not_lt_zero _)⟩, fun _ _ => trivial⟩ (kid 1) h H hk1 (E.vok_of (.inl hn1) hc)
  obtain ⟨b, off, rfl, hc0⟩ := hx 0 (by omega)
  obtain ⟨_, _, ha1, hc1⟩ := hx 1 (by omega)
  injection ha1 with ha1
  injection ha1 with ha1 ha2
  subst ha1 ha2
  have hbl : b < N + lim := (H.ext _ _ _ _ hc0).1
  obtain ⟨o0, y1, y2, y3, y4, y5, y6, y7, hcc0⟩ := E.cells8 hk0
  obtain ⟨o1, z1, z2, z3, z4, z5, z6, z7, hcc1⟩ := E.cells8 hk1
  rw [hcc0] at hc0 hcol0
  rw [hcc1] at hc1 hcol1 hbnd1 hval1
  refine Kp.of (fi := Tryz.fi137) rfl rfl rfl ?_
  refine WpB.seq (WpB.region ?_)
  refine SpB.box H rfl rfl rfl rfl rfl rfl fun h g s1 b1 => ?_
  have hle := H.le
  have H := g.hp H
  have l1 : h0.sz < h.sz := by omega
  clear g s1
  repeat first | refine qN ?_ | refine qM rfl ?_ | refine qA rfl ?_ | refine qS rfl ?_ | refine qL H b1 rfl ?_ | refine qT rfl ?_ | refine qF rfl ?_ | refine qI i (by omega) rfl ?_ | refine qI io (by omega) rfl ?_ | refine qP rfl ?_ | refine wQ ?_ | refine wR ?_ | refine wD ?_ | refine wN rfl ?_ | refine wS ?_
  refine SpB.loadR H hc0 rfl rfl rfl rfl rfl rfl rfl ?_
  repeat first | refine qN ?_ | refine qM rfl ?_ | refine qA rfl ?_ | refine qS rfl ?_ | refine qL H b1 rfl ?_ | refine qT rfl ?_ | refine qF rfl ?_ | refine qI i (by omega) rfl ?_ | refine qI io (by omega) rfl ?_ | refine qP rfl ?_ | refine wQ ?_ | refine wR ?_ | refine wD ?_ | refine wN rfl ?_ | refine wS ?_
  refine SpB.loadR H hc1 rfl rfl rfl rfl rfl rfl rfl ?_
  refine SpB.alloc H rfl rfl rfl rfl rfl fun h2 g s2 b2 => ?_
  have l2 : h.sz < h2.sz := by omega
  have H := g.hp H
  have b1 := g.keep l1 b1
  have l1 := g.lt l1
  refine SpB.alloc H rfl rfl rfl rfl rfl fun h3 g s3 b3 => ?_
  have l23 : h.sz < h2.sz := l2
  have l3 : h2.sz < h3.sz := by omega
  have H := g.hp H
  have b1 := g.keep l1 b1
  have l1 := g.lt l1
  have b2 := g.keep l2 b2
  have l2 := g.lt l2
  refine SpB.storeO H b2 (by omega) (by omega) rfl rfl rfl rfl rfl rfl rfl rfl rfl fun h4 g4 s4 b4 f4 => ?_
  have H := g4.hpL (by omega) H
  have b1 := (f4 h0.sz (by omega)).trans b1
  have b3 := (f4 h2.sz (by omega)).trans b3
  have b2 := b4
  refine SpB.storeO H b3 (by omega) (by omega) rfl rfl rfl rfl rfl rfl rfl rfl rfl fun h5 g5 s5 b5 f5 => ?_
  have H := g5.hpL (by omega) H
  have b1 := (f5 h0.sz (by omega)).trans b1
  have b2 := (f5 h.sz (by omega)).trans b2
  have b3 := b5
  have l1 : h0.sz < h5.sz := by omega
  have l2 : h.sz < h5.sz := by omega
  have l3 : h2.sz < h5.sz := by omega
  clear f4 f5 b4 b5 g4 g5
  refine SpB.nil ?_
  refine draw_introK (K := h.sz) (ws := [0, 0, 0, 0, 2, 2, 2, 2, 0, 0, 3, 1]) (by repeat first | exact quietsK.nil | refine quietsK.q rfl (fun h => by cases h) ?_ | refine quietsK.w ?_ | refine quietsK.r rfl rfl rfl (fun x hx => by cases hx) ?_ | refine quietsK.r rfl rfl rfl (rdOf_low (by assumption) (by omega)) ?_ | refine quietsK.x (fun x hx => by simp only [List.mem_singleton] at hx; omega) rfl ?_) (by kernel_rfl) ?_
  repeat first | refine qN ?_ | refine qM rfl ?_ | refine qA rfl ?_ | refine qS rfl ?_ | refine qL H b1 rfl ?_ | refine qL H b2 rfl ?_ | refine qL H b3 rfl ?_ | refine qT rfl ?_ | refine qF rfl ?_ | refine qI i (by omega) rfl ?_ | refine qI io (by omega) rfl ?_ | refine qP rfl ?_ | refine wQ ?_ | refine wR ?_ | refine wD ?_ | refine wN rfl ?_ | refine wS ?_
  refine WpB.cond rfl (fun ht => ?_) fun ht => ?_
  · have h6 : op = 6 := by simpa using ht
    repeat first | refine qN ?_ | refine qM rfl ?_ | refine qA rfl ?_ | refine qS rfl ?_ | refine qL H b1 rfl ?_ | refine qL H b2 rfl ?_ | refine qL H b3 rfl ?_ | refine qT rfl ?_ | refine qF rfl ?_ | refine qI i (by omega) rfl ?_ | refine qI io (by omega) rfl ?_ | refine qP rfl ?_ | refine wQ ?_ | refine wR ?_ | refine wD ?_ | refine wN rfl ?_ | refine wS ?_
    refine SpB.callK Tryz.T1OK H (by omega) (hcol0 h5 H) rfl rfl rfl rfl rfl ?_
    rintro v h6' rfl g
    have H := g.hp H
    have b1 := g.keep l1 b1
    have l1 := g.lt l1
    have b2 := g.keep l2 b2
    have l2 := g.lt l2
    have b3 := g.keep l3 b3
    have l3 := g.lt l3
    repeat first | refine qN ?_ | refine qM rfl ?_ | refine qA rfl ?_ | refine qS rfl ?_ | refine qL H b1 rfl ?_ | refine qL H b2 rfl ?_ | refine qL H b3 rfl ?_ | refine qT rfl ?_ | refine qF rfl ?_ | refine qI i (by omega) rfl ?_ | refine qI io (by omega) rfl ?_ | refine qP rfl ?_ | refine wQ ?_ | refine wR ?_ | refine wD ?_ | refine wN rfl ?_ | refine wS ?_
    refine qB rfl (fun c1 => ?_) fun c1 => ?_
    · have c1 : (kid 0).cols = false := by simpa using c1
      repeat' first | refine qN ?_ | refine qM rfl ?_ | refine qA rfl ?_ | refine qS rfl ?_ | refine qL H b1 rfl ?_ | refine qL H b2 rfl ?_ | refine qL H b3 rfl ?_ | refine qT rfl ?_ | refine qF rfl ?_ | refine qB rfl (fun ht => ?_) fun ht => ?_ | refine qI i (by omega) rfl ?_ | refine qI io (by omega) rfl ?_ | refine qP rfl ?_ | refine wQ ?_ | refine wR ?_ | refine wD ?_ | refine wN rfl ?_ | refine wS ?_ | refine wT rfl ?_ | refine wF rfl ?_ | refine WpB.cond rfl (fun ht => ?_) fun ht => ?_
      exact WpB.ret ⟨_, rfl, ⟨_, rfl, fun _ => ⟨fun _ => .inl c1, fun h => by omega⟩⟩, Nat.le_refl _⟩
    · repeat first | refine qN ?_ | refine qM rfl ?_ | refine qA rfl ?_ | refine qS rfl ?_ | refine qL H b1 rfl ?_ | refine qL H b2 rfl ?_ | refine qL H b3 rfl ?_ | refine qT rfl ?_ | refine qF rfl ?_ | refine qI i (by omega) rfl ?_ | refine qI io (by omega) rfl ?_ | refine qP rfl ?_ | refine wQ ?_ | refine wR ?_ | refine wD ?_ | refine wN rfl ?_ | refine wS ?_
      refine SpB.callK Tryz.T1OK H (by omega) (hcol1 h6' H) rfl rfl rfl rfl rfl ?_
      rintro v h7 rfl g
      repeat first | refine qN ?_ | refine qM rfl ?_ | refine qA rfl ?_ | refine qS rfl ?_ | refine qL H b1 rfl ?_ | refine qT rfl ?_ | refine qF rfl ?_ | refine qI i (by omega) rfl ?_ | refine qI io (by omega) rfl ?_ | refine qP rfl ?_ | refine wQ ?_ | refine wR ?_ | refine wD ?_ | refine wN rfl ?_ | refine wS ?_
      refine WpB.ret ⟨_, rfl, ⟨_, rfl, fun hb => ⟨fun _ => .inr (by simpa using hb), fun h => by omega⟩⟩, Nat.le_refl _⟩
  · have h6 : op ≠ 6 := by simpa using ht
    repeat first | refine qN ?_ | refine qM rfl ?_ | refine qA rfl ?_ | refine qS rfl ?_ | refine qL H b1 rfl ?_ | refine qL H b2 rfl ?_ | refine qL H b3 rfl ?_ | refine qT rfl ?_ | refine qF rfl ?_ | refine qI i (by omega) rfl ?_ | refine qI io (by omega) rfl ?_ | refine qP rfl ?_ | refine wQ ?_ | refine wR ?_ | refine wD ?_ | refine wN rfl ?_ | refine wS ?_
    refine WpB.cond rfl (fun ht => ?_) fun ht => ?_
    · have h7 : op < 7 := of_decide_eq_true ht
      repeat first | refine qN ?_ | refine qM rfl ?_ | refine qA rfl ?_ | refine qS rfl ?_ | refine qL H b1 rfl ?_ | refine qL H b2 rfl ?_ | refine qL H b3 rfl ?_ | refine qT rfl ?_ | refine qF rfl ?_ | refine qI i (by omega) rfl ?_ | refine qI io (by omega) rfl ?_ | refine qP rfl ?_ | refine wQ ?_ | refine wR ?_ | refine wD ?_ | refine wN rfl ?_ | refine wS ?_
      exact WpB.ret ⟨_, rfl, ⟨_, rfl, fun _ => ⟨fun h => absurd h h6, fun h => by omega⟩⟩, Nat.le_refl _⟩
    · have h7 : ¬ op < 7 := of_decide_eq_false ht
      repeat first | refine qN ?_ | refine qM rfl ?_ | refine qA rfl ?_ | refine qS rfl ?_ | refine qL H b1 rfl ?_ | refine qL H b2 rfl ?_ | refine qL H b3 rfl ?_ | refine qT rfl ?_ | refine qF rfl ?_ | refine qI i (by omega) rfl ?_ | refine qI io (by omega) rfl ?_ | refine qP rfl ?_ | refine wQ ?_ | refine wR ?_ | refine wD ?_ | refine wN rfl ?_ | refine wS ?_
      refine SpB.callK Tryz.T1OK H (by omega) (hcol1 h5 H) rfl rfl rfl rfl rfl ?_
      rintro v h6' rfl g
      have H := g.hp H
      have b1 := g.keep l1 b1
      have l1 := g.lt l1
      have b2 := g.keep l2 b2
      have l2 := g.lt l2
      have b3 := g.keep l3 b3
      have l3 := g.lt l3
      refine qB rfl (fun c1 => ?_) fun c1 => ?_
      · repeat' first | refine qN ?_ | refine qM rfl ?_ | refine qA rfl ?_ | refine qS rfl ?_ | refine qL H b1 rfl ?_ | refine qL H b2 rfl ?_ | refine qL H b3 rfl ?_ | refine qT rfl ?_ | refine qF rfl ?_ | refine qB rfl (fun ht => ?_) fun ht => ?_ | refine qI i (by omega) rfl ?_ | refine qI io (by omega) rfl ?_ | refine qP rfl ?_ | refine wQ ?_ | refine wR ?_ | refine wD ?_ | refine wN rfl ?_ | refine wS ?_ | refine wT rfl ?_ | refine wF rfl ?_ | refine WpB.cond rfl (fun ht => ?_) fun ht => ?_
        exact WpB.ret ⟨_, rfl, ⟨_, rfl, fun h => by cases h⟩, Nat.le_refl _⟩
      · repeat first | refine qN ?_ | refine qM rfl ?_ | refine qA rfl ?_ | refine qS rfl ?_ | refine qL H b1 rfl ?_ | refine qL H b2 rfl ?_ | refine qL H b3 rfl ?_ | refine qT rfl ?_ | refine qF rfl ?_ | refine qI i (by omega) rfl ?_ | refine qI io (by omega) rfl ?_ | refine qP rfl ?_ | refine wQ ?_ | refine wR ?_ | refine wD ?_ | refine wN rfl ?_ | refine wS ?_
        refine SpB.callK Tryz.T1OK H (by omega) (hbnd1 h6' H) rfl rfl rfl rfl rfl ?_
        rintro v h7' ⟨m, rfl⟩ g
        have H := g.hp H
        have b1 := g.keep l1 b1
        have l1 := g.lt l1
        have b2 := g.keep l2 b2
        have l2 := g.lt l2
        have b3 := g.keep l3 b3
        have l3 := g.lt l3
        repeat first | refine qN ?_ | refine qM rfl ?_ | refine qA rfl ?_ | refine qS rfl ?_ | refine qL H b1 rfl ?_ | refine qL H b2 rfl ?_ | refine qL H b3 rfl ?_ | refine qT rfl ?_ | refine qF rfl ?_ | refine qI i (by omega) rfl ?_ | refine qI io (by omega) rfl ?_ | refine qP rfl ?_ | refine wQ ?_ | refine wR ?_ | refine wD ?_ | refine wN rfl ?_ | refine wS ?_
        refine WpB.cond rfl (fun ht => ?_) fun ht => ?_
        · repeat' first | refine qN ?_ | refine qM rfl ?_ | refine qA rfl ?_ | refine qS rfl ?_ | refine qL H b1 rfl ?_ | refine qL H b2 rfl ?_ | refine qL H b3 rfl ?_ | refine qT rfl ?_ | refine qF rfl ?_ | refine qB rfl (fun ht => ?_) fun ht => ?_ | refine qI i (by omega) rfl ?_ | refine qI io (by omega) rfl ?_ | refine qP rfl ?_ | refine wQ ?_ | refine wR ?_ | refine wD ?_ | refine wN rfl ?_ | refine wS ?_ | refine wT rfl ?_ | refine wF rfl ?_ | refine WpB.cond rfl (fun ht => ?_) fun ht => ?_
          exact WpB.ret ⟨_, rfl, ⟨_, rfl, fun h => by cases h⟩, Nat.le_refl _⟩
        · repeat first | refine qN ?_ | refine qM rfl ?_ | refine qA rfl ?_ | refine qS rfl ?_ | refine qL H b1 rfl ?_ | refine qL H b2 rfl ?_ | refine qL H b3 rfl ?_ | refine qT rfl ?_ | refine qF rfl ?_ | refine qI i (by omega) rfl ?_ | refine qI io (by omega) rfl ?_ | refine qP rfl ?_ | refine wQ ?_ | refine wR ?_ | refine wD ?_ | refine wN rfl ?_ | refine wS ?_
          refine SpB.callK Tryz.T1OK H (by omega) (hval1 h7' H c1) rfl rfl rfl rfl rfl ?_
          rintro v h8 rfl g
          have H := g.hp H
          have b1 := g.keep l1 b1
          have l1 := g.lt l1
          have b2 := g.keep l2 b2
          have l2 := g.lt l2
          simp only
          generalize hr : E.val (fun _ => Vl.zero) (kid 1) = r
          have hfac : r.k = 1 → 1 ≤ r.i → r.i ≤ 1000 → (E.mk op tb nm ix vk vi vt (.slice (some ⟨b, off, none⟩) 2 cap) 2 kid).factors := fun h1 h2 h3 => ⟨fun h => absurd h h6, fun _ => ⟨c1, by rw [hr]; exact h1, by rw [hr]; exact h2, by rw [hr]; exact h3⟩⟩
          refine SpB.alloc H rfl rfl rfl rfl rfl fun h9 g s9 b4 => ?_
          have l4 : h8.sz < h9.sz := by omega
          have H := g.hp H
          have b1 := g.keep l1 b1
          have l1 := g.lt l1
          refine SpB.storeO H b4 (by omega) (by omega) rfl rfl rfl rfl rfl rfl rfl rfl rfl fun h10 g10 s10 b10 f10 => ?_
          have H := g10.hpL (by omega) H
          have b1 : h10.blk h8.sz = some (.cells r.cells) := b10
          repeat first | refine qN ?_ | refine qM rfl ?_ | refine qA rfl ?_ | refine qS rfl ?_ | refine qL H b1 rfl ?_ | refine qT rfl ?_ | refine qF rfl ?_ | refine qI i (by omega) rfl ?_ | refine qI io (by omega) rfl ?_ | refine qP rfl ?_ | refine wQ ?_ | refine wR ?_ | refine wD ?_ | refine wN rfl ?_ | refine wS ?_
          refine qB rfl (fun d1 => ?_) fun d1 => ?_
          · repeat first | refine qN ?_ | refine qM rfl ?_ | refine qA rfl ?_ | refine qS rfl ?_ | refine qL H b1 rfl ?_ | refine qT rfl ?_ | refine qF rfl ?_ | refine qI i (by omega) rfl ?_ | refine qI io (by omega) rfl ?_ | refine qP rfl ?_ | refine wQ ?_ | refine wR ?_ | refine wD ?_ | refine wN rfl ?_ | refine wS ?_
            refine qB rfl (fun d2 => ?_) fun d2 => ?_
            · repeat first | refine qN ?_ | refine qM rfl ?_ | refine qA rfl ?_ | refine qS rfl ?_ | refine qL H b1 rfl ?_ | refine qT rfl ?_ | refine qF rfl ?_ | refine qI i (by omega) rfl ?_ | refine qI io (by omega) rfl ?_ | refine qP rfl ?_ | refine wQ ?_ | refine wR ?_ | refine wD ?_ | refine wN rfl ?_ | refine wS ?_
              refine WpB.ret ⟨_, rfl, ⟨_, rfl, fun d3 => ?_⟩, Nat.le_refl _⟩
              exact hfac (by simpa using d1) (of_decide_eq_true d2) (of_decide_eq_true d3)
            · repeat' first | refine qN ?_ | refine qM rfl ?_ | refine qA rfl ?_ | refine qS rfl ?_ | refine qL H b1 rfl ?_ | refine qT rfl ?_ | refine qF rfl ?_ | refine qB rfl (fun ht => ?_) fun ht => ?_ | refine qI i (by omega) rfl ?_ | refine qI io (by omega) rfl ?_ | refine qP rfl ?_ | refine wQ ?_ | refine wR ?_ | refine wD ?_ | refine wN rfl ?_ | refine wS ?_ | refine wT rfl ?_ | refine wF rfl ?_ | refine WpB.cond rfl (fun ht => ?_) fun ht => ?_
              exact WpB.ret ⟨_, rfl, ⟨_, rfl, fun h => by cases h⟩, Nat.le_refl _⟩
          · repeat' first | refine qN ?_ | refine qM rfl ?_ | refine qA rfl ?_ | refine qS rfl ?_ | refine qL H b1 rfl ?_ | refine qT rfl ?_ | refine qF rfl ?_ | refine qB rfl (fun ht => ?_) fun ht => ?_ | refine qI i (by omega) rfl ?_ | refine qI io (by omega) rfl ?_ | refine qP rfl ?_ | refine wQ ?_ | refine wR ?_ | refine wD ?_ | refine wN rfl ?_ | refine wS ?_ | refine wT rfl ?_ | refine wF rfl ?_ | refine WpB.cond rfl (fun ht => ?_) fun ht => ?_
            exact WpB.ret ⟨_, rfl, ⟨_, rfl, fun h => by cases h⟩, Nat.le_refl _⟩

end Go.Proofs.YtkjkcoemloakhaaGreat
end

section
set_option linter.unusedVariables false
namespace Go.Proofs.YtkjkcoemloakhaaGreat
open Go Go.Vae
set_option maxRecDepth 100000

theorem unary_of {N lim : Nat} {rd : RO} (l : Sl Vr) {op : Int} {tb nm : ByteArray} {ix vk vi : Int} {vt : ByteArray} {a : Option Addr} {cap n : Nat} {kid : Nat → E} (h0 : AH) (H : Hp N lim rd h0) (hn : n ≤ reachBytes)
    (hx : ∀ i, i < n → ∃ b off, a = some ⟨b, off, none⟩ ∧ rd b (off + i * 8) 8 = some (kid i).cells) (hk : ∀ i, i < n → (kid i).At rd) (hI : ∀ i, i < n → ∀ t0, 1 ≤ t0 → ∀ h, Hp N lim rd h → Kp TT 79 [.agg ⟨(kid i).cells⟩, l.v, .int .i64 t0] h (IsR l (kid i) t0)) :
    Kp TT 136 [.agg ⟨(E.mk op tb nm ix vk vi vt (.slice a n cap) n kid).cells⟩, l.v] h0 (TyR l (E.mk op tb nm ix vk vi vt (.slice a n cap) n kid)) := by
  have hreach : reachBytes < 2 ^ 47 := by decide
  have hm : ∀ (e : E), (∃ t, Value.int .i64 (-1) = .int .i64 t ∧ (t = -1 ∨ e.Ty l.lt l.n t)) ∧ h0.sz ≤ h0.sz := fun e => ⟨⟨-1, rfl, .inl rfl⟩, Nat.le_refl _⟩
  refine Kp.of (fi := Tryz.fi136) rfl rfl rfl ?_
  refine WpB.seq (WpB.region ?_)
  refine SpB.box H rfl rfl rfl rfl rfl rfl fun h g s1 b1 => ?_
  have hle := H.le
  have H := g.hp H
  have l1 : h0.sz < h.sz := by omega
  clear g s1
  repeat first | refine qN ?_ | refine qM rfl ?_ | refine qA rfl ?_ | refine qS rfl ?_ | refine qL H b1 rfl ?_ | refine qT rfl ?_ | refine qF rfl ?_ | refine qI i (by omega) rfl ?_ | refine qI io (by omega) rfl ?_ | refine qP rfl ?_ | refine wQ ?_ | refine wR ?_ | refine wD ?_ | refine wN rfl ?_ | refine wS ?_
  refine WpB.cond rfl (fun ht => ?_) fun ht => ?_
  · repeat first | refine qN ?_ | refine qM rfl ?_ | refine qA rfl ?_ | refine qS rfl ?_ | refine qL H b1 rfl ?_ | refine qT rfl ?_ | refine qF rfl ?_ | refine qI i (by omega) rfl ?_ | refine qI io (by omega) rfl ?_ | refine qP rfl ?_ | refine wQ ?_ | refine wR ?_ | refine wD ?_ | refine wN rfl ?_ | refine wS ?_
    exact WpB.ret ⟨_, rfl, hm _⟩
  have ht : n = 1 := by simp at ht; omega
  subst ht
  have hk0 := hk 0 (by omega)
  obtain ⟨b, off, rfl, hc0⟩ := hx 0 (by omega)
  have hI0 := hI 0 (by omega)
  obtain ⟨o0, y1, y2, y3, y4, y5, y6, y7, hcc0⟩ := E.cells8 hk0
  rw [hcc0] at hc0
  simp only [hcc0] at hI0
  repeat first | refine qN ?_ | refine qM rfl ?_ | refine qA rfl ?_ | refine qS rfl ?_ | refine qL H b1 rfl ?_ | refine qT rfl ?_ | refine qF rfl ?_ | refine qI i (by omega) rfl ?_ | refine qI io (by omega) rfl ?_ | refine qP rfl ?_ | refine wQ ?_ | refine wR ?_ | refine wD ?_ | refine wN rfl ?_ | refine wS ?_
  refine SpB.loadR H hc0 rfl rfl rfl rfl rfl rfl rfl ?_
  refine SpB.alloc H rfl rfl rfl rfl rfl fun h2 g s2 b2 => ?_
  have l2 : h.sz < h2.sz := by omega
  have H := g.hp H
  have b1 := g.keep l1 b1
  have l1 := g.lt l1
  refine SpB.storeO H b2 (by omega) (by omega) rfl rfl rfl rfl rfl rfl rfl rfl rfl fun h4 g4 s4 b4 f4 => ?_
  have H := g4.hpL (by omega) H
  have b1 := (f4 h0.sz (by omega)).trans b1
  have b2 := b4
  have l1 : h0.sz < h4.sz := by omega
  have l2 : h.sz < h4.sz := by omega
  clear f4 b4 g4
  have hT : ∀ t, (E.mk op tb nm ix vk vi vt (.slice (some ⟨b, off, none⟩) 1 cap) 1 kid).Ty l.lt l.n t → (∃ t', Value.int .i64 t = .int .i64 t' ∧ (t' = -1 ∨ (E.mk op tb nm ix vk vi vt (.slice (some ⟨b, off, none⟩) 1 cap) 1 kid).Ty l.lt l.n t')) ∧ h0.sz ≤ h0.sz := fun t h => ⟨⟨t, rfl, .inr h⟩, Nat.le_refl _⟩
  repeat first | refine qN ?_ | refine qM rfl ?_ | refine qA rfl ?_ | refine qS rfl ?_ | refine qL H b1 rfl ?_ | refine qL H b2 rfl ?_ | refine qT rfl ?_ | refine qF rfl ?_ | refine qI i (by omega) rfl ?_ | refine qI io (by omega) rfl ?_ | refine qP rfl ?_ | refine wQ ?_ | refine wR ?_ | refine wD ?_ | refine wN rfl ?_ | refine wS ?_
  refine WpB.block ?_
  by_cases e3 : op = 3
  · subst e3
    repeat first | refine qN ?_ | refine qM rfl ?_ | refine qA rfl ?_ | refine qS rfl ?_ | refine qL H b1 rfl ?_ | refine qL H b2 rfl ?_ | refine qT rfl ?_ | refine qF rfl ?_ | refine qI i (by omega) rfl ?_ | refine qI io (by omega) rfl ?_ | refine qP rfl ?_ | refine wQ ?_ | refine wR ?_ | refine wD ?_ | refine wN rfl ?_ | refine wS ?_ | refine wT rfl ?_ | refine wF rfl ?_
    refine SpB.callK Tryz.T1OK H (by omega) (hI0 1 (by omega) h4 H) rfl rfl rfl rfl rfl ?_
    rintro v h5 ⟨r, rfl, hr⟩ g
    have H := g.hp H
    have b1 := g.keep l1 b1
    have l1 := g.lt l1
    have b2 := g.keep l2 b2
    have l2 := g.lt l2
    cases r with
    | true =>
      repeat first | refine qN ?_ | refine qM rfl ?_ | refine qA rfl ?_ | refine qS rfl ?_ | refine qL H b1 rfl ?_ | refine qL H b2 rfl ?_ | refine qT rfl ?_ | refine qF rfl ?_ | refine qI i (by omega) rfl ?_ | refine qI io (by omega) rfl ?_ | refine qP rfl ?_ | refine wQ ?_ | refine wR ?_ | refine wD ?_ | refine wN rfl ?_ | refine wS ?_ | refine wT rfl ?_ | refine wF rfl ?_
      exact WpB.ret ⟨_, rfl, hT 1 (.inr (.inr (.inl ⟨rfl, rfl, rfl, hr rfl⟩)))⟩
    | false =>
      repeat first | refine qN ?_ | refine qM rfl ?_ | refine qA rfl ?_ | refine qS rfl ?_ | refine qL H b1 rfl ?_ | refine qL H b2 rfl ?_ | refine qT rfl ?_ | refine qF rfl ?_ | refine qI i (by omega) rfl ?_ | refine qI io (by omega) rfl ?_ | refine qP rfl ?_ | refine wQ ?_ | refine wR ?_ | refine wD ?_ | refine wN rfl ?_ | refine wS ?_ | refine wT rfl ?_ | refine wF rfl ?_
      exact WpB.ret ⟨_, rfl, hm _⟩
  by_cases e9 : op = 9
  · subst e9
    repeat first | refine qN ?_ | refine qM rfl ?_ | refine qA rfl ?_ | refine qS rfl ?_ | refine qL H b1 rfl ?_ | refine qL H b2 rfl ?_ | refine qT rfl ?_ | refine qF rfl ?_ | refine qI i (by omega) rfl ?_ | refine qI io (by omega) rfl ?_ | refine qP rfl ?_ | refine wQ ?_ | refine wR ?_ | refine wD ?_ | refine wN rfl ?_ | refine wS ?_ | refine wT rfl ?_ | refine wF rfl ?_
    refine SpB.callK Tryz.T1OK H (by omega) (hI0 2 (by omega) h4 H) rfl rfl rfl rfl rfl ?_
    rintro v h5 ⟨r, rfl, hr⟩ g
    have H := g.hp H
    have b1 := g.keep l1 b1
    have l1 := g.lt l1
    have b2 := g.keep l2 b2
    have l2 := g.lt l2
    cases r with
    | true =>
      repeat first | refine qN ?_ | refine qM rfl ?_ | refine qA rfl ?_ | refine qS rfl ?_ | refine qL H b1 rfl ?_ | refine qL H b2 rfl ?_ | refine qT rfl ?_ | refine qF rfl ?_ | refine qI i (by omega) rfl ?_ | refine qI io (by omega) rfl ?_ | refine qP rfl ?_ | refine wQ ?_ | refine wR ?_ | refine wD ?_ | refine wN rfl ?_ | refine wS ?_ | refine wT rfl ?_ | refine wF rfl ?_
      exact WpB.ret ⟨_, rfl, hT 1 (.inr (.inr (.inr (.inl ⟨rfl, rfl, rfl, hr rfl⟩))))⟩
    | false =>
      repeat first | refine qN ?_ | refine qM rfl ?_ | refine qA rfl ?_ | refine qS rfl ?_ | refine qL H b1 rfl ?_ | refine qL H b2 rfl ?_ | refine qT rfl ?_ | refine qF rfl ?_ | refine qI i (by omega) rfl ?_ | refine qI io (by omega) rfl ?_ | refine qP rfl ?_ | refine wQ ?_ | refine wR ?_ | refine wD ?_ | refine wN rfl ?_ | refine wS ?_ | refine wT rfl ?_ | refine wF rfl ?_
      exact WpB.ret ⟨_, rfl, hm _⟩
  by_cases e17 : op = 17
  · subst e17
    repeat first | refine qN ?_ | refine qM rfl ?_ | refine qA rfl ?_ | refine qS rfl ?_ | refine qL H b1 rfl ?_ | refine qL H b2 rfl ?_ | refine qT rfl ?_ | refine qF rfl ?_ | refine qI i (by omega) rfl ?_ | refine qI io (by omega) rfl ?_ | refine qP rfl ?_ | refine wQ ?_ | refine wR ?_ | refine wD ?_ | refine wN rfl ?_ | refine wS ?_ | refine wT rfl ?_ | refine wF rfl ?_
    refine SpB.callK Tryz.T1OK H (by omega) (hI0 1 (by omega) h4 H) rfl rfl rfl rfl rfl ?_
    rintro v h5 ⟨r, rfl, hr⟩ g
    have H := g.hp H
    have b1 := g.keep l1 b1
    have l1 := g.lt l1
    have b2 := g.keep l2 b2
    have l2 := g.lt l2
    cases r with
    | true =>
      repeat first | refine qN ?_ | refine qM rfl ?_ | refine qA rfl ?_ | refine qS rfl ?_ | refine qL H b1 rfl ?_ | refine qL H b2 rfl ?_ | refine qT rfl ?_ | refine qF rfl ?_ | refine qI i (by omega) rfl ?_ | refine qI io (by omega) rfl ?_ | refine qP rfl ?_ | refine wQ ?_ | refine wR ?_ | refine wD ?_ | refine wN rfl ?_ | refine wS ?_ | refine wT rfl ?_ | refine wF rfl ?_
      exact WpB.ret ⟨_, rfl, hT 3 (.inr (.inr (.inr (.inr (.inr (.inr (.inr (.inl ⟨rfl, rfl, rfl, .inl (hr rfl)⟩))))))))⟩
    | false =>
      repeat first | refine qN ?_ | refine qM rfl ?_ | refine qA rfl ?_ | refine qS rfl ?_ | refine qL H b1 rfl ?_ | refine qL H b2 rfl ?_ | refine qT rfl ?_ | refine qF rfl ?_ | refine qI i (by omega) rfl ?_ | refine qI io (by omega) rfl ?_ | refine qP rfl ?_ | refine wQ ?_ | refine wR ?_ | refine wD ?_ | refine wN rfl ?_ | refine wS ?_ | refine wT rfl ?_ | refine wF rfl ?_
      refine SpB.callK Tryz.T1OK H (by omega) (hI0 2 (by omega) h5 H) rfl rfl rfl rfl rfl ?_
      rintro v h6 ⟨r, rfl, hr⟩ g
      have H := g.hp H
      have b1 := g.keep l1 b1
      have l1 := g.lt l1
      have b2 := g.keep l2 b2
      have l2 := g.lt l2
      cases r with
      | true =>
        repeat first | refine qN ?_ | refine qM rfl ?_ | refine qA rfl ?_ | refine qS rfl ?_ | refine qL H b1 rfl ?_ | refine qL H b2 rfl ?_ | refine qT rfl ?_ | refine qF rfl ?_ | refine qI i (by omega) rfl ?_ | refine qI io (by omega) rfl ?_ | refine qP rfl ?_ | refine wQ ?_ | refine wR ?_ | refine wD ?_ | refine wN rfl ?_ | refine wS ?_ | refine wT rfl ?_ | refine wF rfl ?_
        exact WpB.ret ⟨_, rfl, hT 3 (.inr (.inr (.inr (.inr (.inr (.inr (.inr (.inl ⟨rfl, rfl, rfl, .inr (hr rfl)⟩))))))))⟩
      | false =>
        repeat first | refine qN ?_ | refine qM rfl ?_ | refine qA rfl ?_ | refine qS rfl ?_ | refine qL H b1 rfl ?_ | refine qL H b2 rfl ?_ | refine qT rfl ?_ | refine qF rfl ?_ | refine qI i (by omega) rfl ?_ | refine qI io (by omega) rfl ?_ | refine qP rfl ?_ | refine wQ ?_ | refine wR ?_ | refine wD ?_ | refine wN rfl ?_ | refine wS ?_ | refine wT rfl ?_ | refine wF rfl ?_
        exact WpB.ret ⟨_, rfl, hm _⟩
  by_cases e20 : op = 20
  · subst e20
    repeat first | refine qN ?_ | refine qM rfl ?_ | refine qA rfl ?_ | refine qS rfl ?_ | refine qL H b1 rfl ?_ | refine qL H b2 rfl ?_ | refine qT rfl ?_ | refine qF rfl ?_ | refine qI i (by omega) rfl ?_ | refine qI io (by omega) rfl ?_ | refine qP rfl ?_ | refine wQ ?_ | refine wR ?_ | refine wD ?_ | refine wN rfl ?_ | refine wS ?_ | refine wT rfl ?_ | refine wF rfl ?_
    refine SpB.callK Tryz.T1OK H (by omega) (hI0 3 (by omega) h4 H) rfl rfl rfl rfl rfl ?_
    rintro v h5 ⟨r, rfl, hr⟩ g
    have H := g.hp H
    have b1 := g.keep l1 b1
    have l1 := g.lt l1
    have b2 := g.keep l2 b2
    have l2 := g.lt l2
    cases r with
    | true =>
      repeat first | refine qN ?_ | refine qM rfl ?_ | refine qA rfl ?_ | refine qS rfl ?_ | refine qL H b1 rfl ?_ | refine qL H b2 rfl ?_ | refine qT rfl ?_ | refine qF rfl ?_ | refine qI i (by omega) rfl ?_ | refine qI io (by omega) rfl ?_ | refine qP rfl ?_ | refine wQ ?_ | refine wR ?_ | refine wD ?_ | refine wN rfl ?_ | refine wS ?_ | refine wT rfl ?_ | refine wF rfl ?_
      exact WpB.ret ⟨_, rfl, hT 3 (.inr (.inr (.inr (.inr (.inr (.inr (.inr (.inr (.inr ⟨rfl, rfl, rfl, hr rfl⟩)))))))))⟩
    | false =>
      repeat first | refine qN ?_ | refine qM rfl ?_ | refine qA rfl ?_ | refine qS rfl ?_ | refine qL H b1 rfl ?_ | refine qL H b2 rfl ?_ | refine qT rfl ?_ | refine qF rfl ?_ | refine qI i (by omega) rfl ?_ | refine qI io (by omega) rfl ?_ | refine qP rfl ?_ | refine wQ ?_ | refine wR ?_ | refine wD ?_ | refine wN rfl ?_ | refine wS ?_ | refine wT rfl ?_ | refine wF rfl ?_
      exact WpB.ret ⟨_, rfl, hm _⟩
  repeat first | refine qN ?_ | refine qM rfl ?_ | refine qA rfl ?_ | refine qS rfl ?_ | refine qL H b1 rfl ?_ | refine qL H b2 rfl ?_ | refine qT rfl ?_ | refine qF rfl ?_ | refine qI i (by omega) rfl ?_ | refine qI io (by omega) rfl ?_ | refine qP rfl ?_ | refine wQ ?_ | refine wR ?_ | refine wD ?_ | refine wN rfl ?_ | refine wS ?_ | refine wT rfl ?_ | refine wF rfl ?_
  refine SpB.boolF (by simp [e3]) rfl rfl rfl rfl rfl ?_
  repeat first | refine qN ?_ | refine qM rfl ?_ | refine qA rfl ?_ | refine qS rfl ?_ | refine qL H b1 rfl ?_ | refine qL H b2 rfl ?_ | refine qT rfl ?_ | refine qF rfl ?_ | refine qI i (by omega) rfl ?_ | refine qI io (by omega) rfl ?_ | refine qP rfl ?_ | refine wQ ?_ | refine wR ?_ | refine wD ?_ | refine wN rfl ?_ | refine wS ?_ | refine wT rfl ?_ | refine wF rfl ?_
  refine SpB.boolF (by simp [e9]) rfl rfl rfl rfl rfl ?_
  repeat first | refine qN ?_ | refine qM rfl ?_ | refine qA rfl ?_ | refine qS rfl ?_ | refine qL H b1 rfl ?_ | refine qL H b2 rfl ?_ | refine qT rfl ?_ | refine qF rfl ?_ | refine qI i (by omega) rfl ?_ | refine qI io (by omega) rfl ?_ | refine qP rfl ?_ | refine wQ ?_ | refine wR ?_ | refine wD ?_ | refine wN rfl ?_ | refine wS ?_ | refine wT rfl ?_ | refine wF rfl ?_
  refine SpB.boolF (by simp [e17]) rfl rfl rfl rfl rfl ?_
  repeat first | refine qN ?_ | refine qM rfl ?_ | refine qA rfl ?_ | refine qS rfl ?_ | refine qL H b1 rfl ?_ | refine qL H b2 rfl ?_ | refine qT rfl ?_ | refine qF rfl ?_ | refine qI i (by omega) rfl ?_ | refine qI io (by omega) rfl ?_ | refine qP rfl ?_ | refine wQ ?_ | refine wR ?_ | refine wD ?_ | refine wN rfl ?_ | refine wS ?_ | refine wT rfl ?_ | refine wF rfl ?_
  refine SpB.boolF (by simp [e20]) rfl rfl rfl rfl rfl ?_
  repeat first | refine qN ?_ | refine qM rfl ?_ | refine qA rfl ?_ | refine qS rfl ?_ | refine qL H b1 rfl ?_ | refine qL H b2 rfl ?_ | refine qT rfl ?_ | refine qF rfl ?_ | refine qI i (by omega) rfl ?_ | refine qI io (by omega) rfl ?_ | refine qP rfl ?_ | refine wQ ?_ | refine wR ?_ | refine wD ?_ | refine wN rfl ?_ | refine wS ?_ | refine wT rfl ?_ | refine wF rfl ?_
  exact WpB.ret ⟨_, rfl, hm _⟩

set_option maxHeartbeats 1600000 in
theorem type_two {N lim : Nat} {rd : RO} (l : Sl Vr) {op : Int} {tb nm : ByteArray} {ix vk vi : Int} {vt : ByteArray} {a : Option Addr} {cap : Nat} {kid : Nat → E} (h0 : AH) (H : Hp N lim rd h0)
    (ho : op ≠ 1 ∧ op ≠ 2 ∧ op ≠ 3 ∧ op ≠ 9 ∧ op ≠ 17 ∧ op ≠ 20)
    (hx : ∀ i, i < 2 → ∃ b off, a = some ⟨b, off, none⟩ ∧ rd b (off + i * 8) 8 = some (kid i).cells) (hk : ∀ i, i < 2 → (kid i).At rd) (hT1 : ∀ h, Hp N lim rd h → Kp TT 100 [.agg ⟨(kid 1).cells⟩, l.v] h (TyR l (kid 1)))
    (hI : ∀ i, i < 2 → ∀ t0, 1 ≤ t0 → ∀ h, Hp N lim rd h → Kp TT 79 [.agg ⟨(kid i).cells⟩, l.v, .int .i64 t0] h (IsR l (kid i) t0)) :
    Kp TT 100 [.agg ⟨(E.mk op tb nm ix vk vi vt (.slice a 2 cap) 2 kid).cells⟩, l.v] h0 (TyR l (E.mk op tb nm ix vk vi vt (.slice a 2 cap) 2 kid)) := by
  obtain ⟨o1, o2, o3, o9, o17, o20⟩ := ho
  have hm : ∀ (e : E), (∃ t, Value.int .i64 (-1) = .int .i64 t ∧ (t = -1 ∨ e.Ty l.lt l.n t)) ∧ h0.sz ≤ h0.sz := fun e => ⟨⟨-1, rfl, .inl rfl⟩, Nat.le_refl _⟩
  have hk0 := hk 0 (by omega)
  have hk1 := hk 1 (by omega)
  have hI0 := hI 0 (by omega)
  have hI1 := hI 1 (by omega)
  have hx0 := hx
  have hfac := fun h (H : Hp N lim rd h) (ho : 4 ≤ op ∧ op ≤ 8) (hn1 : (kid 1).Num l.lt l.n) => factors_ok l (op := op) (tb := tb) (nm := nm) (ix := ix) (vk := vk) (vi := vi) (vt := vt) (cap := cap) h H ho hx0 hk hn1
  obtain ⟨b, off, rfl, hc0⟩ := hx 0 (by omega)
  obtain ⟨_, _, ha1, hc1⟩ := hx 1 (by omega)
  injection ha1 with ha1
  injection ha1 with ha1 ha2
  subst ha1 ha2
  have hbl : b < N + lim := (H.ext _ _ _ _ hc0).1
  obtain ⟨p0, y1, y2, y3, y4, y5, y6, y7, hcc0⟩ := E.cells8 hk0
  obtain ⟨p1, z1, z2, z3, z4, z5, z6, z7, hcc1⟩ := E.cells8 hk1
  rw [hcc0] at hc0
  rw [hcc1] at hc1
  simp only [hcc0] at hI0
  simp only [hcc1] at hI1 hT1
  have hT : ∀ t, (E.mk op tb nm ix vk vi vt (.slice (some ⟨b, off, none⟩) 2 cap) 2 kid).Ty l.lt l.n t → (∃ t', Value.int .i64 t = .int .i64 t' ∧ (t' = -1 ∨ (E.mk op tb nm ix vk vi vt (.slice (some ⟨b, off, none⟩) 2 cap) 2 kid).Ty l.lt l.n t')) ∧ h0.sz ≤ h0.sz := fun t h => ⟨⟨t, rfl, .inr h⟩, Nat.le_refl _⟩
  refine Kp.of (fi := Tryz.fi100) rfl rfl rfl ?_
  refine WpB.seq (WpB.region ?_)
  refine SpB.box H rfl rfl rfl rfl rfl rfl fun h g s1 b1 => ?_
  have hle := H.le
  have H := g.hp H
  have l1 : h0.sz < h.sz := by omega
  clear g s1
  repeat first | refine qN ?_ | refine qM rfl ?_ | refine qA rfl ?_ | refine qS rfl ?_ | refine qL H b1 rfl ?_ | refine qT rfl ?_ | refine qF rfl ?_ | refine qI i (by omega) rfl ?_ | refine qI io (by omega) rfl ?_ | refine qP rfl ?_ | refine wQ ?_ | refine wR ?_ | refine wD ?_ | refine wN rfl ?_ | refine wS ?_
  refine WpB.cut1 [(1, l.v), (2, .pointer (some ⟨N + h0.sz, 0, none⟩))] (fun h' => h' = h) ?_ ?_
  · refine WpB.block ?_
    repeat first | refine qN ?_ | refine qM rfl ?_ | refine qA rfl ?_ | refine qS rfl ?_ | refine qL H b1 rfl ?_ | refine qT rfl ?_ | refine qF rfl ?_ | refine qI i (by omega) rfl ?_ | refine qI io (by omega) rfl ?_ | refine qP rfl ?_ | refine wQ ?_ | refine wR ?_ | refine wD ?_ | refine wN rfl ?_ | refine wS ?_
    refine WpB.cond rfl (fun ht => absurd (by simpa using ht) o1) fun _ => ?_
    repeat first | refine qN ?_ | refine qM rfl ?_ | refine qA rfl ?_ | refine qS rfl ?_ | refine qL H b1 rfl ?_ | refine qT rfl ?_ | refine qF rfl ?_ | refine qI i (by omega) rfl ?_ | refine qI io (by omega) rfl ?_ | refine qP rfl ?_ | refine wQ ?_ | refine wR ?_ | refine wD ?_ | refine wN rfl ?_ | refine wS ?_
    refine WpB.cond rfl (fun ht => absurd (by simpa using ht) o2) fun _ => ?_
    repeat first | refine qN ?_ | refine qM rfl ?_ | refine qA rfl ?_ | refine qS rfl ?_ | refine qL H b1 rfl ?_ | refine qT rfl ?_ | refine qF rfl ?_ | refine qI i (by omega) rfl ?_ | refine qI io (by omega) rfl ?_ | refine qP rfl ?_ | refine wQ ?_ | refine wR ?_ | refine wD ?_ | refine wN rfl ?_ | refine wS ?_ | refine wT rfl ?_ | refine wF rfl ?_
    refine WpB.cond rfl (fun ht => absurd (by simpa using ht) o3) fun _ => ?_
    repeat first | refine qN ?_ | refine qM rfl ?_ | refine qA rfl ?_ | refine qS rfl ?_ | refine qL H b1 rfl ?_ | refine qT rfl ?_ | refine qF rfl ?_ | refine qI i (by omega) rfl ?_ | refine qI io (by omega) rfl ?_ | refine qP rfl ?_ | refine wQ ?_ | refine wR ?_ | refine wD ?_ | refine wN rfl ?_ | refine wS ?_ | refine wT rfl ?_ | refine wF rfl ?_
    refine WpB.cond rfl (fun ht => absurd (by simpa using ht) o9) fun _ => ?_
    repeat first | refine qN ?_ | refine qM rfl ?_ | refine qA rfl ?_ | refine qS rfl ?_ | refine qL H b1 rfl ?_ | refine qT rfl ?_ | refine qF rfl ?_ | refine qI i (by omega) rfl ?_ | refine qI io (by omega) rfl ?_ | refine qP rfl ?_ | refine wQ ?_ | refine wR ?_ | refine wD ?_ | refine wN rfl ?_ | refine wS ?_ | refine wT rfl ?_ | refine wF rfl ?_
    refine WpB.cond rfl (fun ht => absurd (by simpa using ht) o17) fun _ => ?_
    repeat first | refine qN ?_ | refine qM rfl ?_ | refine qA rfl ?_ | refine qS rfl ?_ | refine qL H b1 rfl ?_ | refine qT rfl ?_ | refine qF rfl ?_ | refine qI i (by omega) rfl ?_ | refine qI io (by omega) rfl ?_ | refine qP rfl ?_ | refine wQ ?_ | refine wR ?_ | refine wD ?_ | refine wN rfl ?_ | refine wS ?_ | refine wT rfl ?_ | refine wF rfl ?_
    refine WpB.cond rfl (fun ht => absurd (by simpa using ht) o20) fun _ => ?_
    repeat first | refine qN ?_ | refine qM rfl ?_ | refine qA rfl ?_ | refine qS rfl ?_ | refine qL H b1 rfl ?_ | refine qT rfl ?_ | refine qF rfl ?_ | refine qI i (by omega) rfl ?_ | refine qI io (by omega) rfl ?_ | refine qP rfl ?_ | refine wQ ?_ | refine wR ?_ | refine wD ?_ | refine wN rfl ?_ | refine wS ?_ | refine wT rfl ?_ | refine wF rfl ?_
    exact ⟨(by repeat first | exact sub_nil | refine sub_cons rfl ?_), rfl, rfl⟩
  rintro h rfl
  repeat first | refine qN ?_ | refine qM rfl ?_ | refine qA rfl ?_ | refine qS rfl ?_ | refine qL H b1 rfl ?_ | refine qT rfl ?_ | refine qF rfl ?_ | refine qI i (by omega) rfl ?_ | refine qI io (by omega) rfl ?_ | refine qP rfl ?_ | refine wQ ?_ | refine wR ?_ | refine wD ?_ | refine wN rfl ?_ | refine wS ?_ | refine wT rfl ?_ | refine wF rfl ?_
  refine SpB.loadR H hc0 rfl rfl rfl rfl rfl rfl rfl ?_
  repeat first | refine qN ?_ | refine qM rfl ?_ | refine qA rfl ?_ | refine qS rfl ?_ | refine qL H b1 rfl ?_ | refine qT rfl ?_ | refine qF rfl ?_ | refine qI i (by omega) rfl ?_ | refine qI io (by omega) rfl ?_ | refine qP rfl ?_ | refine wQ ?_ | refine wR ?_ | refine wD ?_ | refine wN rfl ?_ | refine wS ?_
  refine SpB.loadR H hc1 rfl rfl rfl rfl rfl rfl rfl ?_
  refine SpB.alloc H rfl rfl rfl rfl rfl fun h2 g s2 b2 => ?_
  have l2 : h.sz < h2.sz := by omega
  have H := g.hp H
  have b1 := g.keep l1 b1
  have l1 := g.lt l1
  refine SpB.alloc H rfl rfl rfl rfl rfl fun h3 g s3 b3 => ?_
  have l23 : h.sz < h2.sz := l2
  have l3 : h2.sz < h3.sz := by omega
  have H := g.hp H
  have b1 := g.keep l1 b1
  have l1 := g.lt l1
  have b2 := g.keep l2 b2
  have l2 := g.lt l2
  refine SpB.storeO H b2 (by omega) (by omega) rfl rfl rfl rfl rfl rfl rfl rfl rfl fun h4 g4 s4 b4 f4 => ?_
  have H := g4.hpL (by omega) H
  have b1 := (f4 h0.sz (by omega)).trans b1
  have b3 := (f4 h2.sz (by omega)).trans b3
  have b2 := b4
  refine SpB.storeO H b3 (by omega) (by omega) rfl rfl rfl rfl rfl rfl rfl rfl rfl fun h5 g5 s5 b5 f5 => ?_
  have H := g5.hpL (by omega) H
  have b1 := (f5 h0.sz (by omega)).trans b1
  have b2 := (f5 h.sz (by omega)).trans b2
  have b3 := b5
  have l1 : h0.sz < h5.sz := by omega
  have l2 : h.sz < h5.sz := by omega
  have l3 : h2.sz < h5.sz := by omega
  clear f4 f5 b4 b5 g4 g5
  refine SpB.nil ?_
  refine draw_introK (K := h.sz) (ws := [0, 0, 0, 0, 2, 2, 2, 2, 0, 0, 3, 1]) (by repeat first | exact quietsK.nil | refine quietsK.q rfl (fun h => by cases h) ?_ | refine quietsK.w ?_ | refine quietsK.r rfl rfl rfl (fun x hx => by cases hx) ?_ | refine quietsK.r rfl rfl rfl (rdOf_low (by assumption) (by omega)) ?_ | refine quietsK.x (fun x hx => by simp only [List.mem_singleton] at hx; omega) rfl ?_) (by kernel_rfl) ?_
  repeat first | refine qN ?_ | refine qM rfl ?_ | refine qA rfl ?_ | refine qS rfl ?_ | refine qL H b1 rfl ?_ | refine qL H b2 rfl ?_ | refine qL H b3 rfl ?_ | refine qT rfl ?_ | refine qF rfl ?_ | refine qI i (by omega) rfl ?_ | refine qI io (by omega) rfl ?_ | refine qP rfl ?_ | refine wQ ?_ | refine wR ?_ | refine wD ?_ | refine wN rfl ?_ | refine wS ?_
  refine WpB.block ?_
  by_cases hA : 4 ≤ op ∧ op ≤ 8
  · refine WpB.cut [(82, .bool true), (1, l.v), (2, .pointer (some ⟨N + h0.sz, 0, none⟩)), (5, .pointer (some ⟨N + h.sz, 0, none⟩)), (6, .pointer (some ⟨N + h2.sz, 0, none⟩))] (fun h' => h' = h5) ?_ ?_
    · have h5' : op = 4 ∨ op = 5 ∨ op = 6 ∨ op = 7 ∨ op = 8 := by omega
      clear hfac hT
      rcases h5' with rfl | rfl | rfl | rfl | rfl
      all_goals
        repeat first | refine qN ?_ | refine qM rfl ?_ | refine qA rfl ?_ | refine qS rfl ?_ | refine qL H b1 rfl ?_ | refine qT rfl ?_ | refine qF rfl ?_ | refine qI i (by omega) rfl ?_ | refine qI io (by omega) rfl ?_ | refine qP rfl ?_ | refine wQ ?_ | refine wR ?_ | refine wD ?_ | refine wN rfl ?_ | refine wS ?_ | refine wT rfl ?_ | refine wF rfl ?_
        exact ⟨(by repeat first | exact sub_nil | refine sub_cons rfl ?_), rfl, rfl⟩
    rintro h5 rfl
    repeat first | refine qN ?_ | refine qM rfl ?_ | refine qA rfl ?_ | refine qS rfl ?_ | refine qL H b1 rfl ?_ | refine qL H b2 rfl ?_ | refine qL H b3 rfl ?_ | refine qT rfl ?_ | refine qF rfl ?_ | refine qI i (by omega) rfl ?_ | refine qI io (by omega) rfl ?_ | refine qP rfl ?_ | refine wQ ?_ | refine wR ?_ | refine wD ?_ | refine wN rfl ?_ | refine wS ?_ | refine wT rfl ?_ | refine wF rfl ?_
    refine SpB.callK Tryz.T1OK H (by omega) (hI0 1 (by omega) h5 H) rfl rfl rfl rfl rfl ?_
    rintro v h6 ⟨r1, rfl, hr1⟩ g
    have H := g.hp H
    have b1 := g.keep l1 b1
    have l1 := g.lt l1
    have b2 := g.keep l2 b2
    have l2 := g.lt l2
    have b3 := g.keep l3 b3
    have l3 := g.lt l3
    cases r1 with
    | false =>
      repeat first | refine qN ?_ | refine qM rfl ?_ | refine qA rfl ?_ | refine qS rfl ?_ | refine qL H b1 rfl ?_ | refine qL H b2 rfl ?_ | refine qL H b3 rfl ?_ | refine qT rfl ?_ | refine qF rfl ?_ | refine qI i (by omega) rfl ?_ | refine qI io (by omega) rfl ?_ | refine qP rfl ?_ | refine wQ ?_ | refine wR ?_ | refine wD ?_ | refine wN rfl ?_ | refine wS ?_ | refine wT rfl ?_ | refine wF rfl ?_
      exact WpB.ret ⟨_, rfl, hm _⟩
    | true =>
      repeat first | refine qN ?_ | refine qM rfl ?_ | refine qA rfl ?_ | refine qS rfl ?_ | refine qL H b1 rfl ?_ | refine qL H b2 rfl ?_ | refine qL H b3 rfl ?_ | refine qT rfl ?_ | refine qF rfl ?_ | refine qI i (by omega) rfl ?_ | refine qI io (by omega) rfl ?_ | refine qP rfl ?_ | refine wQ ?_ | refine wR ?_ | refine wD ?_ | refine wN rfl ?_ | refine wS ?_ | refine wT rfl ?_ | refine wF rfl ?_
      refine SpB.callK Tryz.T1OK H (by omega) (hI1 1 (by omega) h6 H) rfl rfl rfl rfl rfl ?_
      rintro v h7 ⟨r2, rfl, hr2⟩ g
      have H := g.hp H
      have b1 := g.keep l1 b1
      have l1 := g.lt l1
      have b2 := g.keep l2 b2
      have l2 := g.lt l2
      cases r2 with
      | false =>
        repeat first | refine qN ?_ | refine qM rfl ?_ | refine qA rfl ?_ | refine qS rfl ?_ | refine qL H b1 rfl ?_ | refine qL H b2 rfl ?_ | refine qL H b3 rfl ?_ | refine qT rfl ?_ | refine qF rfl ?_ | refine qI i (by omega) rfl ?_ | refine qI io (by omega) rfl ?_ | refine qP rfl ?_ | refine wQ ?_ | refine wR ?_ | refine wD ?_ | refine wN rfl ?_ | refine wS ?_ | refine wT rfl ?_ | refine wF rfl ?_
        exact WpB.ret ⟨_, rfl, hm _⟩
      | true =>
        repeat first | refine qN ?_ | refine qM rfl ?_ | refine qA rfl ?_ | refine qS rfl ?_ | refine qL H b1 rfl ?_ | refine qL H b2 rfl ?_ | refine qL H b3 rfl ?_ | refine qT rfl ?_ | refine qF rfl ?_ | refine qI i (by omega) rfl ?_ | refine qI io (by omega) rfl ?_ | refine qP rfl ?_ | refine wQ ?_ | refine wR ?_ | refine wD ?_ | refine wN rfl ?_ | refine wS ?_ | refine wT rfl ?_ | refine wF rfl ?_
        refine SpB.callK Tryz.T1OK H (by omega) (hfac h7 H hA (hr2 rfl)) rfl rfl rfl rfl rfl ?_
        rintro v h8 ⟨r3, rfl, hr3⟩ g
        cases r3 with
        | false =>
          repeat first | refine qN ?_ | refine qM rfl ?_ | refine qA rfl ?_ | refine qS rfl ?_ | refine qL H b1 rfl ?_ | refine qL H b2 rfl ?_ | refine qL H b3 rfl ?_ | refine qT rfl ?_ | refine qF rfl ?_ | refine qI i (by omega) rfl ?_ | refine qI io (by omega) rfl ?_ | refine qP rfl ?_ | refine wQ ?_ | refine wR ?_ | refine wD ?_ | refine wN rfl ?_ | refine wS ?_ | refine wT rfl ?_ | refine wF rfl ?_
          exact WpB.ret ⟨_, rfl, hm _⟩
        | true =>
          repeat first | refine qN ?_ | refine qM rfl ?_ | refine qA rfl ?_ | refine qS rfl ?_ | refine qL H b1 rfl ?_ | refine qL H b2 rfl ?_ | refine qL H b3 rfl ?_ | refine qT rfl ?_ | refine qF rfl ?_ | refine qI i (by omega) rfl ?_ | refine qI io (by omega) rfl ?_ | refine qP rfl ?_ | refine wQ ?_ | refine wR ?_ | refine wD ?_ | refine wN rfl ?_ | refine wS ?_ | refine wT rfl ?_ | refine wF rfl ?_
          exact WpB.ret ⟨_, rfl, hT 1 (.inr (.inr (.inr (.inr (.inl ⟨hA, rfl, rfl, hr1 rfl, hr2 rfl, hr3 rfl⟩)))))⟩
  have a4 : op ≠ 4 := by omega
  have a5 : op ≠ 5 := by omega
  have a6 : op ≠ 6 := by omega
  have a7 : op ≠ 7 := by omega
  have a8 : op ≠ 8 := by omega
  refine WpB.cut [(82, .bool false), (81, .int .i64 op), (1, l.v), (2, .pointer (some ⟨N + h0.sz, 0, none⟩)), (5, .pointer (some ⟨N + h.sz, 0, none⟩)), (6, .pointer (some ⟨N + h2.sz, 0, none⟩))] (fun h' => h' = h5) ?_ ?_
  · repeat first | refine WpB.seq ?_ | refine WpB.region ?_
    refine SpB.boolF (by simp [a4]) rfl rfl rfl rfl rfl ?_
    repeat first | refine qN ?_ | refine qM rfl ?_ | refine qA rfl ?_ | refine qS rfl ?_ | refine qL H b1 rfl ?_ | refine qT rfl ?_ | refine qF rfl ?_ | refine qI i (by omega) rfl ?_ | refine qI io (by omega) rfl ?_ | refine qP rfl ?_ | refine wQ ?_ | refine wR ?_ | refine wD ?_ | refine wN rfl ?_ | refine wS ?_ | refine wT rfl ?_ | refine wF rfl ?_
    refine WpB.cond rfl (fun ht => absurd (by simpa using ht) a5) fun _ => ?_
    repeat first | refine qN ?_ | refine qM rfl ?_ | refine qA rfl ?_ | refine qS rfl ?_ | refine qL H b1 rfl ?_ | refine qT rfl ?_ | refine qF rfl ?_ | refine qI i (by omega) rfl ?_ | refine qI io (by omega) rfl ?_ | refine qP rfl ?_ | refine wQ ?_ | refine wR ?_ | refine wD ?_ | refine wN rfl ?_ | refine wS ?_ | refine wT rfl ?_ | refine wF rfl ?_
    refine WpB.cond rfl (fun ht => absurd (by simpa using ht) a6) fun _ => ?_
    repeat first | refine qN ?_ | refine qM rfl ?_ | refine qA rfl ?_ | refine qS rfl ?_ | refine qL H b1 rfl ?_ | refine qT rfl ?_ | refine qF rfl ?_ | refine qI i (by omega) rfl ?_ | refine qI io (by omega) rfl ?_ | refine qP rfl ?_ | refine wQ ?_ | refine wR ?_ | refine wD ?_ | refine wN rfl ?_ | refine wS ?_ | refine wT rfl ?_ | refine wF rfl ?_
    refine WpB.cond rfl (fun ht => absurd (by simpa using ht) a7) fun _ => ?_
    repeat first | refine qN ?_ | refine qM rfl ?_ | refine qA rfl ?_ | refine qS rfl ?_ | refine qL H b1 rfl ?_ | refine qT rfl ?_ | refine qF rfl ?_ | refine qI i (by omega) rfl ?_ | refine qI io (by omega) rfl ?_ | refine qP rfl ?_ | refine wQ ?_ | refine wR ?_ | refine wD ?_ | refine wN rfl ?_ | refine wS ?_ | refine wT rfl ?_ | refine wF rfl ?_
    refine ⟨sub_cons (by show some (Value.bool (op == 8)) = some (Value.bool false); rw [show (op == 8) = false by simpa using a8]) (by repeat first | exact sub_nil | refine sub_cons rfl ?_), rfl, rfl⟩
  rintro h5 rfl
  refine WpB.condF rfl ?_
  by_cases hB : 10 ≤ op ∧ op ≤ 15
  · refine WpB.cut [(101, .bool true), (81, .int .i64 op), (1, l.v), (2, .pointer (some ⟨N + h0.sz, 0, none⟩)), (5, .pointer (some ⟨N + h.sz, 0, none⟩)), (6, .pointer (some ⟨N + h2.sz, 0, none⟩))] (fun h' => h' = h5) ?_ ?_
    · have h5' : op = 10 ∨ op = 11 ∨ op = 12 ∨ op = 13 ∨ op = 14 ∨ op = 15 := by omega
      clear hfac hT
      rcases h5' with rfl | rfl | rfl | rfl | rfl | rfl
      all_goals
        repeat first | refine qN ?_ | refine qM rfl ?_ | refine qA rfl ?_ | refine qS rfl ?_ | refine qL H b1 rfl ?_ | refine qT rfl ?_ | refine qF rfl ?_ | refine qI i (by omega) rfl ?_ | refine qI io (by omega) rfl ?_ | refine qP rfl ?_ | refine wQ ?_ | refine wR ?_ | refine wD ?_ | refine wN rfl ?_ | refine wS ?_ | refine wT rfl ?_ | refine wF rfl ?_
        exact ⟨(by repeat first | exact sub_nil | refine sub_cons rfl ?_), rfl, rfl⟩
    rintro h5 rfl
    have hTB : ((((kid 0).Ty l.lt l.n 0 ∨ (kid 0).Ty l.lt l.n 1) ∧ ((kid 1).Ty l.lt l.n 0 ∨ (kid 1).Ty l.lt l.n 1)) ∨ (((kid 0).Ty l.lt l.n 0 ∨ (kid 0).Ty l.lt l.n 2) ∧ ((kid 1).Ty l.lt l.n 0 ∨ (kid 1).Ty l.lt l.n 2))) → _ := fun h => hT 3 (.inr (.inr (.inr (.inr (.inr (.inl ⟨hB, rfl, rfl, h⟩))))))
    repeat first | refine qN ?_ | refine qM rfl ?_ | refine qA rfl ?_ | refine qS rfl ?_ | refine qL H b1 rfl ?_ | refine qL H b2 rfl ?_ | refine qL H b3 rfl ?_ | refine qT rfl ?_ | refine qF rfl ?_ | refine qI i (by omega) rfl ?_ | refine qI io (by omega) rfl ?_ | refine qP rfl ?_ | refine wQ ?_ | refine wR ?_ | refine wD ?_ | refine wN rfl ?_ | refine wS ?_ | refine wT rfl ?_ | refine wF rfl ?_
    refine SpB.callK Tryz.T1OK H (by omega) (hI0 1 (by omega) h5 H) rfl rfl rfl rfl rfl ?_
    rintro v h6 ⟨r1, rfl, hr1⟩ g
    have H := g.hp H
    have b1 := g.keep l1 b1
    have l1 := g.lt l1
    have b2 := g.keep l2 b2
    have l2 := g.lt l2
    have b3 := g.keep l3 b3
    have l3 := g.lt l3
    cases r1 with
    | false =>
      repeat first | refine qN ?_ | refine qM rfl ?_ | refine qA rfl ?_ | refine qS rfl ?_ | refine qL H b1 rfl ?_ | refine qL H b2 rfl ?_ | refine qL H b3 rfl ?_ | refine qT rfl ?_ | refine qF rfl ?_ | refine qI i (by omega) rfl ?_ | refine qI io (by omega) rfl ?_ | refine qP rfl ?_ | refine wQ ?_ | refine wR ?_ | refine wD ?_ | refine wN rfl ?_ | refine wS ?_ | refine wT rfl ?_ | refine wF rfl ?_
      refine SpB.callK Tryz.T1OK H (by omega) (hI0 2 (by omega) h6 H) rfl rfl rfl rfl rfl ?_
      rintro v h7 ⟨r3, rfl, hr3⟩ g
      have H := g.hp H
      have b1 := g.keep l1 b1
      have l1 := g.lt l1
      have b2 := g.keep l2 b2
      have l2 := g.lt l2
      have b3 := g.keep l3 b3
      have l3 := g.lt l3
      cases r3 with
      | false =>
        repeat first | refine qN ?_ | refine qM rfl ?_ | refine qA rfl ?_ | refine qS rfl ?_ | refine qL H b1 rfl ?_ | refine qL H b2 rfl ?_ | refine qL H b3 rfl ?_ | refine qT rfl ?_ | refine qF rfl ?_ | refine qI i (by omega) rfl ?_ | refine qI io (by omega) rfl ?_ | refine qP rfl ?_ | refine wQ ?_ | refine wR ?_ | refine wD ?_ | refine wN rfl ?_ | refine wS ?_ | refine wT rfl ?_ | refine wF rfl ?_
        exact WpB.ret ⟨_, rfl, hm _⟩
      | true =>
        repeat first | refine qN ?_ | refine qM rfl ?_ | refine qA rfl ?_ | refine qS rfl ?_ | refine qL H b1 rfl ?_ | refine qL H b2 rfl ?_ | refine qL H b3 rfl ?_ | refine qT rfl ?_ | refine qF rfl ?_ | refine qI i (by omega) rfl ?_ | refine qI io (by omega) rfl ?_ | refine qP rfl ?_ | refine wQ ?_ | refine wR ?_ | refine wD ?_ | refine wN rfl ?_ | refine wS ?_ | refine wT rfl ?_ | refine wF rfl ?_
        refine SpB.callK Tryz.T1OK H (by omega) (hI1 2 (by omega) h7 H) rfl rfl rfl rfl rfl ?_
        rintro v h8 ⟨r4, rfl, hr4⟩ g
        cases r4 with
        | false =>
          repeat first | refine qN ?_ | refine qM rfl ?_ | refine qA rfl ?_ | refine qS rfl ?_ | refine qL H b1 rfl ?_ | refine qL H b2 rfl ?_ | refine qL H b3 rfl ?_ | refine qT rfl ?_ | refine qF rfl ?_ | refine qI i (by omega) rfl ?_ | refine qI io (by omega) rfl ?_ | refine qP rfl ?_ | refine wQ ?_ | refine wR ?_ | refine wD ?_ | refine wN rfl ?_ | refine wS ?_ | refine wT rfl ?_ | refine wF rfl ?_
          exact WpB.ret ⟨_, rfl, hm _⟩
        | true =>
          repeat first | refine qN ?_ | refine qM rfl ?_ | refine qA rfl ?_ | refine qS rfl ?_ | refine qL H b1 rfl ?_ | refine qL H b2 rfl ?_ | refine qL H b3 rfl ?_ | refine qT rfl ?_ | refine qF rfl ?_ | refine qI i (by omega) rfl ?_ | refine qI io (by omega) rfl ?_ | refine qP rfl ?_ | refine wQ ?_ | refine wR ?_ | refine wD ?_ | refine wN rfl ?_ | refine wS ?_ | refine wT rfl ?_ | refine wF rfl ?_
          exact WpB.ret ⟨_, rfl, hTB (.inr ⟨hr3 rfl, hr4 rfl⟩)⟩
    | true =>
      repeat first | refine qN ?_ | refine qM rfl ?_ | refine qA rfl ?_ | refine qS rfl ?_ | refine qL H b1 rfl ?_ | refine qL H b2 rfl ?_ | refine qL H b3 rfl ?_ | refine qT rfl ?_ | refine qF rfl ?_ | refine qI i (by omega) rfl ?_ | refine qI io (by omega) rfl ?_ | refine qP rfl ?_ | refine wQ ?_ | refine wR ?_ | refine wD ?_ | refine wN rfl ?_ | refine wS ?_ | refine wT rfl ?_ | refine wF rfl ?_
      refine SpB.callK Tryz.T1OK H (by omega) (hI1 1 (by omega) h6 H) rfl rfl rfl rfl rfl ?_
      rintro v h7 ⟨r2, rfl, hr2⟩ g
      have H := g.hp H
      have b1 := g.keep l1 b1
      have l1 := g.lt l1
      have b2 := g.keep l2 b2
      have l2 := g.lt l2
      have b3 := g.keep l3 b3
      have l3 := g.lt l3
      cases r2 with
      | true =>
        repeat first | refine qN ?_ | refine qM rfl ?_ | refine qA rfl ?_ | refine qS rfl ?_ | refine qL H b1 rfl ?_ | refine qL H b2 rfl ?_ | refine qL H b3 rfl ?_ | refine qT rfl ?_ | refine qF rfl ?_ | refine qI i (by omega) rfl ?_ | refine qI io (by omega) rfl ?_ | refine qP rfl ?_ | refine wQ ?_ | refine wR ?_ | refine wD ?_ | refine wN rfl ?_ | refine wS ?_ | refine wT rfl ?_ | refine wF rfl ?_
        exact WpB.ret ⟨_, rfl, hTB (.inl ⟨hr1 rfl, hr2 rfl⟩)⟩
      | false =>
        repeat first | refine qN ?_ | refine qM rfl ?_ | refine qA rfl ?_ | refine qS rfl ?_ | refine qL H b1 rfl ?_ | refine qL H b2 rfl ?_ | refine qL H b3 rfl ?_ | refine qT rfl ?_ | refine qF rfl ?_ | refine qI i (by omega) rfl ?_ | refine qI io (by omega) rfl ?_ | refine qP rfl ?_ | refine wQ ?_ | refine wR ?_ | refine wD ?_ | refine wN rfl ?_ | refine wS ?_ | refine wT rfl ?_ | refine wF rfl ?_
        refine SpB.callK Tryz.T1OK H (by omega) (hI0 2 (by omega) h7 H) rfl rfl rfl rfl rfl ?_
        rintro v h8 ⟨r3, rfl, hr3⟩ g
        have H := g.hp H
        have b1 := g.keep l1 b1
        have l1 := g.lt l1
        have b2 := g.keep l2 b2
        have l2 := g.lt l2
        have b3 := g.keep l3 b3
        have l3 := g.lt l3
        cases r3 with
        | false =>
          repeat first | refine qN ?_ | refine qM rfl ?_ | refine qA rfl ?_ | refine qS rfl ?_ | refine qL H b1 rfl ?_ | refine qL H b2 rfl ?_ | refine qL H b3 rfl ?_ | refine qT rfl ?_ | refine qF rfl ?_ | refine qI i (by omega) rfl ?_ | refine qI io (by omega) rfl ?_ | refine qP rfl ?_ | refine wQ ?_ | refine wR ?_ | refine wD ?_ | refine wN rfl ?_ | refine wS ?_ | refine wT rfl ?_ | refine wF rfl ?_
          exact WpB.ret ⟨_, rfl, hm _⟩
        | true =>
          repeat first | refine qN ?_ | refine qM rfl ?_ | refine qA rfl ?_ | refine qS rfl ?_ | refine qL H b1 rfl ?_ | refine qL H b2 rfl ?_ | refine qL H b3 rfl ?_ | refine qT rfl ?_ | refine qF rfl ?_ | refine qI i (by omega) rfl ?_ | refine qI io (by omega) rfl ?_ | refine qP rfl ?_ | refine wQ ?_ | refine wR ?_ | refine wD ?_ | refine wN rfl ?_ | refine wS ?_ | refine wT rfl ?_ | refine wF rfl ?_
          refine SpB.callK Tryz.T1OK H (by omega) (hI1 2 (by omega) h8 H) rfl rfl rfl rfl rfl ?_
          rintro v h9 ⟨r4, rfl, hr4⟩ g
          cases r4 with
          | false =>
            repeat first | refine qN ?_ | refine qM rfl ?_ | refine qA rfl ?_ | refine qS rfl ?_ | refine qL H b1 rfl ?_ | refine qL H b2 rfl ?_ | refine qL H b3 rfl ?_ | refine qT rfl ?_ | refine qF rfl ?_ | refine qI i (by omega) rfl ?_ | refine qI io (by omega) rfl ?_ | refine qP rfl ?_ | refine wQ ?_ | refine wR ?_ | refine wD ?_ | refine wN rfl ?_ | refine wS ?_ | refine wT rfl ?_ | refine wF rfl ?_
            exact WpB.ret ⟨_, rfl, hm _⟩
          | true =>
            repeat first | refine qN ?_ | refine qM rfl ?_ | refine qA rfl ?_ | refine qS rfl ?_ | refine qL H b1 rfl ?_ | refine qL H b2 rfl ?_ | refine qL H b3 rfl ?_ | refine qT rfl ?_ | refine qF rfl ?_ | refine qI i (by omega) rfl ?_ | refine qI io (by omega) rfl ?_ | refine qP rfl ?_ | refine wQ ?_ | refine wR ?_ | refine wD ?_ | refine wN rfl ?_ | refine wS ?_ | refine wT rfl ?_ | refine wF rfl ?_
            exact WpB.ret ⟨_, rfl, hTB (.inr ⟨hr3 rfl, hr4 rfl⟩)⟩
  have a10 : op ≠ 10 := by omega
  have a11 : op ≠ 11 := by omega
  have a12 : op ≠ 12 := by omega
  have a13 : op ≠ 13 := by omega
  have a14 : op ≠ 14 := by omega
  have a15 : op ≠ 15 := by omega
  refine WpB.cut [(101, .bool false), (81, .int .i64 op), (1, l.v), (2, .pointer (some ⟨N + h0.sz, 0, none⟩)), (5, .pointer (some ⟨N + h.sz, 0, none⟩)), (6, .pointer (some ⟨N + h2.sz, 0, none⟩))] (fun h' => h' = h5) ?_ ?_
  · repeat first | refine qN ?_ | refine qM rfl ?_ | refine qA rfl ?_ | refine qS rfl ?_ | refine qL H b1 rfl ?_ | refine qT rfl ?_ | refine qF rfl ?_ | refine qI i (by omega) rfl ?_ | refine qI io (by omega) rfl ?_ | refine qP rfl ?_ | refine wQ ?_ | refine wR ?_ | refine wD ?_ | refine wN rfl ?_ | refine wS ?_ | refine wT rfl ?_ | refine wF rfl ?_
    refine WpB.cond rfl (fun ht => absurd (by simpa using ht) a10) fun _ => ?_
    repeat first | refine qN ?_ | refine qM rfl ?_ | refine qA rfl ?_ | refine qS rfl ?_ | refine qL H b1 rfl ?_ | refine qT rfl ?_ | refine qF rfl ?_ | refine qI i (by omega) rfl ?_ | refine qI io (by omega) rfl ?_ | refine qP rfl ?_ | refine wQ ?_ | refine wR ?_ | refine wD ?_ | refine wN rfl ?_ | refine wS ?_ | refine wT rfl ?_ | refine wF rfl ?_
    refine WpB.cond rfl (fun ht => absurd (by simpa using ht) a11) fun _ => ?_
    repeat first | refine qN ?_ | refine qM rfl ?_ | refine qA rfl ?_ | refine qS rfl ?_ | refine qL H b1 rfl ?_ | refine qT rfl ?_ | refine qF rfl ?_ | refine qI i (by omega) rfl ?_ | refine qI io (by omega) rfl ?_ | refine qP rfl ?_ | refine wQ ?_ | refine wR ?_ | refine wD ?_ | refine wN rfl ?_ | refine wS ?_ | refine wT rfl ?_ | refine wF rfl ?_
    refine WpB.cond rfl (fun ht => absurd (by simpa using ht) a12) fun _ => ?_
    repeat first | refine qN ?_ | refine qM rfl ?_ | refine qA rfl ?_ | refine qS rfl ?_ | refine qL H b1 rfl ?_ | refine qT rfl ?_ | refine qF rfl ?_ | refine qI i (by omega) rfl ?_ | refine qI io (by omega) rfl ?_ | refine qP rfl ?_ | refine wQ ?_ | refine wR ?_ | refine wD ?_ | refine wN rfl ?_ | refine wS ?_ | refine wT rfl ?_ | refine wF rfl ?_
    refine WpB.cond rfl (fun ht => absurd (by simpa using ht) a13) fun _ => ?_
    repeat first | refine qN ?_ | refine qM rfl ?_ | refine qA rfl ?_ | refine qS rfl ?_ | refine qL H b1 rfl ?_ | refine qT rfl ?_ | refine qF rfl ?_ | refine qI i (by omega) rfl ?_ | refine qI io (by omega) rfl ?_ | refine qP rfl ?_ | refine wQ ?_ | refine wR ?_ | refine wD ?_ | refine wN rfl ?_ | refine wS ?_ | refine wT rfl ?_ | refine wF rfl ?_
    refine WpB.cond rfl (fun ht => absurd (by simpa using ht) a14) fun _ => ?_
    repeat first | refine qN ?_ | refine qM rfl ?_ | refine qA rfl ?_ | refine qS rfl ?_ | refine qL H b1 rfl ?_ | refine qT rfl ?_ | refine qF rfl ?_ | refine qI i (by omega) rfl ?_ | refine qI io (by omega) rfl ?_ | refine qP rfl ?_ | refine wQ ?_ | refine wR ?_ | refine wD ?_ | refine wN rfl ?_ | refine wS ?_ | refine wT rfl ?_ | refine wF rfl ?_
    refine ⟨sub_cons (by show some (Value.bool (op == 15)) = some (Value.bool false); rw [show (op == 15) = false by simpa using a15]) (by repeat first | exact sub_nil | refine sub_cons rfl ?_), rfl, rfl⟩
  rintro h5 rfl
  refine WpB.condF rfl ?_
  repeat first | refine qN ?_ | refine qM rfl ?_ | refine qA rfl ?_ | refine qS rfl ?_ | refine qL H b1 rfl ?_ | refine qT rfl ?_ | refine qF rfl ?_ | refine qI i (by omega) rfl ?_ | refine qI io (by omega) rfl ?_ | refine qP rfl ?_ | refine wQ ?_ | refine wR ?_ | refine wD ?_ | refine wN rfl ?_ | refine wS ?_ | refine wT rfl ?_ | refine wF rfl ?_
  refine WpB.cond rfl (fun ht => ?_) fun ht => ?_
  · have e16 : op = 16 := by simpa using ht
    repeat first | refine qN ?_ | refine qM rfl ?_ | refine qA rfl ?_ | refine qS rfl ?_ | refine qL H b1 rfl ?_ | refine qL H b2 rfl ?_ | refine qL H b3 rfl ?_ | refine qT rfl ?_ | refine qF rfl ?_ | refine qI i (by omega) rfl ?_ | refine qI io (by omega) rfl ?_ | refine qP rfl ?_ | refine wQ ?_ | refine wR ?_ | refine wD ?_ | refine wN rfl ?_ | refine wS ?_ | refine wT rfl ?_ | refine wF rfl ?_
    refine SpB.callK Tryz.T1OK H (by omega) (hI0 2 (by omega) h5 H) rfl rfl rfl rfl rfl ?_
    rintro v h6 ⟨r1, rfl, hr1⟩ g
    have H := g.hp H
    have b1 := g.keep l1 b1
    have l1 := g.lt l1
    have b2 := g.keep l2 b2
    have l2 := g.lt l2
    have b3 := g.keep l3 b3
    have l3 := g.lt l3
    cases r1 with
    | false =>
      repeat first | refine qN ?_ | refine qM rfl ?_ | refine qA rfl ?_ | refine qS rfl ?_ | refine qL H b1 rfl ?_ | refine qL H b2 rfl ?_ | refine qL H b3 rfl ?_ | refine qT rfl ?_ | refine qF rfl ?_ | refine qI i (by omega) rfl ?_ | refine qI io (by omega) rfl ?_ | refine qP rfl ?_ | refine wQ ?_ | refine wR ?_ | refine wD ?_ | refine wN rfl ?_ | refine wS ?_ | refine wT rfl ?_ | refine wF rfl ?_
      exact WpB.ret ⟨_, rfl, hm _⟩
    | true =>
      repeat first | refine qN ?_ | refine qM rfl ?_ | refine qA rfl ?_ | refine qS rfl ?_ | refine qL H b1 rfl ?_ | refine qL H b2 rfl ?_ | refine qL H b3 rfl ?_ | refine qT rfl ?_ | refine qF rfl ?_ | refine qI i (by omega) rfl ?_ | refine qI io (by omega) rfl ?_ | refine qP rfl ?_ | refine wQ ?_ | refine wR ?_ | refine wD ?_ | refine wN rfl ?_ | refine wS ?_ | refine wT rfl ?_ | refine wF rfl ?_
      refine qB rfl (fun c1 => ?_) fun c1 => ?_
      · repeat first | refine qN ?_ | refine qM rfl ?_ | refine qA rfl ?_ | refine qS rfl ?_ | refine qL H b1 rfl ?_ | refine qL H b2 rfl ?_ | refine qL H b3 rfl ?_ | refine qT rfl ?_ | refine qF rfl ?_ | refine qI i (by omega) rfl ?_ | refine qI io (by omega) rfl ?_ | refine qP rfl ?_ | refine wQ ?_ | refine wR ?_ | refine wD ?_ | refine wN rfl ?_ | refine wS ?_ | refine wT rfl ?_ | refine wF rfl ?_
        refine SpB.callK Tryz.T1OK H (by omega) (hT1 h6 H) rfl rfl rfl rfl rfl ?_
        rintro v h7 ⟨t, rfl, ht'⟩ g
        repeat first | refine qN ?_ | refine qM rfl ?_ | refine qA rfl ?_ | refine qS rfl ?_ | refine qL H b1 rfl ?_ | refine qT rfl ?_ | refine qF rfl ?_ | refine qI i (by omega) rfl ?_ | refine qI io (by omega) rfl ?_ | refine qP rfl ?_ | refine wQ ?_ | refine wR ?_ | refine wD ?_ | refine wN rfl ?_ | refine wS ?_
        refine WpB.cond rfl (fun ht2 => ?_) fun ht2 => ?_
        · have ht2 : t = 2 := by simpa using ht2
          subst ht2
          repeat first | refine qN ?_ | refine qM rfl ?_ | refine qA rfl ?_ | refine qS rfl ?_ | refine qL H b1 rfl ?_ | refine qL H b2 rfl ?_ | refine qL H b3 rfl ?_ | refine qT rfl ?_ | refine qF rfl ?_ | refine qI i (by omega) rfl ?_ | refine qI io (by omega) rfl ?_ | refine qP rfl ?_ | refine wQ ?_ | refine wR ?_ | refine wD ?_ | refine wN rfl ?_ | refine wS ?_ | refine wT rfl ?_ | refine wF rfl ?_
          exact WpB.ret ⟨_, rfl, hT 3 (.inr (.inr (.inr (.inr (.inr (.inr (.inl ⟨e16, rfl, rfl, hr1 rfl, ht'.resolve_left (by omega)⟩)))))))⟩
        · repeat first | refine qN ?_ | refine qM rfl ?_ | refine qA rfl ?_ | refine qS rfl ?_ | refine qL H b1 rfl ?_ | refine qL H b2 rfl ?_ | refine qL H b3 rfl ?_ | refine qT rfl ?_ | refine qF rfl ?_ | refine qI i (by omega) rfl ?_ | refine qI io (by omega) rfl ?_ | refine qP rfl ?_ | refine wQ ?_ | refine wR ?_ | refine wD ?_ | refine wN rfl ?_ | refine wS ?_ | refine wT rfl ?_ | refine wF rfl ?_
          exact WpB.ret ⟨_, rfl, hm _⟩
      · repeat first | refine qN ?_ | refine qM rfl ?_ | refine qA rfl ?_ | refine qS rfl ?_ | refine qL H b1 rfl ?_ | refine qL H b2 rfl ?_ | refine qL H b3 rfl ?_ | refine qT rfl ?_ | refine qF rfl ?_ | refine qI i (by omega) rfl ?_ | refine qI io (by omega) rfl ?_ | refine qP rfl ?_ | refine wQ ?_ | refine wR ?_ | refine wD ?_ | refine wN rfl ?_ | refine wS ?_ | refine wT rfl ?_ | refine wF rfl ?_
        exact WpB.ret ⟨_, rfl, hm _⟩
  have e16 : op ≠ 16 := by simpa using ht
  by_cases hD : op = 18 ∨ op = 19
  · refine WpB.cut [(142, .bool true), (81, .int .i64 op), (1, l.v), (2, .pointer (some ⟨N + h0.sz, 0, none⟩)), (5, .pointer (some ⟨N + h.sz, 0, none⟩)), (6, .pointer (some ⟨N + h2.sz, 0, none⟩))] (fun h' => h' = h5) ?_ ?_
    · clear hfac hT
      rcases hD with rfl | rfl
      all_goals
        repeat first | refine qN ?_ | refine qM rfl ?_ | refine qA rfl ?_ | refine qS rfl ?_ | refine qL H b1 rfl ?_ | refine qT rfl ?_ | refine qF rfl ?_ | refine qI i (by omega) rfl ?_ | refine qI io (by omega) rfl ?_ | refine qP rfl ?_ | refine wQ ?_ | refine wR ?_ | refine wD ?_ | refine wN rfl ?_ | refine wS ?_ | refine wT rfl ?_ | refine wF rfl ?_
        exact ⟨(by repeat first | exact sub_nil | refine sub_cons rfl ?_), rfl, rfl⟩
    rintro h5 rfl
    repeat first | refine qN ?_ | refine qM rfl ?_ | refine qA rfl ?_ | refine qS rfl ?_ | refine qL H b1 rfl ?_ | refine qL H b2 rfl ?_ | refine qL H b3 rfl ?_ | refine qT rfl ?_ | refine qF rfl ?_ | refine qI i (by omega) rfl ?_ | refine qI io (by omega) rfl ?_ | refine qP rfl ?_ | refine wQ ?_ | refine wR ?_ | refine wD ?_ | refine wN rfl ?_ | refine wS ?_ | refine wT rfl ?_ | refine wF rfl ?_
    refine SpB.callK Tryz.T1OK H (by omega) (hI0 3 (by omega) h5 H) rfl rfl rfl rfl rfl ?_
    rintro v h6 ⟨r1, rfl, hr1⟩ g
    have H := g.hp H
    have b1 := g.keep l1 b1
    have l1 := g.lt l1
    have b2 := g.keep l2 b2
    have l2 := g.lt l2
    have b3 := g.keep l3 b3
    have l3 := g.lt l3
    cases r1 with
    | false =>
      repeat first | refine qN ?_ | refine qM rfl ?_ | refine qA rfl ?_ | refine qS rfl ?_ | refine qL H b1 rfl ?_ | refine qL H b2 rfl ?_ | refine qL H b3 rfl ?_ | refine qT rfl ?_ | refine qF rfl ?_ | refine qI i (by omega) rfl ?_ | refine qI io (by omega) rfl ?_ | refine qP rfl ?_ | refine wQ ?_ | refine wR ?_ | refine wD ?_ | refine wN rfl ?_ | refine wS ?_ | refine wT rfl ?_ | refine wF rfl ?_
      exact WpB.ret ⟨_, rfl, hm _⟩
    | true =>
      repeat first | refine qN ?_ | refine qM rfl ?_ | refine qA rfl ?_ | refine qS rfl ?_ | refine qL H b1 rfl ?_ | refine qL H b2 rfl ?_ | refine qL H b3 rfl ?_ | refine qT rfl ?_ | refine qF rfl ?_ | refine qI i (by omega) rfl ?_ | refine qI io (by omega) rfl ?_ | refine qP rfl ?_ | refine wQ ?_ | refine wR ?_ | refine wD ?_ | refine wN rfl ?_ | refine wS ?_ | refine wT rfl ?_ | refine wF rfl ?_
      refine SpB.callK Tryz.T1OK H (by omega) (hI1 3 (by omega) h6 H) rfl rfl rfl rfl rfl ?_
      rintro v h7 ⟨r2, rfl, hr2⟩ g
      cases r2 with
      | false =>
        repeat first | refine qN ?_ | refine qM rfl ?_ | refine qA rfl ?_ | refine qS rfl ?_ | refine qL H b1 rfl ?_ | refine qL H b2 rfl ?_ | refine qL H b3 rfl ?_ | refine qT rfl ?_ | refine qF rfl ?_ | refine qI i (by omega) rfl ?_ | refine qI io (by omega) rfl ?_ | refine qP rfl ?_ | refine wQ ?_ | refine wR ?_ | refine wD ?_ | refine wN rfl ?_ | refine wS ?_ | refine wT rfl ?_ | refine wF rfl ?_
        exact WpB.ret ⟨_, rfl, hm _⟩
      | true =>
        repeat first | refine qN ?_ | refine qM rfl ?_ | refine qA rfl ?_ | refine qS rfl ?_ | refine qL H b1 rfl ?_ | refine qL H b2 rfl ?_ | refine qL H b3 rfl ?_ | refine qT rfl ?_ | refine qF rfl ?_ | refine qI i (by omega) rfl ?_ | refine qI io (by omega) rfl ?_ | refine qP rfl ?_ | refine wQ ?_ | refine wR ?_ | refine wD ?_ | refine wN rfl ?_ | refine wS ?_ | refine wT rfl ?_ | refine wF rfl ?_
        exact WpB.ret ⟨_, rfl, hT 3 (.inr (.inr (.inr (.inr (.inr (.inr (.inr (.inr (.inl ⟨hD, rfl, rfl, hr1 rfl, hr2 rfl⟩)))))))))⟩
  have a18 : op ≠ 18 := fun h => hD (.inl h)
  have a19 : op ≠ 19 := fun h => hD (.inr h)
  repeat first | refine qN ?_ | refine qM rfl ?_ | refine qA rfl ?_ | refine qS rfl ?_ | refine qL H b1 rfl ?_ | refine qT rfl ?_ | refine qF rfl ?_ | refine qI i (by omega) rfl ?_ | refine qI io (by omega) rfl ?_ | refine qP rfl ?_ | refine wQ ?_ | refine wR ?_ | refine wD ?_ | refine wN rfl ?_ | refine wS ?_ | refine wT rfl ?_ | refine wF rfl ?_
  refine WpB.cond rfl (fun ht => absurd (by simpa using ht) a18) fun _ => ?_
  repeat first | refine qN ?_ | refine qM rfl ?_ | refine qA rfl ?_ | refine qS rfl ?_ | refine qL H b1 rfl ?_ | refine qT rfl ?_ | refine qF rfl ?_ | refine qI i (by omega) rfl ?_ | refine qI io (by omega) rfl ?_ | refine qP rfl ?_ | refine wQ ?_ | refine wR ?_ | refine wD ?_ | refine wN rfl ?_ | refine wS ?_ | refine wT rfl ?_ | refine wF rfl ?_
  refine WpB.cond rfl (fun ht => absurd (by simpa using ht) a19) fun _ => ?_
  repeat first | refine qN ?_ | refine qM rfl ?_ | refine qA rfl ?_ | refine qS rfl ?_ | refine qL H b1 rfl ?_ | refine qT rfl ?_ | refine qF rfl ?_ | refine qI i (by omega) rfl ?_ | refine qI io (by omega) rfl ?_ | refine qP rfl ?_ | refine wQ ?_ | refine wR ?_ | refine wD ?_ | refine wN rfl ?_ | refine wS ?_ | refine wT rfl ?_ | refine wF rfl ?_
  exact WpB.ret ⟨_, rfl, hm _⟩

set_option maxHeartbeats 1600000 in
theorem type_ok {N lim : Nat} {rd : RO} (l : Sl Vr) (hl : l.At rd 5 Vr.cells fun _ => True) : ∀ (e : E) (h : AH), Hp N lim rd h → e.At rd → Kp TT 100 [.agg ⟨e.cells⟩, l.v] h (TyR l e)
  | .nil, h, _, he => he.elim
  | .mk op tb nm ix vk vi vt sl n kid, h0, H, he => by
    obtain ⟨_, ⟨_, _, ht3⟩, hn, ⟨a, cap, rfl, _, _, hx⟩, hk⟩ := he
    have hI := fun i (hi : i < n) t0 ht0 (h : AH) (H : Hp N lim rd h) => is_of l (kid i) (hk i hi) (fun h H => type_ok l hl (kid i) h H (hk i hi)) t0 ht0 h H
    have hm : ∀ (e : E), (∃ t, Value.int .i64 (-1) = .int .i64 t ∧ (t = -1 ∨ e.Ty l.lt l.n t)) ∧ h0.sz ≤ h0.sz := fun e => ⟨⟨-1, rfl, .inl rfl⟩, Nat.le_refl _⟩
    have hreach : reachBytes < 2 ^ 47 := by decide
    by_cases e1 : op = 1
    · subst e1
      refine Kp.of (fi := Tryz.fi100) rfl rfl rfl ?_
      refine WpB.seq (WpB.region ?_)
      refine SpB.box H rfl rfl rfl rfl rfl rfl fun h g s1 b1 => ?_
      have hle := H.le
      have H := g.hp H
      have l1 : h0.sz < h.sz := by omega
      clear g s1
      repeat first | refine qN ?_ | refine qM rfl ?_ | refine qA rfl ?_ | refine qS rfl ?_ | refine qL H b1 rfl ?_ | refine qT rfl ?_ | refine qF rfl ?_ | refine qI i (by omega) rfl ?_ | refine qI io (by omega) rfl ?_ | refine qP rfl ?_ | refine wQ ?_ | refine wR ?_ | refine wD ?_ | refine wN rfl ?_ | refine wS ?_
      refine WpB.block ?_
      repeat first | refine qN ?_ | refine qM rfl ?_ | refine qA rfl ?_ | refine qS rfl ?_ | refine qL H b1 rfl ?_ | refine qT rfl ?_ | refine qF rfl ?_ | refine qI i (by omega) rfl ?_ | refine qI io (by omega) rfl ?_ | refine qP rfl ?_ | refine wQ ?_ | refine wR ?_ | refine wD ?_ | refine wN rfl ?_ | refine wS ?_ | refine wT rfl ?_ | refine wF rfl ?_
      refine WpB.cond rfl (fun ht => ?_) fun ht => ?_
      · repeat first | refine qN ?_ | refine qM rfl ?_ | refine qA rfl ?_ | refine qS rfl ?_ | refine qL H b1 rfl ?_ | refine qT rfl ?_ | refine qF rfl ?_ | refine qI i (by omega) rfl ?_ | refine qI io (by omega) rfl ?_ | refine qP rfl ?_ | refine wQ ?_ | refine wR ?_ | refine wD ?_ | refine wN rfl ?_ | refine wS ?_
        exact WpB.ret ⟨_, rfl, hm _⟩
      · have hn0 : n = 0 := by simp at ht; omega
        repeat first | refine qN ?_ | refine qM rfl ?_ | refine qA rfl ?_ | refine qS rfl ?_ | refine qL H b1 rfl ?_ | refine qT rfl ?_ | refine qF rfl ?_ | refine qI i (by omega) rfl ?_ | refine qI io (by omega) rfl ?_ | refine qP rfl ?_ | refine wQ ?_ | refine wR ?_ | refine wD ?_ | refine wN rfl ?_ | refine wS ?_
        refine SpB.callK Tryz.T1OK H (by omega) (literal_ok ⟨vk, vi, vt⟩ h H ht3) rfl rfl rfl rfl rfl ?_
        rintro v h2 ⟨t, rfl, ht'⟩ g
        repeat first | refine qN ?_ | refine qM rfl ?_ | refine qA rfl ?_ | refine qS rfl ?_ | refine qL H b1 rfl ?_ | refine qT rfl ?_ | refine qF rfl ?_ | refine qI i (by omega) rfl ?_ | refine qI io (by omega) rfl ?_ | refine qP rfl ?_ | refine wQ ?_ | refine wR ?_ | refine wD ?_ | refine wN rfl ?_ | refine wS ?_
        refine WpB.ret ⟨_, rfl, ⟨t, rfl, ?_⟩, Nat.le_refl _⟩
        rcases ht' with h | ⟨h1, h2⟩
        · exact .inl h
        · exact .inr (.inl ⟨rfl, hn0, h1, h2⟩)
    by_cases e2 : op = 2
    · subst e2
      obtain ⟨lv, ln, lx⟩ := l
      obtain ⟨hln, ⟨la, lcap, hlv, _, _, hlx⟩, _⟩ := hl
      simp only at hlv hlx hln
      subst hlv
      refine Kp.of (fi := Tryz.fi100) rfl rfl rfl ?_
      refine WpB.seq (WpB.region ?_)
      refine SpB.box H rfl rfl rfl rfl rfl rfl fun h g s1 b1 => ?_
      have hle := H.le
      have H := g.hp H
      have l1 : h0.sz < h.sz := by omega
      clear g s1
      repeat first | refine qN ?_ | refine qM rfl ?_ | refine qA rfl ?_ | refine qS rfl ?_ | refine qL H b1 rfl ?_ | refine qT rfl ?_ | refine qF rfl ?_ | refine qI i (by omega) rfl ?_ | refine qI io (by omega) rfl ?_ | refine qP rfl ?_ | refine wQ ?_ | refine wR ?_ | refine wD ?_ | refine wN rfl ?_ | refine wS ?_
      refine WpB.block ?_
      repeat first | refine qN ?_ | refine qM rfl ?_ | refine qA rfl ?_ | refine qS rfl ?_ | refine qL H b1 rfl ?_ | refine qT rfl ?_ | refine qF rfl ?_ | refine qI i (by omega) rfl ?_ | refine qI io (by omega) rfl ?_ | refine qP rfl ?_ | refine wQ ?_ | refine wR ?_ | refine wD ?_ | refine wN rfl ?_ | refine wS ?_ | refine wT rfl ?_ | refine wF rfl ?_
      refine qB rfl (fun c1 => ?_) fun c1 => ?_
      · repeat' first | refine qN ?_ | refine qM rfl ?_ | refine qA rfl ?_ | refine qS rfl ?_ | refine qL H b1 rfl ?_ | refine qT rfl ?_ | refine qF rfl ?_ | refine qB rfl (fun ht => ?_) fun ht => ?_ | refine qI i (by omega) rfl ?_ | refine qI io (by omega) rfl ?_ | refine qP rfl ?_ | refine wQ ?_ | refine wR ?_ | refine wD ?_ | refine wN rfl ?_ | refine wS ?_ | refine wT rfl ?_ | refine wF rfl ?_ | refine WpB.cond rfl (fun ht => ?_) fun ht => ?_
        exact WpB.ret ⟨_, rfl, hm _⟩
      have hn0 : n = 0 := by simp at c1; omega
      repeat first | refine qN ?_ | refine qM rfl ?_ | refine qA rfl ?_ | refine qS rfl ?_ | refine qL H b1 rfl ?_ | refine qT rfl ?_ | refine qF rfl ?_ | refine qI i (by omega) rfl ?_ | refine qI io (by omega) rfl ?_ | refine qP rfl ?_ | refine wQ ?_ | refine wR ?_ | refine wD ?_ | refine wN rfl ?_ | refine wS ?_
      refine qB rfl (fun c2 => ?_) fun c2 => ?_
      · repeat' first | refine qN ?_ | refine qM rfl ?_ | refine qA rfl ?_ | refine qS rfl ?_ | refine qL H b1 rfl ?_ | refine qT rfl ?_ | refine qF rfl ?_ | refine qB rfl (fun ht => ?_) fun ht => ?_ | refine qI i (by omega) rfl ?_ | refine qI io (by omega) rfl ?_ | refine qP rfl ?_ | refine wQ ?_ | refine wR ?_ | refine wD ?_ | refine wN rfl ?_ | refine wS ?_ | refine wT rfl ?_ | refine wF rfl ?_ | refine WpB.cond rfl (fun ht => ?_) fun ht => ?_
        exact WpB.ret ⟨_, rfl, hm _⟩
      have c2 : 0 ≤ ix := by simpa using c2
      repeat first | refine qN ?_ | refine qM rfl ?_ | refine qA rfl ?_ | refine qS rfl ?_ | refine qL H b1 rfl ?_ | refine qT rfl ?_ | refine qF rfl ?_ | refine qI i (by omega) rfl ?_ | refine qI io (by omega) rfl ?_ | refine qP rfl ?_ | refine wQ ?_ | refine wR ?_ | refine wD ?_ | refine wN rfl ?_ | refine wS ?_
      refine qB rfl (fun c3 => ?_) fun c3 => ?_
      · repeat' first | refine qN ?_ | refine qM rfl ?_ | refine qA rfl ?_ | refine qS rfl ?_ | refine qL H b1 rfl ?_ | refine qT rfl ?_ | refine qF rfl ?_ | refine qB rfl (fun ht => ?_) fun ht => ?_ | refine qI i (by omega) rfl ?_ | refine qI io (by omega) rfl ?_ | refine qP rfl ?_ | refine wQ ?_ | refine wR ?_ | refine wD ?_ | refine wN rfl ?_ | refine wS ?_ | refine wT rfl ?_ | refine wF rfl ?_ | refine WpB.cond rfl (fun ht => ?_) fun ht => ?_
        exact WpB.ret ⟨_, rfl, hm _⟩
      have c3 : ix < (ln : Int) := by simpa using c3
      obtain ⟨j, rfl⟩ := Int.eq_ofNat_of_zero_le c2
      have hj : j < ln := by omega
      obtain ⟨b, off, rfl, hc⟩ := hlx j hj
      have hcell : ∀ h, Hp N lim rd h → loadT TT h 3 b (off + j * 5 + 0) = some (.int .i64 (lx j).ty) := fun h H => loadT_cell rfl rfl (cell_at (H.ext _ _ _ _ hc).2 (j := 0) rfl)
      repeat first | refine qN ?_ | refine qM rfl ?_ | refine qA rfl ?_ | refine qS rfl ?_ | refine qL H b1 rfl ?_ | refine qT rfl ?_ | refine qF rfl ?_ | refine qI i (by omega) rfl ?_ | refine qI io (by omega) rfl ?_ | refine qP rfl ?_ | refine wQ ?_ | refine wR ?_ | refine wD ?_ | refine wN rfl ?_ | refine wS ?_
      refine SpB.indexN hj rfl rfl rfl rfl rfl rfl rfl rfl rfl ?_
      repeat first | refine qN ?_ | refine qM rfl ?_ | refine qA rfl ?_ | refine qS rfl ?_ | refine qL H b1 rfl ?_ | refine qT rfl ?_ | refine qF rfl ?_ | refine qI i (by omega) rfl ?_ | refine qI io (by omega) rfl ?_ | refine qP rfl ?_ | refine wQ ?_ | refine wR ?_ | refine wD ?_ | refine wN rfl ?_ | refine wS ?_
      refine SpB.load rfl rfl rfl (hcell h H) rfl rfl ?_
      refine qB rfl (fun c4 => ?_) fun c4 => ?_
      · repeat' first | refine qN ?_ | refine qM rfl ?_ | refine qA rfl ?_ | refine qS rfl ?_ | refine qL H b1 rfl ?_ | refine qT rfl ?_ | refine qF rfl ?_ | refine qB rfl (fun ht => ?_) fun ht => ?_ | refine qI i (by omega) rfl ?_ | refine qI io (by omega) rfl ?_ | refine qP rfl ?_ | refine wQ ?_ | refine wR ?_ | refine wD ?_ | refine wN rfl ?_ | refine wS ?_ | refine wT rfl ?_ | refine wF rfl ?_ | refine WpB.cond rfl (fun ht => ?_) fun ht => ?_
        exact WpB.ret ⟨_, rfl, hm _⟩
      have c4 : ¬ (lx j).ty < 1 := of_decide_eq_false c4
      repeat first | refine qN ?_ | refine qM rfl ?_ | refine qA rfl ?_ | refine qS rfl ?_ | refine qL H b1 rfl ?_ | refine qT rfl ?_ | refine qF rfl ?_ | refine qI i (by omega) rfl ?_ | refine qI io (by omega) rfl ?_ | refine qP rfl ?_ | refine wQ ?_ | refine wR ?_ | refine wD ?_ | refine wN rfl ?_ | refine wS ?_
      refine SpB.indexN hj rfl rfl rfl rfl rfl rfl rfl rfl rfl ?_
      repeat first | refine qN ?_ | refine qM rfl ?_ | refine qA rfl ?_ | refine qS rfl ?_ | refine qL H b1 rfl ?_ | refine qT rfl ?_ | refine qF rfl ?_ | refine qI i (by omega) rfl ?_ | refine qI io (by omega) rfl ?_ | refine qP rfl ?_ | refine wQ ?_ | refine wR ?_ | refine wD ?_ | refine wN rfl ?_ | refine wS ?_
      refine SpB.load rfl rfl rfl (hcell h H) rfl rfl ?_
      repeat first | refine qN ?_ | refine qM rfl ?_ | refine qA rfl ?_ | refine qS rfl ?_ | refine qL H b1 rfl ?_ | refine qT rfl ?_ | refine qF rfl ?_ | refine qI i (by omega) rfl ?_ | refine qI io (by omega) rfl ?_ | refine qP rfl ?_ | refine wQ ?_ | refine wR ?_ | refine wD ?_ | refine wN rfl ?_ | refine wS ?_
      refine WpB.cond rfl (fun ht => ?_) fun ht => ?_
      · repeat first | refine qN ?_ | refine qM rfl ?_ | refine qA rfl ?_ | refine qS rfl ?_ | refine qL H b1 rfl ?_ | refine qT rfl ?_ | refine qF rfl ?_ | refine qI i (by omega) rfl ?_ | refine qI io (by omega) rfl ?_ | refine qP rfl ?_ | refine wQ ?_ | refine wR ?_ | refine wD ?_ | refine wN rfl ?_ | refine wS ?_
        exact WpB.ret ⟨_, rfl, hm _⟩
      have c5 : ¬ (lx j).ty > 2 := of_decide_eq_false ht
      repeat first | refine qN ?_ | refine qM rfl ?_ | refine qA rfl ?_ | refine qS rfl ?_ | refine qL H b1 rfl ?_ | refine qT rfl ?_ | refine qF rfl ?_ | refine qI i (by omega) rfl ?_ | refine qI io (by omega) rfl ?_ | refine qP rfl ?_ | refine wQ ?_ | refine wR ?_ | refine wD ?_ | refine wN rfl ?_ | refine wS ?_
      refine SpB.indexN hj rfl rfl rfl rfl rfl rfl rfl rfl rfl ?_
      repeat first | refine qN ?_ | refine qM rfl ?_ | refine qA rfl ?_ | refine qS rfl ?_ | refine qL H b1 rfl ?_ | refine qT rfl ?_ | refine qF rfl ?_ | refine qI i (by omega) rfl ?_ | refine qI io (by omega) rfl ?_ | refine qP rfl ?_ | refine wQ ?_ | refine wR ?_ | refine wD ?_ | refine wN rfl ?_ | refine wS ?_
      refine SpB.load rfl rfl rfl (hcell h H) rfl rfl ?_
      repeat first | refine qN ?_ | refine qM rfl ?_ | refine qA rfl ?_ | refine qS rfl ?_ | refine qL H b1 rfl ?_ | refine qT rfl ?_ | refine qF rfl ?_ | refine qI i (by omega) rfl ?_ | refine qI io (by omega) rfl ?_ | refine qP rfl ?_ | refine wQ ?_ | refine wR ?_ | refine wD ?_ | refine wN rfl ?_ | refine wS ?_
      exact WpB.ret ⟨_, rfl, ⟨_, rfl, .inr (.inr (.inl ⟨rfl, hn0, c2, c3, rfl, by show (lx j).ty = 1 ∨ (lx j).ty = 2; omega⟩))⟩, Nat.le_refl _⟩
    by_cases eU : op = 3 ∨ op = 9 ∨ op = 17 ∨ op = 20
    · have hu := fun h (H : Hp N lim rd h) => unary_of l (op := op) (tb := tb) (nm := nm) (ix := ix) (vk := vk) (vi := vi) (vt := vt) (cap := cap) h H hn hx hk hI
      refine Kp.of (fi := Tryz.fi100) rfl rfl rfl ?_
      refine WpB.seq (WpB.region ?_)
      refine SpB.box H rfl rfl rfl rfl rfl rfl fun h g s1 b1 => ?_
      have hle := H.le
      have H := g.hp H
      have l1 : h0.sz < h.sz := by omega
      clear g s1
      repeat first | refine qN ?_ | refine qM rfl ?_ | refine qA rfl ?_ | refine qS rfl ?_ | refine qL H b1 rfl ?_ | refine qT rfl ?_ | refine qF rfl ?_ | refine qI i (by omega) rfl ?_ | refine qI io (by omega) rfl ?_ | refine qP rfl ?_ | refine wQ ?_ | refine wR ?_ | refine wD ?_ | refine wN rfl ?_ | refine wS ?_
      refine WpB.block ?_
      rcases eU with rfl | rfl | rfl | rfl
      all_goals
        repeat first | refine qN ?_ | refine qM rfl ?_ | refine qA rfl ?_ | refine qS rfl ?_ | refine qL H b1 rfl ?_ | refine qT rfl ?_ | refine qF rfl ?_ | refine qI i (by omega) rfl ?_ | refine qI io (by omega) rfl ?_ | refine qP rfl ?_ | refine wQ ?_ | refine wR ?_ | refine wD ?_ | refine wN rfl ?_ | refine wS ?_ | refine wT rfl ?_ | refine wF rfl ?_
        refine SpB.callK Tryz.T1OK H (by omega) (hu h H) rfl rfl rfl rfl rfl ?_
        rintro v h2 ⟨t, rfl, ht'⟩ g
        repeat first | refine qN ?_ | refine qM rfl ?_ | refine qA rfl ?_ | refine qS rfl ?_ | refine qL H b1 rfl ?_ | refine qT rfl ?_ | refine qF rfl ?_ | refine qI i (by omega) rfl ?_ | refine qI io (by omega) rfl ?_ | refine qP rfl ?_ | refine wQ ?_ | refine wR ?_ | refine wD ?_ | refine wN rfl ?_ | refine wS ?_
        exact WpB.ret ⟨_, rfl, ⟨t, rfl, ht'⟩, Nat.le_refl _⟩
    have o3 : op ≠ 3 := by omega
    have o9 : op ≠ 9 := by omega
    have o17 : op ≠ 17 := by omega
    have o20 : op ≠ 20 := by omega
    by_cases hn2 : n = 2
    · subst hn2
      exact type_two l h0 H ⟨e1, e2, o3, o9, o17, o20⟩ hx hk (fun h H => type_ok l hl (kid 1) h H (hk 1 (by omega))) hI
    · refine Kp.of (fi := Tryz.fi100) rfl rfl rfl ?_
      refine WpB.seq (WpB.region ?_)
      refine SpB.box H rfl rfl rfl rfl rfl rfl fun h g s1 b1 => ?_
      have hle := H.le
      have H := g.hp H
      have l1 : h0.sz < h.sz := by omega
      clear g s1
      repeat first | refine qN ?_ | refine qM rfl ?_ | refine qA rfl ?_ | refine qS rfl ?_ | refine qL H b1 rfl ?_ | refine qT rfl ?_ | refine qF rfl ?_ | refine qI i (by omega) rfl ?_ | refine qI io (by omega) rfl ?_ | refine qP rfl ?_ | refine wQ ?_ | refine wR ?_ | refine wD ?_ | refine wN rfl ?_ | refine wS ?_
      refine WpB.cut1 [(1, l.v), (2, .pointer (some ⟨N + h0.sz, 0, none⟩))] (fun h' => h' = h) ?_ ?_
      · refine WpB.block ?_
        repeat first | refine qN ?_ | refine qM rfl ?_ | refine qA rfl ?_ | refine qS rfl ?_ | refine qL H b1 rfl ?_ | refine qT rfl ?_ | refine qF rfl ?_ | refine qI i (by omega) rfl ?_ | refine qI io (by omega) rfl ?_ | refine qP rfl ?_ | refine wQ ?_ | refine wR ?_ | refine wD ?_ | refine wN rfl ?_ | refine wS ?_
        refine WpB.cond rfl (fun ht => absurd (by simpa using ht) e1) fun _ => ?_
        repeat first | refine qN ?_ | refine qM rfl ?_ | refine qA rfl ?_ | refine qS rfl ?_ | refine qL H b1 rfl ?_ | refine qT rfl ?_ | refine qF rfl ?_ | refine qI i (by omega) rfl ?_ | refine qI io (by omega) rfl ?_ | refine qP rfl ?_ | refine wQ ?_ | refine wR ?_ | refine wD ?_ | refine wN rfl ?_ | refine wS ?_
        refine WpB.cond rfl (fun ht => absurd (by simpa using ht) e2) fun _ => ?_
        repeat first | refine qN ?_ | refine qM rfl ?_ | refine qA rfl ?_ | refine qS rfl ?_ | refine qL H b1 rfl ?_ | refine qT rfl ?_ | refine qF rfl ?_ | refine qI i (by omega) rfl ?_ | refine qI io (by omega) rfl ?_ | refine qP rfl ?_ | refine wQ ?_ | refine wR ?_ | refine wD ?_ | refine wN rfl ?_ | refine wS ?_
        refine WpB.cond rfl (fun ht => absurd (by simpa using ht) o3) fun _ => ?_
        repeat first | refine qN ?_ | refine qM rfl ?_ | refine qA rfl ?_ | refine qS rfl ?_ | refine qL H b1 rfl ?_ | refine qT rfl ?_ | refine qF rfl ?_ | refine qI i (by omega) rfl ?_ | refine qI io (by omega) rfl ?_ | refine qP rfl ?_ | refine wQ ?_ | refine wR ?_ | refine wD ?_ | refine wN rfl ?_ | refine wS ?_
        refine WpB.cond rfl (fun ht => absurd (by simpa using ht) o9) fun _ => ?_
        repeat first | refine qN ?_ | refine qM rfl ?_ | refine qA rfl ?_ | refine qS rfl ?_ | refine qL H b1 rfl ?_ | refine qT rfl ?_ | refine qF rfl ?_ | refine qI i (by omega) rfl ?_ | refine qI io (by omega) rfl ?_ | refine qP rfl ?_ | refine wQ ?_ | refine wR ?_ | refine wD ?_ | refine wN rfl ?_ | refine wS ?_
        refine WpB.cond rfl (fun ht => absurd (by simpa using ht) o17) fun _ => ?_
        repeat first | refine qN ?_ | refine qM rfl ?_ | refine qA rfl ?_ | refine qS rfl ?_ | refine qL H b1 rfl ?_ | refine qT rfl ?_ | refine qF rfl ?_ | refine qI i (by omega) rfl ?_ | refine qI io (by omega) rfl ?_ | refine qP rfl ?_ | refine wQ ?_ | refine wR ?_ | refine wD ?_ | refine wN rfl ?_ | refine wS ?_
        refine WpB.cond rfl (fun ht => absurd (by simpa using ht) o20) fun _ => ?_
        repeat first | refine qN ?_ | refine qM rfl ?_ | refine qA rfl ?_ | refine qS rfl ?_ | refine qL H b1 rfl ?_ | refine qT rfl ?_ | refine qF rfl ?_ | refine qI i (by omega) rfl ?_ | refine qI io (by omega) rfl ?_ | refine qP rfl ?_ | refine wQ ?_ | refine wR ?_ | refine wD ?_ | refine wN rfl ?_ | refine wS ?_
        exact ⟨(by repeat first | exact sub_nil | refine sub_cons rfl ?_), rfl, rfl⟩
      rintro h rfl
      repeat first | refine qN ?_ | refine qM rfl ?_ | refine qA rfl ?_ | refine qS rfl ?_ | refine qL H b1 rfl ?_ | refine qT rfl ?_ | refine qF rfl ?_ | refine qI i (by omega) rfl ?_ | refine qI io (by omega) rfl ?_ | refine qP rfl ?_ | refine wQ ?_ | refine wR ?_ | refine wD ?_ | refine wN rfl ?_ | refine wS ?_
      refine WpB.cond rfl (fun ht => ?_) fun ht => ?_
      · repeat first | refine qN ?_ | refine qM rfl ?_ | refine qA rfl ?_ | refine qS rfl ?_ | refine qL H b1 rfl ?_ | refine qT rfl ?_ | refine qF rfl ?_ | refine qI i (by omega) rfl ?_ | refine qI io (by omega) rfl ?_ | refine qP rfl ?_ | refine wQ ?_ | refine wR ?_ | refine wD ?_ | refine wN rfl ?_ | refine wS ?_
        exact WpB.ret ⟨_, rfl, hm _⟩
      · exact absurd (by simp at ht; omega) hn2

end Go.Proofs.YtkjkcoemloakhaaGreat
end

section
set_option linter.unusedVariables false
namespace Go.Proofs.YtkjkcoemloakhaaGreat
open Go Go.Vae
set_option maxRecDepth 100000

theorem bounded_ok {N lim : Nat} {rd : RO} (l : Sl Vr) (hl : l.At rd 5 Vr.cells fun _ => True) : ∀ (e : E) (h : AH), Hp N lim rd h → e.At rd → Kp TT 80 [.agg ⟨e.cells⟩, l.v] h anyB
  | .nil, h, _, he => he.elim
  | .mk op tb nm ix vk vi vt sl n kid, h0, H, he => by
    have hty := fun h (H : Hp N lim rd h) => type_ok l hl (.mk op tb nm ix vk vi vt sl n kid) h H he
    have hbd := fun h (H : Hp N lim rd h) hn => bound14_ok l.v (lt := l.lt) (nv := l.n) (.mk op tb nm ix vk vi vt sl n kid) h H he hn
    obtain ⟨_, ⟨_, _, ht3⟩, hn, ⟨a, cap, rfl, _, _, hx⟩, hk⟩ := he
    have hreach : reachBytes < 2 ^ 47 := by decide
    have hB : ∀ b, (∃ b', Value.bool b = .bool b') ∧ h0.sz ≤ h0.sz := fun b => ⟨⟨b, rfl⟩, Nat.le_refl _⟩
    refine Kp.of (fi := Tryz.fi80) rfl rfl rfl ?_
    refine WpB.seq (WpB.region ?_)
    refine SpB.box H rfl rfl rfl rfl rfl rfl fun h g s1 b1 => ?_
    have hle := H.le
    have H := g.hp H
    have l1 : h0.sz < h.sz := by omega
    clear g s1
    refine SpB.assign rfl rfl rfl rfl rfl (SpB.nil ?_)
    refine WpB.cut [(1, l.v), (2, .pointer (some ⟨N + h0.sz, 0, none⟩))] (fun h => Hp N lim rd h ∧ h.blk h0.sz = some (.cells (E.mk op tb nm ix vk vi vt (.slice a n cap) n kid).cells) ∧ h0.sz < h.sz) ?_ ?_
    · repeat first | refine qN ?_ | refine qM rfl ?_ | refine qA rfl ?_ | refine qS rfl ?_ | refine qL H b1 rfl ?_ | refine qT rfl ?_ | refine qF rfl ?_ | refine qI i (by omega) rfl ?_ | refine qI io (by omega) rfl ?_ | refine qP rfl ?_ | refine wQ ?_ | refine wR ?_ | refine wD ?_ | refine wN rfl ?_ | refine wS ?_
      refine SpB.callK Tryz.T1OK H (by omega) (hty h H) rfl rfl rfl rfl rfl ?_
      rintro v h ⟨t, rfl, ht⟩ g
      have H := g.hp H
      have b1 := g.keep l1 b1
      have l1 := g.lt l1
      repeat first | refine qN ?_ | refine qM rfl ?_ | refine qA rfl ?_ | refine qS rfl ?_ | refine qL H b1 rfl ?_ | refine qT rfl ?_ | refine qF rfl ?_ | refine qI i (by omega) rfl ?_ | refine qI io (by omega) rfl ?_ | refine qP rfl ?_ | refine wQ ?_ | refine wR ?_ | refine wD ?_ | refine wN rfl ?_ | refine wS ?_
      refine qB rfl (fun c1 => ?_) fun c1 => ?_
      · have c1 : t = 1 := by simpa using c1
        subst c1
        repeat first | refine qN ?_ | refine qM rfl ?_ | refine qA rfl ?_ | refine qS rfl ?_ | refine qL H b1 rfl ?_ | refine qT rfl ?_ | refine qF rfl ?_ | refine qI i (by omega) rfl ?_ | refine qI io (by omega) rfl ?_ | refine qP rfl ?_ | refine wQ ?_ | refine wR ?_ | refine wD ?_ | refine wN rfl ?_ | refine wS ?_
        refine SpB.callK Tryz.T1OK H (by omega) (hbd h H (.inr (ht.resolve_left (by omega)))) rfl rfl rfl rfl rfl ?_
        rintro v h ⟨m, rfl⟩ g
        have H := g.hp H
        have b1 := g.keep l1 b1
        have l1 := g.lt l1
        repeat first | refine qN ?_ | refine qM rfl ?_ | refine qA rfl ?_ | refine qS rfl ?_ | refine qL H b1 rfl ?_ | refine qT rfl ?_ | refine qF rfl ?_ | refine qI i (by omega) rfl ?_ | refine qI io (by omega) rfl ?_ | refine qP rfl ?_ | refine wQ ?_ | refine wR ?_ | refine wD ?_ | refine wN rfl ?_ | refine wS ?_
        refine WpB.cond rfl (fun ht => ?_) fun ht => ?_
        · repeat first | refine qN ?_ | refine qM rfl ?_ | refine qA rfl ?_ | refine qS rfl ?_ | refine qL H b1 rfl ?_ | refine qT rfl ?_ | refine qF rfl ?_ | refine qI i (by omega) rfl ?_ | refine qI io (by omega) rfl ?_ | refine qP rfl ?_ | refine wQ ?_ | refine wR ?_ | refine wD ?_ | refine wN rfl ?_ | refine wS ?_
          exact WpB.ret ⟨_, rfl, hB _⟩
        · repeat first | refine qN ?_ | refine qM rfl ?_ | refine qA rfl ?_ | refine qS rfl ?_ | refine qL H b1 rfl ?_ | refine qT rfl ?_ | refine qF rfl ?_ | refine qI i (by omega) rfl ?_ | refine qI io (by omega) rfl ?_ | refine qP rfl ?_ | refine wQ ?_ | refine wR ?_ | refine wD ?_ | refine wN rfl ?_ | refine wS ?_
          exact ⟨(by repeat first | exact sub_nil | refine sub_cons rfl ?_), ⟨H, b1, l1⟩, rfl⟩
      · repeat' first | refine qN ?_ | refine qM rfl ?_ | refine qA rfl ?_ | refine qS rfl ?_ | refine qL H b1 rfl ?_ | refine qT rfl ?_ | refine qF rfl ?_ | refine qB rfl (fun ht => ?_) fun ht => ?_ | refine qI i (by omega) rfl ?_ | refine qI io (by omega) rfl ?_ | refine qP rfl ?_ | refine wQ ?_ | refine wR ?_ | refine wD ?_ | refine wN rfl ?_ | refine wS ?_ | refine wT rfl ?_ | refine wF rfl ?_ | refine WpB.cond rfl (fun ht => ?_) fun ht => ?_
        exact ⟨(by repeat first | exact sub_nil | refine sub_cons rfl ?_), ⟨H, b1, l1⟩, rfl⟩
    rintro h ⟨H, b1, l1⟩
    repeat first | refine qN ?_ | refine qM rfl ?_ | refine qA rfl ?_ | refine qS rfl ?_ | refine qL H b1 rfl ?_ | refine qT rfl ?_ | refine qF rfl ?_ | refine qI i (by omega) rfl ?_ | refine qI io (by omega) rfl ?_ | refine qP rfl ?_ | refine wQ ?_ | refine wR ?_ | refine wD ?_ | refine wN rfl ?_ | refine wS ?_
    refine WpB.block ?_
    refine WpB.loopC n (fun i => [(5, .int .i64 (i : Int)), (1, l.v), (2, .pointer (some ⟨N + h0.sz, 0, none⟩))]) (fun i h => Hp N lim rd h ∧ h.blk h0.sz = some (.cells (E.mk op tb nm ix vk vi vt (.slice a n cap) n kid).cells) ∧ h0.sz < h.sz)
      ⟨H, b1, l1⟩ (by repeat first | exact sub_nil | refine sub_cons rfl ?_) ?_
    rintro i h hi ⟨H, b1, l1⟩
    repeat first | refine qN ?_ | refine qM rfl ?_ | refine qA rfl ?_ | refine qS rfl ?_ | refine qL H b1 rfl ?_ | refine qT rfl ?_ | refine qF rfl ?_ | refine qI i (by omega) rfl ?_ | refine qI io (by omega) rfl ?_ | refine qP rfl ?_ | refine wQ ?_ | refine wR ?_ | refine wD ?_ | refine wN rfl ?_ | refine wS ?_
    refine WpB.cond rfl (fun ht => ?_) fun ht => ?_
    · have hlt : i < n := by simpa using ht
      obtain ⟨b, off, rfl, hc⟩ := hx i hlt
      refine WpB.skip ?_
      refine WpB.seq (WpB.block ?_)
      repeat first | refine qN ?_ | refine qM rfl ?_ | refine qA rfl ?_ | refine qS rfl ?_ | refine qL H b1 rfl ?_ | refine qT rfl ?_ | refine qF rfl ?_ | refine qI i (by omega) rfl ?_ | refine qI io (by omega) rfl ?_ | refine qP rfl ?_ | refine wQ ?_ | refine wR ?_ | refine wD ?_ | refine wN rfl ?_ | refine wS ?_
      refine SpB.indexN hlt rfl rfl rfl rfl rfl rfl rfl rfl rfl ?_
      refine SpB.loadR H hc rfl rfl rfl rfl rfl rfl rfl ?_
      repeat first | refine qN ?_ | refine qM rfl ?_ | refine qA rfl ?_ | refine qS rfl ?_ | refine qL H b1 rfl ?_ | refine qT rfl ?_ | refine qF rfl ?_ | refine qI i (by omega) rfl ?_ | refine qI io (by omega) rfl ?_ | refine qP rfl ?_ | refine wQ ?_ | refine wR ?_ | refine wD ?_ | refine wN rfl ?_ | refine wS ?_
      refine SpB.callK Tryz.T1OK H (by omega) (bounded_ok l hl (kid i) h H (hk i hlt)) rfl rfl rfl rfl rfl ?_
      rintro v h ⟨r, rfl⟩ g
      have H := g.hp H
      have b1 := g.keep l1 b1
      have l1 := g.lt l1
      repeat first | refine qN ?_ | refine qM rfl ?_ | refine qA rfl ?_ | refine qS rfl ?_ | refine qL H b1 rfl ?_ | refine qT rfl ?_ | refine qF rfl ?_ | refine qI i (by omega) rfl ?_ | refine qI io (by omega) rfl ?_ | refine qP rfl ?_ | refine wQ ?_ | refine wR ?_ | refine wD ?_ | refine wN rfl ?_ | refine wS ?_
      refine WpB.cond rfl (fun ht2 => ?_) fun ht2 => ?_
      · repeat first | refine qN ?_ | refine qM rfl ?_ | refine qA rfl ?_ | refine qS rfl ?_ | refine qL H b1 rfl ?_ | refine qT rfl ?_ | refine qF rfl ?_ | refine qI i (by omega) rfl ?_ | refine qI io (by omega) rfl ?_ | refine qP rfl ?_ | refine wQ ?_ | refine wR ?_ | refine wD ?_ | refine wN rfl ?_ | refine wS ?_
        exact WpB.ret ⟨_, rfl, hB _⟩
      · repeat first | refine qN ?_ | refine qM rfl ?_ | refine qA rfl ?_ | refine qS rfl ?_ | refine qL H b1 rfl ?_ | refine qT rfl ?_ | refine qF rfl ?_ | refine qI i (by omega) rfl ?_ | refine qI io (by omega) rfl ?_ | refine qP rfl ?_ | refine wQ ?_ | refine wR ?_ | refine wD ?_ | refine wN rfl ?_ | refine wS ?_
        exact ⟨hlt, (by repeat first | exact sub_nil | refine sub_cons rfl ?_), ⟨H, b1, l1⟩, rfl⟩
    · refine WpB.exit ?_
      repeat first | refine qN ?_ | refine qM rfl ?_ | refine qA rfl ?_ | refine qS rfl ?_ | refine qL H b1 rfl ?_ | refine qT rfl ?_ | refine qF rfl ?_ | refine qI i (by omega) rfl ?_ | refine qI io (by omega) rfl ?_ | refine qP rfl ?_ | refine wQ ?_ | refine wR ?_ | refine wD ?_ | refine wN rfl ?_ | refine wS ?_
      exact WpB.ret ⟨_, rfl, hB _⟩

theorem fits_ok {N lim : Nat} {rd : RO} (l : Sl Vr) (hl : l.At rd 5 Vr.cells fun _ => True) (e : E) (t0 : Int) (ht0 : 1 ≤ t0) (h0 : AH) (H : Hp N lim rd h0) (he : e.At rd) : Kp TT 42 [.agg ⟨e.cells⟩, l.v, .int .i64 t0] h0 fun v _ => ∃ b, v = .bool b ∧ (b = true → (e.Ty l.lt l.n 0 ∨ e.Ty l.lt l.n t0) ∧ l.n ≤ 12) := by
  have hcnt := fun h (H : Hp N lim rd h) => count_ok e h H he
  have his := fun h (H : Hp N lim rd h) => is_of l e he (fun h H => type_ok l hl e h H he) t0 ht0 h H
  have hbd := fun h (H : Hp N lim rd h) => bounded_ok l hl e h H he
  obtain ⟨o, x1, x2, x3, x4, x5, x6, x7, hc⟩ := E.cells8 he
  rw [hc] at hcnt his hbd ⊢
  have hl0 := hl
  obtain ⟨lv, ln, lx⟩ := l
  obtain ⟨hln, ⟨la, lcap, hlv, _, _, hlx⟩, _⟩ := hl
  simp only at hlv hlx hln
  subst hlv
  refine Kp.of (fi := Tryz.fi42) rfl rfl rfl ?_
  refine WpB.seq (WpB.region ?_)
  refine SpB.box H rfl rfl rfl rfl rfl rfl fun h g s1 b1 => ?_
  have hle := H.le
  have H := g.hp H
  have l1 : h0.sz < h.sz := by omega
  clear g s1
  repeat first | refine qN ?_ | refine qM rfl ?_ | refine qA rfl ?_ | refine qS rfl ?_ | refine qL H b1 rfl ?_ | refine qT rfl ?_ | refine qF rfl ?_ | refine qI i (by omega) rfl ?_ | refine qI io (by omega) rfl ?_ | refine qP rfl ?_ | refine wQ ?_ | refine wR ?_ | refine wD ?_ | refine wN rfl ?_ | refine wS ?_
  refine SpB.callK Tryz.T1OK H (by omega) (hcnt h H) rfl rfl rfl rfl rfl ?_
  rintro v h ⟨m, rfl⟩ g
  have H := g.hp H
  have b1 := g.keep l1 b1
  have l1 := g.lt l1
  refine qB rfl (fun c1 => ?_) fun c1 => ?_
  · repeat first | refine qN ?_ | refine qM rfl ?_ | refine qA rfl ?_ | refine qS rfl ?_ | refine qL H b1 rfl ?_ | refine qT rfl ?_ | refine qF rfl ?_ | refine qI i (by omega) rfl ?_ | refine qI io (by omega) rfl ?_ | refine qP rfl ?_ | refine wQ ?_ | refine wR ?_ | refine wD ?_ | refine wN rfl ?_ | refine wS ?_
    refine qB rfl (fun c2 => ?_) fun c2 => ?_
    · have c2 : ln ≤ 12 := by simp at c2; omega
      repeat first | refine qN ?_ | refine qM rfl ?_ | refine qA rfl ?_ | refine qS rfl ?_ | refine qL H b1 rfl ?_ | refine qT rfl ?_ | refine qF rfl ?_ | refine qI i (by omega) rfl ?_ | refine qI io (by omega) rfl ?_ | refine qP rfl ?_ | refine wQ ?_ | refine wR ?_ | refine wD ?_ | refine wN rfl ?_ | refine wS ?_
      refine SpB.callK Tryz.T1OK H (by omega) (his h H) rfl rfl rfl rfl rfl ?_
      rintro v h ⟨r, rfl, hr⟩ g
      have H := g.hp H
      have b1 := g.keep l1 b1
      have l1 := g.lt l1
      cases r with
      | false =>
        repeat first | refine qN ?_ | refine qM rfl ?_ | refine qA rfl ?_ | refine qS rfl ?_ | refine qL H b1 rfl ?_ | refine qT rfl ?_ | refine qF rfl ?_ | refine qI i (by omega) rfl ?_ | refine qI io (by omega) rfl ?_ | refine qP rfl ?_ | refine wQ ?_ | refine wR ?_ | refine wD ?_ | refine wN rfl ?_ | refine wS ?_
        exact WpB.ret ⟨_, rfl, ⟨_, rfl, fun h => by cases h⟩, Nat.le_refl _⟩
      | true =>
        repeat first | refine qN ?_ | refine qM rfl ?_ | refine qA rfl ?_ | refine qS rfl ?_ | refine qL H b1 rfl ?_ | refine qT rfl ?_ | refine qF rfl ?_ | refine qI i (by omega) rfl ?_ | refine qI io (by omega) rfl ?_ | refine qP rfl ?_ | refine wQ ?_ | refine wR ?_ | refine wD ?_ | refine wN rfl ?_ | refine wS ?_
        refine SpB.callK Tryz.T1OK H (by omega) (hbd h H) rfl rfl rfl rfl rfl ?_
        rintro v h ⟨r2, rfl⟩ g
        repeat first | refine qN ?_ | refine qM rfl ?_ | refine qA rfl ?_ | refine qS rfl ?_ | refine qL H b1 rfl ?_ | refine qT rfl ?_ | refine qF rfl ?_ | refine qI i (by omega) rfl ?_ | refine qI io (by omega) rfl ?_ | refine qP rfl ?_ | refine wQ ?_ | refine wR ?_ | refine wD ?_ | refine wN rfl ?_ | refine wS ?_
        exact WpB.ret ⟨_, rfl, ⟨_, rfl, fun _ => ⟨hr rfl, c2⟩⟩, Nat.le_refl _⟩
    · repeat' first | refine qN ?_ | refine qM rfl ?_ | refine qA rfl ?_ | refine qS rfl ?_ | refine qL H b1 rfl ?_ | refine qT rfl ?_ | refine qF rfl ?_ | refine qB rfl (fun ht => ?_) fun ht => ?_ | refine qI i (by omega) rfl ?_ | refine qI io (by omega) rfl ?_ | refine qP rfl ?_ | refine wQ ?_ | refine wR ?_ | refine wD ?_ | refine wN rfl ?_ | refine wS ?_ | refine wT rfl ?_ | refine wF rfl ?_ | refine WpB.cond rfl (fun ht => ?_) fun ht => ?_
      exact WpB.ret ⟨_, rfl, ⟨_, rfl, fun h => by cases h⟩, Nat.le_refl _⟩
  · repeat' first | refine qN ?_ | refine qM rfl ?_ | refine qA rfl ?_ | refine qS rfl ?_ | refine qL H b1 rfl ?_ | refine qT rfl ?_ | refine qF rfl ?_ | refine qB rfl (fun ht => ?_) fun ht => ?_ | refine qI i (by omega) rfl ?_ | refine qI io (by omega) rfl ?_ | refine qP rfl ?_ | refine wQ ?_ | refine wR ?_ | refine wD ?_ | refine wN rfl ?_ | refine wS ?_ | refine wT rfl ?_ | refine wF rfl ?_ | refine WpB.cond rfl (fun ht => ?_) fun ht => ?_
    exact WpB.ret ⟨_, rfl, ⟨_, rfl, fun h => by cases h⟩, Nat.le_refl _⟩

set_option maxHeartbeats 1600000 in
theorem supported_ok {N lim : Nat} {rd : RO} (l : Sl Vr) (hl : l.At rd 5 Vr.cells fun _ => True) : ∀ (e : E) (h : AH), Hp N lim rd h → e.At rd → (∃ t, e.Ty l.lt l.n t) → Kp TT 58 [.agg ⟨e.cells⟩, l.v] h anyB
  | .nil, h, _, he, _ => he.elim
  | .mk op tb nm ix vk vi vt sl n kid, h0, H, he, ⟨t, hty⟩ => by
    obtain ⟨_, ⟨_, _, ht3⟩, hn, ⟨a, cap, rfl, _, _, hx⟩, hk⟩ := he
    have hreach : reachBytes < 2 ^ 47 := by decide
    have hB : ∀ b, (∃ b', Value.bool b = .bool b') ∧ h0.sz ≤ h0.sz := fun b => ⟨⟨b, rfl⟩, Nat.le_refl _⟩
    have hkt := E.Ty_kid hty
    have hcmp := E.Ty_cmp hty
    have hl0 := hl
    refine Kp.of (fi := Tryz.fi58) rfl rfl rfl ?_
    refine WpB.seq (WpB.region ?_)
    refine SpB.box H rfl rfl rfl rfl rfl rfl fun h g s1 b1 => ?_
    have hle := H.le
    have H := g.hp H
    have l1 : h0.sz < h.sz := by omega
    clear g s1
    refine SpB.assign rfl rfl rfl rfl rfl (SpB.nil ?_)
    refine WpB.cut [(1, l.v), (2, .pointer (some ⟨N + h0.sz, 0, none⟩))] (fun h' => h' = h) ?_ ?_
    · by_cases hop : 12 ≤ op ∧ op ≤ 15
      · obtain rfl := hcmp (by omega)
        obtain ⟨b, off, rfl, hc0⟩ := hx 0 (by omega)
        obtain ⟨_, _, ha1, hc1⟩ := hx 1 (by omega)
        injection ha1 with ha1
        injection ha1 with ha1 ha2
        subst ha1 ha2
        obtain ⟨t0, ht0⟩ := hkt 0 (by omega)
        have hcol := E.Ty_col ht0
        obtain ⟨y1, y2, y4, y5, y6, y7, hcc0⟩ := E.cellsOI (hk 0 (by omega))
        obtain ⟨z1, z2, z4, z5, z6, z7, hcc1⟩ := E.cellsOI (hk 1 (by omega))
        rw [hcc0] at hc0
        rw [hcc1] at hc1
        generalize (kid 0).op = p0 at hc0 hcol
        generalize (kid 0).ix = i0 at hc0 hcol
        generalize (kid 1).op = p1 at hc1
        generalize (kid 1).ix = i1 at hc1
        have hL0 : loadT TT h 3 b (off + 0 * 8 + 0) = some (.int .i64 p0) := loadT_cell rfl rfl (cell_at (H.ext _ _ _ _ hc0).2 (j := 0) rfl)
        have hL1 : loadT TT h 3 b (off + 1 * 8 + 0) = some (.int .i64 p1) := loadT_cell rfl rfl (cell_at (H.ext _ _ _ _ hc1).2 (j := 0) rfl)
        have hI0 : loadT TT h 3 b (off + 0 * 8 + 3) = some (.int .i64 i0) := loadT_cell rfl rfl (cell_at (H.ext _ _ _ _ hc0).2 (j := 3) rfl)
        have h5' : op = 12 ∨ op = 13 ∨ op = 14 ∨ op = 15 := by omega
        clear hcmp hkt hty
        rcases h5' with rfl | rfl | rfl | rfl
        all_goals
          repeat first | refine qN ?_ | refine qM rfl ?_ | refine qA rfl ?_ | refine qS rfl ?_ | refine qL H b1 rfl ?_ | refine qT rfl ?_ | refine qF rfl ?_ | refine qI i (by omega) rfl ?_ | refine qI io (by omega) rfl ?_ | refine qP rfl ?_ | refine wQ ?_ | refine wR ?_ | refine wD ?_ | refine wN rfl ?_ | refine wS ?_ | refine wT rfl ?_ | refine wF rfl ?_
          refine SpB.load rfl rfl rfl hL0 rfl rfl ?_
          refine qB rfl (fun c1 => ?_) fun c1 => ?_
          · have c1 : p0 = 2 := by simpa using c1
            obtain ⟨hi1, hi2⟩ := hcol c1
            repeat first | refine qN ?_ | refine qM rfl ?_ | refine qA rfl ?_ | refine qS rfl ?_ | refine qL H b1 rfl ?_ | refine qT rfl ?_ | refine qF rfl ?_ | refine qI i (by omega) rfl ?_ | refine qI io (by omega) rfl ?_ | refine qP rfl ?_ | refine wQ ?_ | refine wR ?_ | refine wD ?_ | refine wN rfl ?_ | refine wS ?_ | refine wT rfl ?_ | refine wF rfl ?_
            refine SpB.load rfl rfl rfl hL1 rfl rfl ?_
            refine qB rfl (fun c2 => ?_) fun c2 => ?_
            · repeat first | refine qN ?_ | refine qM rfl ?_ | refine qA rfl ?_ | refine qS rfl ?_ | refine qL H b1 rfl ?_ | refine qT rfl ?_ | refine qF rfl ?_ | refine qI i (by omega) rfl ?_ | refine qI io (by omega) rfl ?_ | refine qP rfl ?_ | refine wQ ?_ | refine wR ?_ | refine wD ?_ | refine wN rfl ?_ | refine wS ?_ | refine wT rfl ?_ | refine wF rfl ?_
              refine SpB.load rfl rfl rfl hI0 rfl rfl ?_
              obtain ⟨j, rfl⟩ := Int.eq_ofNat_of_zero_le hi1
              have hj : j < l.n := by omega
              obtain ⟨hln, ⟨la, lcap, hlv, _, _, hlx⟩, _⟩ := hl
              obtain ⟨b2, off2, rfl, hc⟩ := hlx j hj
              have hcell : loadT TT h 3 b2 (off2 + j * 5 + 0) = some (.int .i64 (l.x j).ty) := loadT_cell rfl rfl (cell_at (H.ext _ _ _ _ hc).2 (j := 0) rfl)
              refine SpB.indexN (len := l.n) (cap := lcap) hj rfl rfl (by rw [← hlv]; rfl) rfl rfl rfl rfl rfl rfl ?_
              repeat first | refine qN ?_ | refine qM rfl ?_ | refine qA rfl ?_ | refine qS rfl ?_ | refine qL H b1 rfl ?_ | refine qT rfl ?_ | refine qF rfl ?_ | refine qI i (by omega) rfl ?_ | refine qI io (by omega) rfl ?_ | refine qP rfl ?_ | refine wQ ?_ | refine wR ?_ | refine wD ?_ | refine wN rfl ?_ | refine wS ?_ | refine wT rfl ?_ | refine wF rfl ?_
              refine SpB.load rfl rfl rfl hcell rfl rfl ?_
              repeat first | refine qN ?_ | refine qM rfl ?_ | refine qA rfl ?_ | refine qS rfl ?_ | refine qL H b1 rfl ?_ | refine qT rfl ?_ | refine qF rfl ?_ | refine qI i (by omega) rfl ?_ | refine qI io (by omega) rfl ?_ | refine qP rfl ?_ | refine wQ ?_ | refine wR ?_ | refine wD ?_ | refine wN rfl ?_ | refine wS ?_
              refine WpB.cond rfl (fun ht => ?_) fun ht => ?_
              · repeat first | refine qN ?_ | refine qM rfl ?_ | refine qA rfl ?_ | refine qS rfl ?_ | refine qL H b1 rfl ?_ | refine qT rfl ?_ | refine qF rfl ?_ | refine qI i (by omega) rfl ?_ | refine qI io (by omega) rfl ?_ | refine qP rfl ?_ | refine wQ ?_ | refine wR ?_ | refine wD ?_ | refine wN rfl ?_ | refine wS ?_
                exact WpB.ret ⟨_, rfl, hB _⟩
              · repeat first | refine qN ?_ | refine qM rfl ?_ | refine qA rfl ?_ | refine qS rfl ?_ | refine qL H b1 rfl ?_ | refine qT rfl ?_ | refine qF rfl ?_ | refine qI i (by omega) rfl ?_ | refine qI io (by omega) rfl ?_ | refine qP rfl ?_ | refine wQ ?_ | refine wR ?_ | refine wD ?_ | refine wN rfl ?_ | refine wS ?_
                exact ⟨(by repeat first | exact sub_nil | refine sub_cons rfl ?_), rfl, rfl⟩
            · repeat first | refine qN ?_ | refine qM rfl ?_ | refine qA rfl ?_ | refine qS rfl ?_ | refine qL H b1 rfl ?_ | refine qT rfl ?_ | refine qF rfl ?_ | refine qI i (by omega) rfl ?_ | refine qI io (by omega) rfl ?_ | refine qP rfl ?_ | refine wQ ?_ | refine wR ?_ | refine wD ?_ | refine wN rfl ?_ | refine wS ?_ | refine wT rfl ?_ | refine wF rfl ?_
              exact ⟨(by repeat first | exact sub_nil | refine sub_cons rfl ?_), rfl, rfl⟩
          · repeat first | refine qN ?_ | refine qM rfl ?_ | refine qA rfl ?_ | refine qS rfl ?_ | refine qL H b1 rfl ?_ | refine qT rfl ?_ | refine qF rfl ?_ | refine qI i (by omega) rfl ?_ | refine qI io (by omega) rfl ?_ | refine qP rfl ?_ | refine wQ ?_ | refine wR ?_ | refine wD ?_ | refine wN rfl ?_ | refine wS ?_ | refine wT rfl ?_ | refine wF rfl ?_
            exact ⟨(by repeat first | exact sub_nil | refine sub_cons rfl ?_), rfl, rfl⟩
      · have a12 : op ≠ 12 := by omega
        have a13 : op ≠ 13 := by omega
        have a14 : op ≠ 14 := by omega
        have a15 : op ≠ 15 := by omega
        repeat first | refine qN ?_ | refine qM rfl ?_ | refine qA rfl ?_ | refine qS rfl ?_ | refine qL H b1 rfl ?_ | refine qT rfl ?_ | refine qF rfl ?_ | refine qI i (by omega) rfl ?_ | refine qI io (by omega) rfl ?_ | refine qP rfl ?_ | refine wQ ?_ | refine wR ?_ | refine wD ?_ | refine wN rfl ?_ | refine wS ?_ | refine wT rfl ?_ | refine wF rfl ?_
        refine SpB.boolF (by simp [a12]) rfl rfl rfl rfl rfl ?_
        repeat first | refine qN ?_ | refine qM rfl ?_ | refine qA rfl ?_ | refine qS rfl ?_ | refine qL H b1 rfl ?_ | refine qT rfl ?_ | refine qF rfl ?_ | refine qI i (by omega) rfl ?_ | refine qI io (by omega) rfl ?_ | refine qP rfl ?_ | refine wQ ?_ | refine wR ?_ | refine wD ?_ | refine wN rfl ?_ | refine wS ?_ | refine wT rfl ?_ | refine wF rfl ?_
        refine SpB.boolF (by simp [a13]) rfl rfl rfl rfl rfl ?_
        repeat first | refine qN ?_ | refine qM rfl ?_ | refine qA rfl ?_ | refine qS rfl ?_ | refine qL H b1 rfl ?_ | refine qT rfl ?_ | refine qF rfl ?_ | refine qI i (by omega) rfl ?_ | refine qI io (by omega) rfl ?_ | refine qP rfl ?_ | refine wQ ?_ | refine wR ?_ | refine wD ?_ | refine wN rfl ?_ | refine wS ?_ | refine wT rfl ?_ | refine wF rfl ?_
        refine SpB.boolF (by simp [a14]) rfl rfl rfl rfl rfl ?_
        repeat first | refine qN ?_ | refine qM rfl ?_ | refine qA rfl ?_ | refine qS rfl ?_ | refine qL H b1 rfl ?_ | refine qT rfl ?_ | refine qF rfl ?_ | refine qI i (by omega) rfl ?_ | refine qI io (by omega) rfl ?_ | refine qP rfl ?_ | refine wQ ?_ | refine wR ?_ | refine wD ?_ | refine wN rfl ?_ | refine wS ?_ | refine wT rfl ?_ | refine wF rfl ?_
        refine SpB.boolF (by simp [a15]) rfl rfl rfl rfl rfl ?_
        repeat first | refine qN ?_ | refine qM rfl ?_ | refine qA rfl ?_ | refine qS rfl ?_ | refine qL H b1 rfl ?_ | refine qT rfl ?_ | refine qF rfl ?_ | refine qI i (by omega) rfl ?_ | refine qI io (by omega) rfl ?_ | refine qP rfl ?_ | refine wQ ?_ | refine wR ?_ | refine wD ?_ | refine wN rfl ?_ | refine wS ?_ | refine wT rfl ?_ | refine wF rfl ?_
        exact ⟨(by repeat first | exact sub_nil | refine sub_cons rfl ?_), rfl, rfl⟩
    rintro h rfl
    repeat first | refine qN ?_ | refine qM rfl ?_ | refine qA rfl ?_ | refine qS rfl ?_ | refine qL H b1 rfl ?_ | refine qT rfl ?_ | refine qF rfl ?_ | refine qI i (by omega) rfl ?_ | refine qI io (by omega) rfl ?_ | refine qP rfl ?_ | refine wQ ?_ | refine wR ?_ | refine wD ?_ | refine wN rfl ?_ | refine wS ?_
    refine WpB.block ?_
    refine WpB.loopC n (fun i => [(5, .int .i64 (i : Int)), (1, l.v), (2, .pointer (some ⟨N + h0.sz, 0, none⟩))]) (fun i h => Hp N lim rd h ∧ h.blk h0.sz = some (.cells (E.mk op tb nm ix vk vi vt (.slice a n cap) n kid).cells) ∧ h0.sz < h.sz)
      ⟨H, b1, l1⟩ (by repeat first | exact sub_nil | refine sub_cons rfl ?_) ?_
    rintro i h hi ⟨H, b1, l1⟩
    repeat first | refine qN ?_ | refine qM rfl ?_ | refine qA rfl ?_ | refine qS rfl ?_ | refine qL H b1 rfl ?_ | refine qT rfl ?_ | refine qF rfl ?_ | refine qI i (by omega) rfl ?_ | refine qI io (by omega) rfl ?_ | refine qP rfl ?_ | refine wQ ?_ | refine wR ?_ | refine wD ?_ | refine wN rfl ?_ | refine wS ?_
    refine WpB.cond rfl (fun ht => ?_) fun ht => ?_
    · have hlt : i < n := by simpa using ht
      obtain ⟨b, off, rfl, hc⟩ := hx i hlt
      refine WpB.skip ?_
      refine WpB.seq (WpB.block ?_)
      repeat first | refine qN ?_ | refine qM rfl ?_ | refine qA rfl ?_ | refine qS rfl ?_ | refine qL H b1 rfl ?_ | refine qT rfl ?_ | refine qF rfl ?_ | refine qI i (by omega) rfl ?_ | refine qI io (by omega) rfl ?_ | refine qP rfl ?_ | refine wQ ?_ | refine wR ?_ | refine wD ?_ | refine wN rfl ?_ | refine wS ?_
      refine SpB.indexN hlt rfl rfl rfl rfl rfl rfl rfl rfl rfl ?_
      refine SpB.loadR H hc rfl rfl rfl rfl rfl rfl rfl ?_
      repeat first | refine qN ?_ | refine qM rfl ?_ | refine qA rfl ?_ | refine qS rfl ?_ | refine qL H b1 rfl ?_ | refine qT rfl ?_ | refine qF rfl ?_ | refine qI i (by omega) rfl ?_ | refine qI io (by omega) rfl ?_ | refine qP rfl ?_ | refine wQ ?_ | refine wR ?_ | refine wD ?_ | refine wN rfl ?_ | refine wS ?_
      refine SpB.callK Tryz.T1OK H (by omega) (supported_ok l hl0 (kid i) h H (hk i hlt) (hkt i hlt)) rfl rfl rfl rfl rfl ?_
      rintro v h ⟨r, rfl⟩ g
      have H := g.hp H
      have b1 := g.keep l1 b1
      have l1 := g.lt l1
      repeat first | refine qN ?_ | refine qM rfl ?_ | refine qA rfl ?_ | refine qS rfl ?_ | refine qL H b1 rfl ?_ | refine qT rfl ?_ | refine qF rfl ?_ | refine qI i (by omega) rfl ?_ | refine qI io (by omega) rfl ?_ | refine qP rfl ?_ | refine wQ ?_ | refine wR ?_ | refine wD ?_ | refine wN rfl ?_ | refine wS ?_
      refine WpB.cond rfl (fun ht2 => ?_) fun ht2 => ?_
      · repeat first | refine qN ?_ | refine qM rfl ?_ | refine qA rfl ?_ | refine qS rfl ?_ | refine qL H b1 rfl ?_ | refine qT rfl ?_ | refine qF rfl ?_ | refine qI i (by omega) rfl ?_ | refine qI io (by omega) rfl ?_ | refine qP rfl ?_ | refine wQ ?_ | refine wR ?_ | refine wD ?_ | refine wN rfl ?_ | refine wS ?_
        exact WpB.ret ⟨_, rfl, hB _⟩
      · repeat first | refine qN ?_ | refine qM rfl ?_ | refine qA rfl ?_ | refine qS rfl ?_ | refine qL H b1 rfl ?_ | refine qT rfl ?_ | refine qF rfl ?_ | refine qI i (by omega) rfl ?_ | refine qI io (by omega) rfl ?_ | refine qP rfl ?_ | refine wQ ?_ | refine wR ?_ | refine wD ?_ | refine wN rfl ?_ | refine wS ?_
        exact ⟨hlt, (by repeat first | exact sub_nil | refine sub_cons rfl ?_), ⟨H, b1, l1⟩, rfl⟩
    · refine WpB.exit ?_
      repeat first | refine qN ?_ | refine qM rfl ?_ | refine qA rfl ?_ | refine qS rfl ?_ | refine qL H b1 rfl ?_ | refine qT rfl ?_ | refine qF rfl ?_ | refine qI i (by omega) rfl ?_ | refine qI io (by omega) rfl ?_ | refine qP rfl ?_ | refine wQ ?_ | refine wR ?_ | refine wD ?_ | refine wN rfl ?_ | refine wS ?_
      exact WpB.ret ⟨_, rfl, hB _⟩

theorem bound32_ok {N lim : Nat} {rd : RO} (l : Sl Vr) (hl : l.At rd 5 Vr.cells fun _ => True) (e : E) (h0 : AH) (H : Hp N lim rd h0) (he : e.At rd) : Kp TT 32 [.agg ⟨e.cells⟩, l.v] h0 fun v _ => ∃ b, v = .bool b ∧ (b = true → e.same E.zero = true ∨ (e.Ty l.lt l.n 0 ∨ e.Ty l.lt l.n 3)) := by
  have habs := fun h (H : Hp N lim rd h) => absent_ok e h H he
  have hfit := fun h (H : Hp N lim rd h) => fits_ok l hl e 3 (by omega) h H he
  have hsup := fun h (H : Hp N lim rd h) ht => supported_ok l hl e h H he ht
  obtain ⟨o, x1, x2, x3, x4, x5, x6, x7, hc⟩ := E.cells8 he
  rw [hc] at habs hfit hsup ⊢
  refine Kp.of (fi := Tryz.fi32) rfl rfl rfl ?_
  refine WpB.seq (WpB.region ?_)
  refine SpB.box H rfl rfl rfl rfl rfl rfl fun h g s1 b1 => ?_
  have hle := H.le
  have H := g.hp H
  have l1 : h0.sz < h.sz := by omega
  clear g s1
  repeat first | refine qN ?_ | refine qM rfl ?_ | refine qA rfl ?_ | refine qS rfl ?_ | refine qL H b1 rfl ?_ | refine qT rfl ?_ | refine qF rfl ?_ | refine qI i (by omega) rfl ?_ | refine qI io (by omega) rfl ?_ | refine qP rfl ?_ | refine wQ ?_ | refine wR ?_ | refine wD ?_ | refine wN rfl ?_ | refine wS ?_
  refine SpB.callK Tryz.T1OK H (by omega) (habs h H) rfl rfl rfl rfl rfl ?_
  rintro v h rfl g
  have H := g.hp H
  have b1 := g.keep l1 b1
  have l1 := g.lt l1
  refine qB rfl (fun c1 => ?_) fun c1 => ?_
  · repeat' first | refine qN ?_ | refine qM rfl ?_ | refine qA rfl ?_ | refine qS rfl ?_ | refine qL H b1 rfl ?_ | refine qT rfl ?_ | refine qF rfl ?_ | refine qB rfl (fun ht => ?_) fun ht => ?_ | refine qI i (by omega) rfl ?_ | refine qI io (by omega) rfl ?_ | refine qP rfl ?_ | refine wQ ?_ | refine wR ?_ | refine wD ?_ | refine wN rfl ?_ | refine wS ?_ | refine wT rfl ?_ | refine wF rfl ?_ | refine WpB.cond rfl (fun ht => ?_) fun ht => ?_
    exact WpB.ret ⟨_, rfl, ⟨_, rfl, fun _ => .inl c1⟩, Nat.le_refl _⟩
  · repeat first | refine qN ?_ | refine qM rfl ?_ | refine qA rfl ?_ | refine qS rfl ?_ | refine qL H b1 rfl ?_ | refine qT rfl ?_ | refine qF rfl ?_ | refine qI i (by omega) rfl ?_ | refine qI io (by omega) rfl ?_ | refine qP rfl ?_ | refine wQ ?_ | refine wR ?_ | refine wD ?_ | refine wN rfl ?_ | refine wS ?_
    refine SpB.callK Tryz.T1OK H (by omega) (hfit h H) rfl rfl rfl rfl rfl ?_
    rintro v h ⟨r, rfl, hr⟩ g
    have H := g.hp H
    have b1 := g.keep l1 b1
    have l1 := g.lt l1
    cases r with
    | false =>
      repeat first | refine qN ?_ | refine qM rfl ?_ | refine qA rfl ?_ | refine qS rfl ?_ | refine qL H b1 rfl ?_ | refine qT rfl ?_ | refine qF rfl ?_ | refine qI i (by omega) rfl ?_ | refine qI io (by omega) rfl ?_ | refine qP rfl ?_ | refine wQ ?_ | refine wR ?_ | refine wD ?_ | refine wN rfl ?_ | refine wS ?_
      exact WpB.ret ⟨_, rfl, ⟨_, rfl, fun h => by cases h⟩, Nat.le_refl _⟩
    | true =>
      repeat first | refine qN ?_ | refine qM rfl ?_ | refine qA rfl ?_ | refine qS rfl ?_ | refine qL H b1 rfl ?_ | refine qT rfl ?_ | refine qF rfl ?_ | refine qI i (by omega) rfl ?_ | refine qI io (by omega) rfl ?_ | refine qP rfl ?_ | refine wQ ?_ | refine wR ?_ | refine wD ?_ | refine wN rfl ?_ | refine wS ?_
      refine SpB.callK Tryz.T1OK H (by omega) (hsup h H (by rcases (hr rfl).1 with h | h; exact ⟨_, h⟩; exact ⟨_, h⟩)) rfl rfl rfl rfl rfl ?_
      rintro v h ⟨r2, rfl⟩ g
      repeat first | refine qN ?_ | refine qM rfl ?_ | refine qA rfl ?_ | refine qS rfl ?_ | refine qL H b1 rfl ?_ | refine qT rfl ?_ | refine qF rfl ?_ | refine qI i (by omega) rfl ?_ | refine qI io (by omega) rfl ?_ | refine qP rfl ?_ | refine wQ ?_ | refine wR ?_ | refine wD ?_ | refine wN rfl ?_ | refine wS ?_
      exact WpB.ret ⟨_, rfl, ⟨_, rfl, fun _ => .inr (hr rfl).1⟩, Nat.le_refl _⟩

end Go.Proofs.YtkjkcoemloakhaaGreat
end


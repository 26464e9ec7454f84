/- Walks over expressions (chapter 44): nodes. -/
import Derived.Test.YtkjkcoemloakhaaGreatWpairs
set_option linter.unusedVariables false
namespace Go.Proofs.YtkjkcoemloakhaaGreat
open Go Go.Vae
set_option maxRecDepth 100000

theorem nodes_ok {N : Nat} {rd : RO} : ∀ (e : E) (h : AH) (lim : Int), Hp N rd h → e.At rd → 0 ≤ lim → lim ≤ 1000000 → Kp TT 62 [.agg ⟨e.cells⟩, .int .i64 lim] h fun v _ => ∃ m, v = .int .i64 m ∧ 1 ≤ m ∧ m ≤ lim + 1 ∧ (m ≤ lim → (e.size : Int) ≤ m ∧ e.short)
  | .nil, h, _, _, he, _, _ => he.elim
  | .mk op tb nm ix vk vi vt sl n kid, h0, lim, H, he, hl0, hl1 => by
    obtain ⟨_, ⟨ht1, ht2, ht3⟩, hn, ⟨a, cap, rfl, _, _, hx⟩, hk⟩ := he
    have hreach : reachBytes < 2 ^ 47 := by decide
    simp only [txt] at ht1 ht2 ht3
    have w1 : IntKind.i64.wrap ((nm.data.toList.length : Int) + (tb.data.toList.length : Int)) = ((nm.data.toList.length + tb.data.toList.length : Nat) : Int) := by rw [wrap_small (by omega) (by omega)]; omega
    have w2 : IntKind.i64.wrap (((nm.data.toList.length + tb.data.toList.length : Nat) : Int) + (vt.data.toList.length : Int)) = ((nm.data.toList.length + tb.data.toList.length + vt.data.toList.length : Nat) : Int) := by rw [wrap_small (by omega) (by omega)]; omega
    refine Kp.of (fi := Tryz.fi62) rfl rfl rfl ?_
    refine WpB.seq (WpB.region ?_)
    refine SpB.box H rfl rfl rfl rfl rfl rfl fun h g s1 b1 => ?_
    have H := g.hp H
    have l1 : h0.sz < h.sz := by omega
    clear g s1
    refine SpB.assign rfl rfl rfl rfl rfl (SpB.nil ?_)
    refine WpB.cut [(2, .pointer (some ⟨N + h0.sz, 0, none⟩)), (1, .int .i64 lim)] (fun h' => h' = h ∧ txt nm + txt tb + txt vt ≤ 100) ?_ ?_
    · repeat first | refine SpB.nil ?_ | refine SpB.move rfl rfl rfl rfl rfl ?_ | refine SpB.assign rfl rfl rfl rfl rfl ?_ | refine SpB.skip rfl rfl rfl ?_ | refine SpB.loadO H b1 rfl rfl rfl rfl rfl rfl ?_ | refine SpB.pure (v := .bool true) rfl rfl rfl rfl rfl ?_ | refine SpB.pure (v := .bool false) rfl rfl rfl rfl rfl ?_ | refine SpB.inc (i := i) (by omega) rfl rfl rfl rfl rfl ?_ | refine SpB.pureS rfl rfl rfl rfl rfl rfl ?_ | refine WpB.seq ?_ | refine WpB.region ?_ | refine WpB.draw ?_ | refine And.intro (fun hw => by have hw : false = true := hw; cases hw) ?_ | refine WpB.skip ?_
      refine WpB.cond rfl (fun ht => ?_) fun ht => ?_
      · refine WpB.seq (WpB.region ?_)
        repeat first | refine SpB.nil ?_ | refine SpB.move rfl rfl rfl rfl rfl ?_ | refine SpB.assign rfl rfl rfl rfl rfl ?_ | refine SpB.skip rfl rfl rfl ?_ | refine SpB.loadO H b1 rfl rfl rfl rfl rfl rfl ?_ | refine SpB.pure (v := .bool true) rfl rfl rfl rfl rfl ?_ | refine SpB.pure (v := .bool false) rfl rfl rfl rfl rfl ?_ | refine SpB.inc (i := i) (by omega) rfl rfl rfl rfl rfl ?_ | refine SpB.pureS rfl rfl rfl rfl rfl rfl ?_ | refine WpB.seq ?_ | refine WpB.region ?_ | refine WpB.draw ?_ | refine And.intro (fun hw => by have hw : false = true := hw; cases hw) ?_ | refine WpB.skip ?_
        refine WpB.ret ⟨_, rfl, ⟨lim + 1, by rw [wrap_small (by omega) (by omega)], by omega, by omega, by omega⟩, Nat.le_refl _⟩
      · repeat first | refine SpB.nil ?_ | refine SpB.move rfl rfl rfl rfl rfl ?_ | refine SpB.assign rfl rfl rfl rfl rfl ?_ | refine SpB.skip rfl rfl rfl ?_ | refine SpB.loadO H b1 rfl rfl rfl rfl rfl rfl ?_ | refine SpB.pure (v := .bool true) rfl rfl rfl rfl rfl ?_ | refine SpB.pure (v := .bool false) rfl rfl rfl rfl rfl ?_ | refine SpB.inc (i := i) (by omega) rfl rfl rfl rfl rfl ?_ | refine SpB.pureS rfl rfl rfl rfl rfl rfl ?_ | refine WpB.seq ?_ | refine WpB.region ?_ | refine WpB.draw ?_ | refine And.intro (fun hw => by have hw : false = true := hw; cases hw) ?_ | refine WpB.skip ?_
        refine ⟨(by repeat first | exact sub_nil | refine sub_cons rfl ?_), ⟨rfl, ?_⟩, rfl⟩
        rw [w1, w2] at ht
        have ht := of_decide_eq_false ht
        simp only [txt]
        omega
    · rintro _ ⟨rfl, hsh⟩
      repeat first | refine SpB.nil ?_ | refine SpB.move rfl rfl rfl rfl rfl ?_ | refine SpB.assign rfl rfl rfl rfl rfl ?_ | refine SpB.skip rfl rfl rfl ?_ | refine SpB.loadO H b1 rfl rfl rfl rfl rfl rfl ?_ | refine SpB.pure (v := .bool true) rfl rfl rfl rfl rfl ?_ | refine SpB.pure (v := .bool false) rfl rfl rfl rfl rfl ?_ | refine SpB.inc (i := i) (by omega) rfl rfl rfl rfl rfl ?_ | refine SpB.pureS rfl rfl rfl rfl rfl rfl ?_ | refine WpB.seq ?_ | refine WpB.region ?_ | refine WpB.draw ?_ | refine And.intro (fun hw => by have hw : false = true := hw; cases hw) ?_ | refine WpB.skip ?_
      refine WpB.block ?_
      refine WpB.loopS (σ := Nat × Int) (fun s => n - s.1) (fun s => [(6, .int .i64 (s.1 : Int)), (5, .int .i64 s.2), (2, .pointer (some ⟨N + h0.sz, 0, none⟩)), (1, .int .i64 lim)])
        (fun s h => Hp N rd h ∧ h.blk h0.sz = some (.cells [.int .i64 op, .string tb, .string nm, .int .i64 ix, .int .i64 vk, .int .i64 vi, .string vt, .slice a n cap]) ∧ h0.sz < h.sz ∧ s.1 ≤ n ∧ 1 ≤ s.2 ∧ s.2 ≤ lim + 1 ∧
          (s.2 ≤ lim → ((1 + sumTo (fun i => (kid i).size) s.1 : Nat) : Int) ≤ s.2 ∧ ∀ j, j < s.1 → (kid j).short)) (0, 1)
        ⟨H, b1, l1, Nat.zero_le _, by omega, by omega, fun _ => ⟨by simp [sumTo], fun j hj => absurd hj (Nat.not_lt_zero _)⟩⟩ (by repeat first | exact sub_nil | refine sub_cons rfl ?_) ?_
      rintro ⟨i, m⟩ h ⟨H, b1, l1, hi, hm1, hm2, hm3⟩
      simp only at hi hm1 hm2 hm3
      refine WpB.seq (WpB.seq (WpB.region ?_))
      repeat first | refine SpB.nil ?_ | refine SpB.move rfl rfl rfl rfl rfl ?_ | refine SpB.assign rfl rfl rfl rfl rfl ?_ | refine SpB.skip rfl rfl rfl ?_ | refine SpB.loadO H b1 rfl rfl rfl rfl rfl rfl ?_ | refine SpB.pure (v := .bool true) rfl rfl rfl rfl rfl ?_ | refine SpB.pure (v := .bool false) rfl rfl rfl rfl rfl ?_ | refine SpB.inc (i := i) (by omega) rfl rfl rfl rfl rfl ?_ | refine SpB.pureS rfl rfl rfl rfl rfl rfl ?_ | refine WpB.seq ?_ | refine WpB.region ?_ | refine WpB.draw ?_ | refine And.intro (fun hw => by have hw : false = true := hw; cases hw) ?_ | refine WpB.skip ?_
      refine SpB.boolN rfl rfl rfl rfl rfl rfl (fun ht => ?_) fun ht => ?_
      · have hlt : i < n := by simpa using ht
        clear ht
        repeat first | refine SpB.nil ?_ | refine SpB.move rfl rfl rfl rfl rfl ?_ | refine SpB.assign rfl rfl rfl rfl rfl ?_ | refine SpB.skip rfl rfl rfl ?_ | refine SpB.loadO H b1 rfl rfl rfl rfl rfl rfl ?_ | refine SpB.pure (v := .bool true) rfl rfl rfl rfl rfl ?_ | refine SpB.pure (v := .bool false) rfl rfl rfl rfl rfl ?_ | refine SpB.inc (i := i) (by omega) rfl rfl rfl rfl rfl ?_ | refine SpB.pureS rfl rfl rfl rfl rfl rfl ?_ | refine WpB.seq ?_ | refine WpB.region ?_ | refine WpB.draw ?_ | refine And.intro (fun hw => by have hw : false = true := hw; cases hw) ?_ | refine WpB.skip ?_
        refine WpB.cond rfl (fun ht => ?_) fun ht => ?_
        · have hle : m ≤ lim := by simpa using ht
          clear ht
          obtain ⟨b, off, rfl, hc⟩ := hx i hlt
          refine WpB.skip ?_
          refine WpB.seq (WpB.block ?_)
          repeat first | refine SpB.nil ?_ | refine SpB.move rfl rfl rfl rfl rfl ?_ | refine SpB.assign rfl rfl rfl rfl rfl ?_ | refine SpB.skip rfl rfl rfl ?_ | refine SpB.loadO H b1 rfl rfl rfl rfl rfl rfl ?_ | refine SpB.pure (v := .bool true) rfl rfl rfl rfl rfl ?_ | refine SpB.pure (v := .bool false) rfl rfl rfl rfl rfl ?_ | refine SpB.inc (i := i) (by omega) rfl rfl rfl rfl rfl ?_ | refine SpB.pureS rfl rfl rfl rfl rfl rfl ?_ | refine WpB.seq ?_ | refine WpB.region ?_ | refine WpB.draw ?_ | refine And.intro (fun hw => by have hw : false = true := hw; cases hw) ?_ | refine WpB.skip ?_
          refine SpB.indexN hlt rfl rfl rfl rfl rfl rfl rfl rfl rfl ?_
          refine SpB.loadR H hc rfl rfl rfl rfl rfl rfl rfl ?_
          repeat first | refine SpB.nil ?_ | refine SpB.move rfl rfl rfl rfl rfl ?_ | refine SpB.assign rfl rfl rfl rfl rfl ?_ | refine SpB.skip rfl rfl rfl ?_ | refine SpB.loadO H b1 rfl rfl rfl rfl rfl rfl ?_ | refine SpB.pure (v := .bool true) rfl rfl rfl rfl rfl ?_ | refine SpB.pure (v := .bool false) rfl rfl rfl rfl rfl ?_ | refine SpB.inc (i := i) (by omega) rfl rfl rfl rfl rfl ?_ | refine SpB.pureS rfl rfl rfl rfl rfl rfl ?_ | refine WpB.seq ?_ | refine WpB.region ?_ | refine WpB.draw ?_ | refine And.intro (fun hw => by have hw : false = true := hw; cases hw) ?_ | refine WpB.skip ?_
          have w3 : IntKind.i64.wrap (lim - m) = lim - m := wrap_small (by omega) (by omega)
          refine SpB.callK Tryz.T1OK H (by omega) (nodes_ok (kid i) h (IntKind.i64.wrap (lim - m)) H (hk i hlt) (by rw [w3]; omega) (by rw [w3]; omega)) rfl rfl rfl rfl rfl ?_
          rintro v h ⟨r, rfl, hr1, hr2, hr3⟩ g
          rw [w3] at hr2 hr3
          have H := g.hp H
          have b1 := g.keep l1 b1
          have l1 := g.lt l1
          have w4 : IntKind.i64.wrap (m + r) = m + r := wrap_small (by omega) (by omega)
          repeat first | refine SpB.nil ?_ | refine SpB.move rfl rfl rfl rfl rfl ?_ | refine SpB.assign rfl rfl rfl rfl rfl ?_ | refine SpB.skip rfl rfl rfl ?_ | refine SpB.loadO H b1 rfl rfl rfl rfl rfl rfl ?_ | refine SpB.pure (v := .bool true) rfl rfl rfl rfl rfl ?_ | refine SpB.pure (v := .bool false) rfl rfl rfl rfl rfl ?_ | refine SpB.inc (i := i) (by omega) rfl rfl rfl rfl rfl ?_ | refine SpB.pureS rfl rfl rfl rfl rfl rfl ?_ | refine WpB.seq ?_ | refine WpB.region ?_ | refine WpB.draw ?_ | refine And.intro (fun hw => by have hw : false = true := hw; cases hw) ?_ | refine WpB.skip ?_
          have hs : ((sumTo (fun i => (kid i).size) (i + 1) : Nat) : Int) = sumTo (fun i => (kid i).size) i + (kid i).size := by simp [sumTo]
          refine ⟨(i + 1, m + r), by show n - (i + 1) < n - i; omega, sub_cons rfl (sub_cons (by show some (Value.int .i64 (IntKind.i64.wrap (m + r))) = _; rw [w4]) (sub_cons rfl (sub_cons rfl sub_nil))), ⟨H, b1, l1, by show i + 1 ≤ n; omega, by show 1 ≤ m + r; omega, by show m + r ≤ lim + 1; omega, fun hle2 => ?_⟩, rfl⟩
          have hle2 : m + r ≤ lim := hle2
          obtain ⟨g1, g2⟩ := hm3 hle
          obtain ⟨g3, g4⟩ := hr3 (by omega)
          refine ⟨by show _ ≤ m + r; push_cast at g1 ⊢; rw [hs]; omega, fun j hj => ?_⟩
          by_cases e : j = i
          · subst e; exact g4
          · exact g2 j (by have : j < i + 1 := hj; omega)
        · have hle : ¬ m ≤ lim := by simpa using ht
          refine WpB.exit ?_
          repeat first | refine SpB.nil ?_ | refine SpB.move rfl rfl rfl rfl rfl ?_ | refine SpB.assign rfl rfl rfl rfl rfl ?_ | refine SpB.skip rfl rfl rfl ?_ | refine SpB.loadO H b1 rfl rfl rfl rfl rfl rfl ?_ | refine SpB.pure (v := .bool true) rfl rfl rfl rfl rfl ?_ | refine SpB.pure (v := .bool false) rfl rfl rfl rfl rfl ?_ | refine SpB.inc (i := i) (by omega) rfl rfl rfl rfl rfl ?_ | refine SpB.pureS rfl rfl rfl rfl rfl rfl ?_ | refine WpB.seq ?_ | refine WpB.region ?_ | refine WpB.draw ?_ | refine And.intro (fun hw => by have hw : false = true := hw; cases hw) ?_ | refine WpB.skip ?_
          refine WpB.ret ⟨_, rfl, ⟨m, rfl, hm1, hm2, fun h => absurd h hle⟩, Nat.le_refl _⟩
      · have hge : ¬ i < n := by simpa using ht
        repeat first | refine SpB.nil ?_ | refine SpB.move rfl rfl rfl rfl rfl ?_ | refine SpB.assign rfl rfl rfl rfl rfl ?_ | refine SpB.skip rfl rfl rfl ?_ | refine SpB.loadO H b1 rfl rfl rfl rfl rfl rfl ?_ | refine SpB.pure (v := .bool true) rfl rfl rfl rfl rfl ?_ | refine SpB.pure (v := .bool false) rfl rfl rfl rfl rfl ?_ | refine SpB.inc (i := i) (by omega) rfl rfl rfl rfl rfl ?_ | refine SpB.pureS rfl rfl rfl rfl rfl rfl ?_ | refine WpB.seq ?_ | refine WpB.region ?_ | refine WpB.draw ?_ | refine And.intro (fun hw => by have hw : false = true := hw; cases hw) ?_ | refine WpB.skip ?_
        refine WpB.condF rfl ?_
        refine WpB.exit ?_
        repeat first | refine SpB.nil ?_ | refine SpB.move rfl rfl rfl rfl rfl ?_ | refine SpB.assign rfl rfl rfl rfl rfl ?_ | refine SpB.skip rfl rfl rfl ?_ | refine SpB.loadO H b1 rfl rfl rfl rfl rfl rfl ?_ | refine SpB.pure (v := .bool true) rfl rfl rfl rfl rfl ?_ | refine SpB.pure (v := .bool false) rfl rfl rfl rfl rfl ?_ | refine SpB.inc (i := i) (by omega) rfl rfl rfl rfl rfl ?_ | refine SpB.pureS rfl rfl rfl rfl rfl rfl ?_ | refine WpB.seq ?_ | refine WpB.region ?_ | refine WpB.draw ?_ | refine And.intro (fun hw => by have hw : false = true := hw; cases hw) ?_ | refine WpB.skip ?_
        refine WpB.ret ⟨_, rfl, ⟨m, rfl, hm1, hm2, fun h => ?_⟩, Nat.le_refl _⟩
        obtain rfl : i = n := by omega
        obtain ⟨g1, g2⟩ := hm3 h
        exact ⟨by simp only [E.size]; exact g1, by simpa [txt] using hsh, g2⟩
end Go.Proofs.YtkjkcoemloakhaaGreat

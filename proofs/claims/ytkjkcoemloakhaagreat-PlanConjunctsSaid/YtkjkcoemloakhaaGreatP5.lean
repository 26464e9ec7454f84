/- A part of the evaluator, of its proof or of the walks (laid together by a program of my own); conditions: none. -/
import Derived.Test.YtkjkcoemloakhaaGreatP1
import Derived.Test.YtkjkcoemloakhaaGreatP2
import Derived.Test.YtkjkcoemloakhaaGreatP3
import Derived.Test.YtkjkcoemloakhaaGreatP4
section
set_option linter.unusedVariables false
set_option linter.unusedSimpArgs false
namespace Go.Vae
open Go

section
variable {T : Tabs} {nt : Nat} {ops l : List Oper} {o : Oper} {bs : Bs} {h : AH} {low : Nat} {Q : Bs → AH → Nat → List Acc → Prop}

theorem SpB.sliceStr {t : TypeId} {x a b : Operand} {s : ByteArray} {lo hi : Nat} {ti : TI} {d : Nat} (h1 : lo ≤ hi) (h2 : hi ≤ s.data.toList.length) (ho : o.op = .slice t x (some a) (some b) none) (hw : wantedB ops bs o = some true) (hx : evB bs h x = some (.string s))
    (ha : evB bs h a = some (.int .i64 (lo : Int))) (hb : evB bs h b = some (.int .i64 (hi : Int))) (ht : T.ty t = some ti) (hk : ti.k = .string) (hd : o.dst = some d) (hlt : Nat.blt d nt = true)
    (hk2 : SpB T nt ops l ((d, .string ⟨⟨(s.data.toList.take hi).drop lo⟩⟩) :: bs) h low fun b' h' l' acs => Q b' h' l' (⟨[], [], h.sz, h.sz, none⟩ :: acs)) : SpB T nt ops (o :: l) bs h low Q :=
  SpB.pure hw (by rw [ho]; simp [Op.operands, allB, hx, ha, hb]) (by
    have e1 : decide (0 ≤ (lo : Int)) = true := by simp
    have e2 : decide (0 ≤ (hi : Int)) = true := by simp
    have e3 : (Nat.ble lo hi && Nat.ble hi s.data.toList.length) = true := by rw [Nat.ble_eq_true_of_le h1, Nat.ble_eq_true_of_le h2]; rfl
    simp only [aop, ho, rho_some hx, Option.map_some, Option.map_none, rho_some ha, rho_some hb, aslice, ht, hk, abound, e1, e2, cond, Int.toNat_natCast, e3]
    rfl) hd hlt hk2

theorem SpB.concat {t u : TypeId} {x y : Operand} {s r : ByteArray} {d : Nat} (h1 : s.data.toList.length + r.data.toList.length ≤ 9223372036854775807) (ho : o.op = .binOp .add t x y u) (hw : wantedB ops bs o = some true) (hx : evB bs h x = some (.string s)) (hy : evB bs h y = some (.string r)) (hd : o.dst = some d) (hlt : Nat.blt d nt = true)
    (hk2 : SpB T nt ops l ((d, .string ⟨⟨s.data.toList ++ r.data.toList⟩⟩) :: bs) h low fun b' h' l' acs => Q b' h' l' (⟨[], [], h.sz, h.sz, none⟩ :: acs)) : SpB T nt ops (o :: l) bs h low Q :=
  SpB.pure hw (by rw [ho]; simp [Op.operands, allB, hx, hy]) (by
    simp only [aop, ho, rho_some hx, rho_some hy, abin, astr, Nat.ble_eq_true_of_le h1, cond, okO]) hd hlt hk2
end

theorem res2 {T : Tabs} {h : AH} {bs : Bs} {t u : Nat} {v w : Value} (hl : look bs t = some v) (hm : look bs u = some w) (h1 : isOne v = true) (h2 : isOne w = true) : resAllB T h bs [.tmp t, .tmp u] = some (.tuple #[v, w]) := by
  simp [resAllB, resVsB, resVB, hl, hm, h1, h2]

end Go.Vae
end

section
set_option linter.unusedVariables false
namespace Go.Proofs.YtkjkcoemloakhaaGreat
open Go Go.Vae
set_option maxRecDepth 100000

/-- All numbers are columns. -/
def insideP (n : Nat) (l : Sl Int) : Prop := ∀ i, i < l.n → 0 ≤ l.x i ∧ l.x i < (n : Int)

theorem inside_ok {N lim : Nat} {rd : RO} (t : Tb) (l : Sl Int) (h0 : AH) (H : Hp N lim rd h0) (ht : t.At rd) (hl : l.ints rd) : Kp TT 52 [.agg ⟨t.cells⟩, l.v] h0 fun v _ => ∃ b, v = .bool b ∧ (b = true → insideP t.cols.n l) := by
  obtain ⟨nm, ⟨cv, cn, cx⟩, keys, fors, chk⟩ := t
  obtain ⟨hn1, ⟨ca, ccap, hcv, _, _, _⟩, _⟩ := ht.cols
  obtain ⟨lv, ln, lx⟩ := l
  obtain ⟨hln, ⟨la, lcap, hlv, _, _, hlx⟩, _⟩ := hl
  simp only at hcv hlv hlx hln hn1
  subst hcv hlv
  have hreach : reachBytes < 2 ^ 47 := by decide
  have hf : (∃ b, Value.bool false = .bool b ∧ (b = true → insideP cn ⟨.slice la ln lcap, ln, lx⟩)) ∧ h0.sz ≤ h0.sz := ⟨⟨false, rfl, fun h => by cases h⟩, Nat.le_refl _⟩
  refine Kp.of (fi := Tryz.fi52) rfl rfl rfl ?_
  refine WpB.seq (WpB.region ?_)
  refine SpB.box H rfl rfl rfl rfl rfl rfl fun h g s1 b1 => ?_
  have hle := H.le
  have H := g.hp H
  have l1 : h0.sz < h.sz := by omega
  clear g s1
  repeat first | refine qN ?_ | refine qM rfl ?_ | refine qA rfl ?_ | refine qS rfl ?_ | refine qL H b1 rfl ?_ | refine qT rfl ?_ | refine qF rfl ?_ | refine qI i (by omega) rfl ?_ | refine qI io (by omega) rfl ?_ | refine qP rfl ?_ | refine wQ ?_ | refine wR ?_ | refine wD ?_ | refine wN rfl ?_ | refine wS ?_
  refine WpB.block ?_
  refine WpB.loopC ln (fun i => [(5, .int .i64 (i : Int)), (1, .slice la ln lcap), (2, .pointer (some ⟨N + h0.sz, 0, none⟩))]) (fun i h' => h' = h ∧ ∀ j, j < i → 0 ≤ lx j ∧ lx j < (cn : Int)) ⟨rfl, fun j hj => absurd hj (Nat.not_lt_zero _)⟩ (by repeat first | exact sub_nil | refine sub_cons rfl ?_) ?_
  rintro i h hi ⟨rfl, hj⟩
  repeat first | refine qN ?_ | refine qM rfl ?_ | refine qA rfl ?_ | refine qS rfl ?_ | refine qL H b1 rfl ?_ | refine qT rfl ?_ | refine qF rfl ?_ | refine qI i (by omega) rfl ?_ | refine qI io (by omega) rfl ?_ | refine qP rfl ?_ | refine wQ ?_ | refine wR ?_ | refine wD ?_ | refine wN rfl ?_ | refine wS ?_
  refine WpB.cond rfl (fun ht => ?_) fun ht => ?_
  · have hlt : i < ln := by simpa using ht
    obtain ⟨b, off, rfl, hc⟩ := hlx i hlt
    refine WpB.skip ?_
    refine WpB.seq (WpB.block ?_)
    repeat first | refine qN ?_ | refine qM rfl ?_ | refine qA rfl ?_ | refine qS rfl ?_ | refine qL H b1 rfl ?_ | refine qT rfl ?_ | refine qF rfl ?_ | refine qI i (by omega) rfl ?_ | refine qI io (by omega) rfl ?_ | refine qP rfl ?_ | refine wQ ?_ | refine wR ?_ | refine wD ?_ | refine wN rfl ?_ | refine wS ?_
    refine SpB.indexN hlt rfl rfl rfl rfl rfl rfl rfl rfl rfl ?_
    refine SpB.loadRC H hc rfl rfl rfl rfl rfl rfl rfl ?_
    refine qB rfl (fun c1 => ?_) fun c1 => ?_
    · repeat' first | refine qN ?_ | refine qM rfl ?_ | refine qA rfl ?_ | refine qS rfl ?_ | refine qL H b1 rfl ?_ | refine qT rfl ?_ | refine qF rfl ?_ | refine qB rfl (fun ht => ?_) fun ht => ?_ | refine qI i (by omega) rfl ?_ | refine qI io (by omega) rfl ?_ | refine qP rfl ?_ | refine wQ ?_ | refine wR ?_ | refine wD ?_ | refine wN rfl ?_ | refine wS ?_ | refine wT rfl ?_ | refine wF rfl ?_ | refine WpB.cond rfl (fun ht => ?_) fun ht => ?_
      exact WpB.ret ⟨_, rfl, hf⟩
    have c1 : ¬ lx i < 0 := of_decide_eq_false c1
    repeat first | refine qN ?_ | refine qM rfl ?_ | refine qA rfl ?_ | refine qS rfl ?_ | refine qL H b1 rfl ?_ | refine qT rfl ?_ | refine qF rfl ?_ | refine qI i (by omega) rfl ?_ | refine qI io (by omega) rfl ?_ | refine qP rfl ?_ | refine wQ ?_ | refine wR ?_ | refine wD ?_ | refine wN rfl ?_ | refine wS ?_
    refine SpB.indexN hlt rfl rfl rfl rfl rfl rfl rfl rfl rfl ?_
    refine SpB.loadRC H hc rfl rfl rfl rfl rfl rfl rfl ?_
    repeat first | refine qN ?_ | refine qM rfl ?_ | refine qA rfl ?_ | refine qS rfl ?_ | refine qL H b1 rfl ?_ | refine qT rfl ?_ | refine qF rfl ?_ | refine qI i (by omega) rfl ?_ | refine qI io (by omega) rfl ?_ | refine qP rfl ?_ | refine wQ ?_ | refine wR ?_ | refine wD ?_ | refine wN rfl ?_ | refine wS ?_
    refine WpB.cond rfl (fun ht => ?_) fun ht => ?_
    · repeat first | refine qN ?_ | refine qM rfl ?_ | refine qA rfl ?_ | refine qS rfl ?_ | refine qL H b1 rfl ?_ | refine qT rfl ?_ | refine qF rfl ?_ | refine qI i (by omega) rfl ?_ | refine qI io (by omega) rfl ?_ | refine qP rfl ?_ | refine wQ ?_ | refine wR ?_ | refine wD ?_ | refine wN rfl ?_ | refine wS ?_
      exact WpB.ret ⟨_, rfl, hf⟩
    have c2 : ¬ lx i ≥ (cn : Int) := of_decide_eq_false ht
    repeat first | refine qN ?_ | refine qM rfl ?_ | refine qA rfl ?_ | refine qS rfl ?_ | refine qL H b1 rfl ?_ | refine qT rfl ?_ | refine qF rfl ?_ | refine qI i (by omega) rfl ?_ | refine qI io (by omega) rfl ?_ | refine qP rfl ?_ | refine wQ ?_ | refine wR ?_ | refine wD ?_ | refine wN rfl ?_ | refine wS ?_
    refine ⟨hlt, (by repeat first | exact sub_nil | refine sub_cons rfl ?_), ⟨rfl, fun j hj1 => ?_⟩, rfl⟩
    by_cases e : j = i
    · subst e; omega
    · exact hj j (by omega)
  · refine WpB.exit ?_
    have hge : ¬ i < ln := by simpa using ht
    repeat first | refine qN ?_ | refine qM rfl ?_ | refine qA rfl ?_ | refine qS rfl ?_ | refine qL H b1 rfl ?_ | refine qT rfl ?_ | refine qF rfl ?_ | refine qI i (by omega) rfl ?_ | refine qI io (by omega) rfl ?_ | refine qP rfl ?_ | refine wQ ?_ | refine wR ?_ | refine wD ?_ | refine wN rfl ?_ | refine wS ?_
    exact WpB.ret ⟨_, rfl, ⟨_, rfl, fun _ j (hj1 : j < ln) => hj j (by omega)⟩, Nat.le_refl _⟩

theorem twice_ok {N lim : Nat} {rd : RO} (l : Sl ByteArray) (h0 : AH) (H : Hp N lim rd h0) (hl : l.strs rd) : Kp TT 112 [l.v] h0 anyB := by
  obtain ⟨lv, ln, lx⟩ := l
  obtain ⟨hln, ⟨la, lcap, hlv, _, _, hlx⟩, _⟩ := hl
  simp only at hlv hlx hln
  subst hlv
  have hreach : reachBytes < 2 ^ 47 := by decide
  have b1 : True := trivial
  refine Kp.of (fi := Tryz.fi112) rfl rfl rfl ?_
  repeat first | refine qN ?_ | refine qM rfl ?_ | refine qA rfl ?_ | refine qS rfl ?_ | refine qL H b1 rfl ?_ | refine qT rfl ?_ | refine qF rfl ?_ | refine qI i (by omega) rfl ?_ | refine qI io (by omega) rfl ?_ | refine qP rfl ?_ | refine wQ ?_ | refine wR ?_ | refine wD ?_ | refine wN rfl ?_ | refine wS ?_
  refine WpB.block ?_
  refine WpB.loopC ln (fun i => [(3, .int .i64 (i : Int)), (0, .slice la ln lcap)]) (fun i h => h = h0) rfl (by repeat first | exact sub_nil | refine sub_cons rfl ?_) ?_
  rintro io h hio rfl
  repeat first | refine qN ?_ | refine qM rfl ?_ | refine qA rfl ?_ | refine qS rfl ?_ | refine qL H b1 rfl ?_ | refine qT rfl ?_ | refine qF rfl ?_ | refine qI i (by omega) rfl ?_ | refine qI io (by omega) rfl ?_ | refine qP rfl ?_ | refine wQ ?_ | refine wR ?_ | refine wD ?_ | refine wN rfl ?_ | refine wS ?_
  refine WpB.cond rfl (fun ht => ?_) fun ht => ?_
  · have hlo : io < ln := by simpa using ht
    refine WpB.skip ?_
    refine WpB.seq (WpB.block ?_)
    repeat first | refine qN ?_ | refine qM rfl ?_ | refine qA rfl ?_ | refine qS rfl ?_ | refine qL H b1 rfl ?_ | refine qT rfl ?_ | refine qF rfl ?_ | refine qI i (by omega) rfl ?_ | refine qI io (by omega) rfl ?_ | refine qP rfl ?_ | refine wQ ?_ | refine wR ?_ | refine wD ?_ | refine wN rfl ?_ | refine wS ?_
    refine WpB.block ?_
    refine WpB.loopC io (fun i => [(4, .int .i64 (i : Int)), (3, .int .i64 (io : Int)), (0, .slice la ln lcap)]) (fun i h' => h' = h) rfl (by repeat first | exact sub_nil | refine sub_cons rfl ?_) ?_
    rintro i h' hi rfl
    repeat first | refine qN ?_ | refine qM rfl ?_ | refine qA rfl ?_ | refine qS rfl ?_ | refine qL H b1 rfl ?_ | refine qT rfl ?_ | refine qF rfl ?_ | refine qI i (by omega) rfl ?_ | refine qI io (by omega) rfl ?_ | refine qP rfl ?_ | refine wQ ?_ | refine wR ?_ | refine wD ?_ | refine wN rfl ?_ | refine wS ?_
    refine WpB.cond rfl (fun ht => ?_) fun ht => ?_
    · have hlt : i < io := by simpa using ht
      have hli : i < ln := by omega
      obtain ⟨b, off, rfl, hc⟩ := hlx i hli
      obtain ⟨_, _, ha1, hc1⟩ := hlx io hlo
      injection ha1 with ha1
      injection ha1 with ha1 ha2
      subst ha1 ha2
      refine WpB.skip ?_
      refine WpB.seq (WpB.block ?_)
      repeat first | refine qN ?_ | refine qM rfl ?_ | refine qA rfl ?_ | refine qS rfl ?_ | refine qL H b1 rfl ?_ | refine qT rfl ?_ | refine qF rfl ?_ | refine qI i (by omega) rfl ?_ | refine qI io (by omega) rfl ?_ | refine qP rfl ?_ | refine wQ ?_ | refine wR ?_ | refine wD ?_ | refine wN rfl ?_ | refine wS ?_
      refine SpB.indexN hlo rfl rfl rfl rfl rfl rfl rfl rfl rfl ?_
      refine SpB.loadRC H hc1 rfl rfl rfl rfl rfl rfl rfl ?_
      repeat first | refine qN ?_ | refine qM rfl ?_ | refine qA rfl ?_ | refine qS rfl ?_ | refine qL H b1 rfl ?_ | refine qT rfl ?_ | refine qF rfl ?_ | refine qI i (by omega) rfl ?_ | refine qI io (by omega) rfl ?_ | refine qP rfl ?_ | refine wQ ?_ | refine wR ?_ | refine wD ?_ | refine wN rfl ?_ | refine wS ?_
      refine SpB.indexN hli rfl rfl rfl rfl rfl rfl rfl rfl rfl ?_
      refine SpB.loadRC H hc rfl rfl rfl rfl rfl rfl rfl ?_
      repeat first | refine qN ?_ | refine qM rfl ?_ | refine qA rfl ?_ | refine qS rfl ?_ | refine qL H b1 rfl ?_ | refine qT rfl ?_ | refine qF rfl ?_ | refine qI i (by omega) rfl ?_ | refine qI io (by omega) rfl ?_ | refine qP rfl ?_ | refine wQ ?_ | refine wR ?_ | refine wD ?_ | refine wN rfl ?_ | refine wS ?_
      refine WpB.cond rfl (fun ht => ?_) fun ht => ?_
      · repeat first | refine qN ?_ | refine qM rfl ?_ | refine qA rfl ?_ | refine qS rfl ?_ | refine qL H b1 rfl ?_ | refine qT rfl ?_ | refine qF rfl ?_ | refine qI i (by omega) rfl ?_ | refine qI io (by omega) rfl ?_ | refine qP rfl ?_ | refine wQ ?_ | refine wR ?_ | refine wD ?_ | refine wN rfl ?_ | refine wS ?_
        exact WpB.ret ⟨_, rfl, ⟨_, rfl⟩, Nat.le_refl _⟩
      · repeat first | refine qN ?_ | refine qM rfl ?_ | refine qA rfl ?_ | refine qS rfl ?_ | refine qL H b1 rfl ?_ | refine qT rfl ?_ | refine qF rfl ?_ | refine qI i (by omega) rfl ?_ | refine qI io (by omega) rfl ?_ | refine qP rfl ?_ | refine wQ ?_ | refine wR ?_ | refine wD ?_ | refine wN rfl ?_ | refine wS ?_
        exact ⟨hlt, (by repeat first | exact sub_nil | refine sub_cons rfl ?_), rfl, rfl⟩
    · refine WpB.exit ?_
      repeat first | refine qN ?_ | refine qM rfl ?_ | refine qA rfl ?_ | refine qS rfl ?_ | refine qL H b1 rfl ?_ | refine qT rfl ?_ | refine qF rfl ?_ | refine qI i (by omega) rfl ?_ | refine qI io (by omega) rfl ?_ | refine qP rfl ?_ | refine wQ ?_ | refine wR ?_ | refine wD ?_ | refine wN rfl ?_ | refine wS ?_
      exact ⟨hlo, (by repeat first | exact sub_nil | refine sub_cons rfl ?_), rfl, rfl⟩
  · refine WpB.exit ?_
    repeat first | refine qN ?_ | refine qM rfl ?_ | refine qA rfl ?_ | refine qS rfl ?_ | refine qL H b1 rfl ?_ | refine qT rfl ?_ | refine qF rfl ?_ | refine qI i (by omega) rfl ?_ | refine qI io (by omega) rfl ?_ | refine qP rfl ?_ | refine wQ ?_ | refine wR ?_ | refine wD ?_ | refine wN rfl ?_ | refine wS ?_
    exact WpB.ret ⟨_, rfl, ⟨_, rfl⟩, Nat.le_refl _⟩

theorem texts_ok {N lim : Nat} {rd : RO} (l m : Sl ByteArray) (h0 : AH) (H : Hp N lim rd h0) (hl : l.strs rd) (hm : m.strs rd) : Kp TT 113 [l.v, m.v] h0 anyB := by
  obtain ⟨lv, ln, lx⟩ := l
  obtain ⟨hln, ⟨la, lcap, hlv, _, _, hlx⟩, _⟩ := hl
  obtain ⟨mv, mn, mx⟩ := m
  obtain ⟨hmn, ⟨ma, mcap, hmv, _, _, hmx⟩, _⟩ := hm
  simp only at hlv hlx hln hmv hmx hmn
  subst hlv hmv
  have hreach : reachBytes < 2 ^ 47 := by decide
  have b1 : True := trivial
  refine Kp.of (fi := Tryz.fi113) rfl rfl rfl ?_
  repeat first | refine qN ?_ | refine qM rfl ?_ | refine qA rfl ?_ | refine qS rfl ?_ | refine qL H b1 rfl ?_ | refine qT rfl ?_ | refine qF rfl ?_ | refine qI i (by omega) rfl ?_ | refine qI io (by omega) rfl ?_ | refine qP rfl ?_ | refine wQ ?_ | refine wR ?_ | refine wD ?_ | refine wN rfl ?_ | refine wS ?_
  refine WpB.cond rfl (fun ht => ?_) fun ht => ?_
  · repeat first | refine qN ?_ | refine qM rfl ?_ | refine qA rfl ?_ | refine qS rfl ?_ | refine qL H b1 rfl ?_ | refine qT rfl ?_ | refine qF rfl ?_ | refine qI i (by omega) rfl ?_ | refine qI io (by omega) rfl ?_ | refine qP rfl ?_ | refine wQ ?_ | refine wR ?_ | refine wD ?_ | refine wN rfl ?_ | refine wS ?_
    exact WpB.ret ⟨_, rfl, ⟨_, rfl⟩, Nat.le_refl _⟩
  have hnm : ln = mn := by simp at ht; omega
  repeat first | refine qN ?_ | refine qM rfl ?_ | refine qA rfl ?_ | refine qS rfl ?_ | refine qL H b1 rfl ?_ | refine qT rfl ?_ | refine qF rfl ?_ | refine qI i (by omega) rfl ?_ | refine qI io (by omega) rfl ?_ | refine qP rfl ?_ | refine wQ ?_ | refine wR ?_ | refine wD ?_ | refine wN rfl ?_ | refine wS ?_
  refine WpB.block ?_
  refine WpB.loopC ln (fun i => [(5, .int .i64 (i : Int)), (1, .slice ma mn mcap), (0, .slice la ln lcap)]) (fun i h => h = h0) rfl (by repeat first | exact sub_nil | refine sub_cons rfl ?_) ?_
  rintro i h hi rfl
  repeat first | refine qN ?_ | refine qM rfl ?_ | refine qA rfl ?_ | refine qS rfl ?_ | refine qL H b1 rfl ?_ | refine qT rfl ?_ | refine qF rfl ?_ | refine qI i (by omega) rfl ?_ | refine qI io (by omega) rfl ?_ | refine qP rfl ?_ | refine wQ ?_ | refine wR ?_ | refine wD ?_ | refine wN rfl ?_ | refine wS ?_
  refine WpB.cond rfl (fun ht => ?_) fun ht => ?_
  · have hlt : i < ln := by simpa using ht
    obtain ⟨b, off, rfl, hc⟩ := hlx i hlt
    refine WpB.skip ?_
    refine WpB.seq (WpB.block ?_)
    obtain ⟨b', off', rfl, hc'⟩ := hmx i (by omega)
    repeat first | refine qN ?_ | refine qM rfl ?_ | refine qA rfl ?_ | refine qS rfl ?_ | refine qL H b1 rfl ?_ | refine qT rfl ?_ | refine qF rfl ?_ | refine qI i (by omega) rfl ?_ | refine qI io (by omega) rfl ?_ | refine qP rfl ?_ | refine wQ ?_ | refine wR ?_ | refine wD ?_ | refine wN rfl ?_ | refine wS ?_
    refine SpB.indexN hlt rfl rfl rfl rfl rfl rfl rfl rfl rfl ?_
    refine SpB.loadRC H hc rfl rfl rfl rfl rfl rfl rfl ?_
    repeat first | refine qN ?_ | refine qM rfl ?_ | refine qA rfl ?_ | refine qS rfl ?_ | refine qL H b1 rfl ?_ | refine qT rfl ?_ | refine qF rfl ?_ | refine qI i (by omega) rfl ?_ | refine qI io (by omega) rfl ?_ | refine qP rfl ?_ | refine wQ ?_ | refine wR ?_ | refine wD ?_ | refine wN rfl ?_ | refine wS ?_
    refine SpB.indexN (show i < mn by omega) rfl rfl rfl rfl rfl rfl rfl rfl rfl ?_
    refine SpB.loadRC H hc' rfl rfl rfl rfl rfl rfl rfl ?_
    repeat first | refine qN ?_ | refine qM rfl ?_ | refine qA rfl ?_ | refine qS rfl ?_ | refine qL H b1 rfl ?_ | refine qT rfl ?_ | refine qF rfl ?_ | refine qI i (by omega) rfl ?_ | refine qI io (by omega) rfl ?_ | refine qP rfl ?_ | refine wQ ?_ | refine wR ?_ | refine wD ?_ | refine wN rfl ?_ | refine wS ?_
    refine WpB.cond rfl (fun ht => ?_) fun ht => ?_
    · repeat first | refine qN ?_ | refine qM rfl ?_ | refine qA rfl ?_ | refine qS rfl ?_ | refine qL H b1 rfl ?_ | refine qT rfl ?_ | refine qF rfl ?_ | refine qI i (by omega) rfl ?_ | refine qI io (by omega) rfl ?_ | refine qP rfl ?_ | refine wQ ?_ | refine wR ?_ | refine wD ?_ | refine wN rfl ?_ | refine wS ?_
      exact WpB.ret ⟨_, rfl, ⟨_, rfl⟩, Nat.le_refl _⟩
    · repeat first | refine qN ?_ | refine qM rfl ?_ | refine qA rfl ?_ | refine qS rfl ?_ | refine qL H b1 rfl ?_ | refine qT rfl ?_ | refine qF rfl ?_ | refine qI i (by omega) rfl ?_ | refine qI io (by omega) rfl ?_ | refine qP rfl ?_ | refine wQ ?_ | refine wR ?_ | refine wD ?_ | refine wN rfl ?_ | refine wS ?_
      exact ⟨hlt, (by repeat first | exact sub_nil | refine sub_cons rfl ?_), rfl, rfl⟩
  · refine WpB.exit ?_
    repeat first | refine qN ?_ | refine qM rfl ?_ | refine qA rfl ?_ | refine qS rfl ?_ | refine qL H b1 rfl ?_ | refine qT rfl ?_ | refine qF rfl ?_ | refine qI i (by omega) rfl ?_ | refine qI io (by omega) rfl ?_ | refine qP rfl ?_ | refine wQ ?_ | refine wR ?_ | refine wD ?_ | refine wN rfl ?_ | refine wS ?_
    exact WpB.ret ⟨_, rfl, ⟨_, rfl⟩, Nat.le_refl _⟩

theorem ints_ok {N lim : Nat} {rd : RO} (l m : Sl Int) (h0 : AH) (H : Hp N lim rd h0) (hl : l.ints rd) (hm : m.ints rd) : Kp TT 115 [l.v, m.v] h0 anyB := by
  obtain ⟨lv, ln, lx⟩ := l
  obtain ⟨hln, ⟨la, lcap, hlv, _, _, hlx⟩, _⟩ := hl
  obtain ⟨mv, mn, mx⟩ := m
  obtain ⟨hmn, ⟨ma, mcap, hmv, _, _, hmx⟩, _⟩ := hm
  simp only at hlv hlx hln hmv hmx hmn
  subst hlv hmv
  have hreach : reachBytes < 2 ^ 47 := by decide
  have b1 : True := trivial
  refine Kp.of (fi := Tryz.fi115) rfl rfl rfl ?_
  repeat first | refine qN ?_ | refine qM rfl ?_ | refine qA rfl ?_ | refine qS rfl ?_ | refine qL H b1 rfl ?_ | refine qT rfl ?_ | refine qF rfl ?_ | refine qI i (by omega) rfl ?_ | refine qI io (by omega) rfl ?_ | refine qP rfl ?_ | refine wQ ?_ | refine wR ?_ | refine wD ?_ | refine wN rfl ?_ | refine wS ?_
  refine WpB.cond rfl (fun ht => ?_) fun ht => ?_
  · repeat first | refine qN ?_ | refine qM rfl ?_ | refine qA rfl ?_ | refine qS rfl ?_ | refine qL H b1 rfl ?_ | refine qT rfl ?_ | refine qF rfl ?_ | refine qI i (by omega) rfl ?_ | refine qI io (by omega) rfl ?_ | refine qP rfl ?_ | refine wQ ?_ | refine wR ?_ | refine wD ?_ | refine wN rfl ?_ | refine wS ?_
    exact WpB.ret ⟨_, rfl, ⟨_, rfl⟩, Nat.le_refl _⟩
  have hnm : ln = mn := by simp at ht; omega
  repeat first | refine qN ?_ | refine qM rfl ?_ | refine qA rfl ?_ | refine qS rfl ?_ | refine qL H b1 rfl ?_ | refine qT rfl ?_ | refine qF rfl ?_ | refine qI i (by omega) rfl ?_ | refine qI io (by omega) rfl ?_ | refine qP rfl ?_ | refine wQ ?_ | refine wR ?_ | refine wD ?_ | refine wN rfl ?_ | refine wS ?_
  refine WpB.block ?_
  refine WpB.loopC ln (fun i => [(5, .int .i64 (i : Int)), (1, .slice ma mn mcap), (0, .slice la ln lcap)]) (fun i h => h = h0) rfl (by repeat first | exact sub_nil | refine sub_cons rfl ?_) ?_
  rintro i h hi rfl
  repeat first | refine qN ?_ | refine qM rfl ?_ | refine qA rfl ?_ | refine qS rfl ?_ | refine qL H b1 rfl ?_ | refine qT rfl ?_ | refine qF rfl ?_ | refine qI i (by omega) rfl ?_ | refine qI io (by omega) rfl ?_ | refine qP rfl ?_ | refine wQ ?_ | refine wR ?_ | refine wD ?_ | refine wN rfl ?_ | refine wS ?_
  refine WpB.cond rfl (fun ht => ?_) fun ht => ?_
  · have hlt : i < ln := by simpa using ht
    obtain ⟨b, off, rfl, hc⟩ := hlx i hlt
    refine WpB.skip ?_
    refine WpB.seq (WpB.block ?_)
    obtain ⟨b', off', rfl, hc'⟩ := hmx i (by omega)
    repeat first | refine qN ?_ | refine qM rfl ?_ | refine qA rfl ?_ | refine qS rfl ?_ | refine qL H b1 rfl ?_ | refine qT rfl ?_ | refine qF rfl ?_ | refine qI i (by omega) rfl ?_ | refine qI io (by omega) rfl ?_ | refine qP rfl ?_ | refine wQ ?_ | refine wR ?_ | refine wD ?_ | refine wN rfl ?_ | refine wS ?_
    refine SpB.indexN hlt rfl rfl rfl rfl rfl rfl rfl rfl rfl ?_
    refine SpB.loadRC H hc rfl rfl rfl rfl rfl rfl rfl ?_
    repeat first | refine qN ?_ | refine qM rfl ?_ | refine qA rfl ?_ | refine qS rfl ?_ | refine qL H b1 rfl ?_ | refine qT rfl ?_ | refine qF rfl ?_ | refine qI i (by omega) rfl ?_ | refine qI io (by omega) rfl ?_ | refine qP rfl ?_ | refine wQ ?_ | refine wR ?_ | refine wD ?_ | refine wN rfl ?_ | refine wS ?_
    refine SpB.indexN (show i < mn by omega) rfl rfl rfl rfl rfl rfl rfl rfl rfl ?_
    refine SpB.loadRC H hc' rfl rfl rfl rfl rfl rfl rfl ?_
    repeat first | refine qN ?_ | refine qM rfl ?_ | refine qA rfl ?_ | refine qS rfl ?_ | refine qL H b1 rfl ?_ | refine qT rfl ?_ | refine qF rfl ?_ | refine qI i (by omega) rfl ?_ | refine qI io (by omega) rfl ?_ | refine qP rfl ?_ | refine wQ ?_ | refine wR ?_ | refine wD ?_ | refine wN rfl ?_ | refine wS ?_
    refine WpB.cond rfl (fun ht => ?_) fun ht => ?_
    · repeat first | refine qN ?_ | refine qM rfl ?_ | refine qA rfl ?_ | refine qS rfl ?_ | refine qL H b1 rfl ?_ | refine qT rfl ?_ | refine qF rfl ?_ | refine qI i (by omega) rfl ?_ | refine qI io (by omega) rfl ?_ | refine qP rfl ?_ | refine wQ ?_ | refine wR ?_ | refine wD ?_ | refine wN rfl ?_ | refine wS ?_
      exact WpB.ret ⟨_, rfl, ⟨_, rfl⟩, Nat.le_refl _⟩
    · repeat first | refine qN ?_ | refine qM rfl ?_ | refine qA rfl ?_ | refine qS rfl ?_ | refine qL H b1 rfl ?_ | refine qT rfl ?_ | refine qF rfl ?_ | refine qI i (by omega) rfl ?_ | refine qI io (by omega) rfl ?_ | refine qP rfl ?_ | refine wQ ?_ | refine wR ?_ | refine wD ?_ | refine wN rfl ?_ | refine wS ?_
      exact ⟨hlt, (by repeat first | exact sub_nil | refine sub_cons rfl ?_), rfl, rfl⟩
  · refine WpB.exit ?_
    repeat first | refine qN ?_ | refine qM rfl ?_ | refine qA rfl ?_ | refine qS rfl ?_ | refine qL H b1 rfl ?_ | refine qT rfl ?_ | refine qF rfl ?_ | refine qI i (by omega) rfl ?_ | refine qI io (by omega) rfl ?_ | refine qP rfl ?_ | refine wQ ?_ | refine wR ?_ | refine wD ?_ | refine wN rfl ?_ | refine wS ?_
    exact WpB.ret ⟨_, rfl, ⟨_, rfl⟩, Nat.le_refl _⟩

/-- A number and whether it was found. -/
def foundR (n : Nat) : Value → AH → Prop := fun v _ => ∃ (i : Nat) (b : Bool), v = .tuple #[.int .i64 (i : Int), .bool b] ∧ (b = true → i < n)

theorem column143_ok {N lim : Nat} {rd : RO} (t : Tb) (s : ByteArray) (h0 : AH) (H : Hp N lim rd h0) (ht : t.At rd) : Kp TT 143 [.agg ⟨t.cells⟩, .string s] h0 (foundR t.cols.n) := by
  obtain ⟨nm, ⟨cv, cn, cx⟩, keys, fors, chk⟩ := t
  obtain ⟨hn1, ⟨ca, ccap, hcv, _, _, hcx⟩, _⟩ := ht.cols
  simp only at hcv hcx hn1
  subst hcv
  have hreach : reachBytes < 2 ^ 47 := by decide
  refine Kp.of (fi := Tryz.fi143) rfl rfl rfl ?_
  refine WpB.seq (WpB.region ?_)
  refine SpB.box H rfl rfl rfl rfl rfl rfl fun h g s1 b1 => ?_
  have hle := H.le
  have H := g.hp H
  have l1 : h0.sz < h.sz := by omega
  clear g s1
  repeat first | refine qN ?_ | refine qM rfl ?_ | refine qA rfl ?_ | refine qS rfl ?_ | refine qL H b1 rfl ?_ | refine qT rfl ?_ | refine qF rfl ?_ | refine qI i (by omega) rfl ?_ | refine qI io (by omega) rfl ?_ | refine qP rfl ?_ | refine wQ ?_ | refine wR ?_ | refine wD ?_ | refine wN rfl ?_ | refine wS ?_
  refine WpB.block ?_
  refine WpB.loopC cn (fun i => [(6, .int .i64 (i : Int)), (1, .string s), (2, .pointer (some ⟨N + h0.sz, 0, none⟩))]) (fun i h' => h' = h) rfl (by repeat first | exact sub_nil | refine sub_cons rfl ?_) ?_
  rintro i h hi rfl
  repeat first | refine qN ?_ | refine qM rfl ?_ | refine qA rfl ?_ | refine qS rfl ?_ | refine qL H b1 rfl ?_ | refine qT rfl ?_ | refine qF rfl ?_ | refine qI i (by omega) rfl ?_ | refine qI io (by omega) rfl ?_ | refine qP rfl ?_ | refine wQ ?_ | refine wR ?_ | refine wD ?_ | refine wN rfl ?_ | refine wS ?_
  refine WpB.cond rfl (fun ht => ?_) fun ht => ?_
  · have hlt : i < cn := by simpa using ht
    obtain ⟨b, off, rfl, hc⟩ := hcx i hlt
    refine WpB.skip ?_
    refine WpB.seq (WpB.block ?_)
    repeat first | refine qN ?_ | refine qM rfl ?_ | refine qA rfl ?_ | refine qS rfl ?_ | refine qL H b1 rfl ?_ | refine qT rfl ?_ | refine qF rfl ?_ | refine qI i (by omega) rfl ?_ | refine qI io (by omega) rfl ?_ | refine qP rfl ?_ | refine wQ ?_ | refine wR ?_ | refine wD ?_ | refine wN rfl ?_ | refine wS ?_
    refine SpB.indexN hlt rfl rfl rfl rfl rfl rfl rfl rfl rfl ?_
    repeat first | refine qN ?_ | refine qM rfl ?_ | refine qA rfl ?_ | refine qS rfl ?_ | refine qL H b1 rfl ?_ | refine qT rfl ?_ | refine qF rfl ?_ | refine qI i (by omega) rfl ?_ | refine qI io (by omega) rfl ?_ | refine qP rfl ?_ | refine wQ ?_ | refine wR ?_ | refine wD ?_ | refine wN rfl ?_ | refine wS ?_
    refine SpB.load (v := .string (cx i).nm) rfl rfl rfl (loadT_cell rfl rfl ?_) rfl rfl ?_
    · exact cell_at (H.ext _ _ _ _ hc).2 (j := 0) rfl
    repeat first | refine qN ?_ | refine qM rfl ?_ | refine qA rfl ?_ | refine qS rfl ?_ | refine qL H b1 rfl ?_ | refine qT rfl ?_ | refine qF rfl ?_ | refine qI i (by omega) rfl ?_ | refine qI io (by omega) rfl ?_ | refine qP rfl ?_ | refine wQ ?_ | refine wR ?_ | refine wD ?_ | refine wN rfl ?_ | refine wS ?_
    refine WpB.cond rfl (fun ht2 => ?_) fun ht2 => ?_
    · repeat first | refine qN ?_ | refine qM rfl ?_ | refine qA rfl ?_ | refine qS rfl ?_ | refine qL H b1 rfl ?_ | refine qT rfl ?_ | refine qF rfl ?_ | refine qI i (by omega) rfl ?_ | refine qI io (by omega) rfl ?_ | refine qP rfl ?_ | refine wQ ?_ | refine wR ?_ | refine wD ?_ | refine wN rfl ?_ | refine wS ?_
      exact WpB.ret ⟨_, rfl, ⟨i, true, rfl, fun _ => hlt⟩, Nat.le_refl _⟩
    · repeat first | refine qN ?_ | refine qM rfl ?_ | refine qA rfl ?_ | refine qS rfl ?_ | refine qL H b1 rfl ?_ | refine qT rfl ?_ | refine qF rfl ?_ | refine qI i (by omega) rfl ?_ | refine qI io (by omega) rfl ?_ | refine qP rfl ?_ | refine wQ ?_ | refine wR ?_ | refine wD ?_ | refine wN rfl ?_ | refine wS ?_
      exact ⟨hlt, (by repeat first | exact sub_nil | refine sub_cons rfl ?_), rfl, rfl⟩
  · refine WpB.exit ?_
    repeat first | refine qN ?_ | refine qM rfl ?_ | refine qA rfl ?_ | refine qS rfl ?_ | refine qL H b1 rfl ?_ | refine qT rfl ?_ | refine qF rfl ?_ | refine qI i (by omega) rfl ?_ | refine qI io (by omega) rfl ?_ | refine qP rfl ?_ | refine wQ ?_ | refine wR ?_ | refine wD ?_ | refine wN rfl ?_ | refine wS ?_
    exact WpB.ret ⟨_, rfl, ⟨0, false, rfl, fun h => by cases h⟩, Nat.le_refl _⟩

theorem find_ok {N lim : Nat} {rd : RO} (s : Sl Tb) (r : ByteArray) (h0 : AH) (H : Hp N lim rd h0) (hs : s.sch rd) : Kp TT 111 [s.v, .string r] h0 (foundR s.n) := by
  obtain ⟨sv, sn, sx⟩ := s
  obtain ⟨hsn, ⟨sa, scap, hsv, _, _, hsx⟩, hso⟩ := hs
  simp only at hsv hsx hso hsn
  subst hsv
  have hreach : reachBytes < 2 ^ 47 := by decide
  have b1 : True := trivial
  refine Kp.of (fi := Tryz.fi111) rfl rfl rfl ?_
  repeat first | refine qN ?_ | refine qM rfl ?_ | refine qA rfl ?_ | refine qS rfl ?_ | refine qL H b1 rfl ?_ | refine qT rfl ?_ | refine qF rfl ?_ | refine qI i (by omega) rfl ?_ | refine qI io (by omega) rfl ?_ | refine qP rfl ?_ | refine wQ ?_ | refine wR ?_ | refine wD ?_ | refine wN rfl ?_ | refine wS ?_
  refine WpB.block ?_
  refine WpB.loopC sn (fun i => [(6, .int .i64 (i : Int)), (1, .string r), (0, .slice sa sn scap)]) (fun i h' => h' = h0) rfl (by repeat first | exact sub_nil | refine sub_cons rfl ?_) ?_
  rintro i h hi rfl
  repeat first | refine qN ?_ | refine qM rfl ?_ | refine qA rfl ?_ | refine qS rfl ?_ | refine qL H b1 rfl ?_ | refine qT rfl ?_ | refine qF rfl ?_ | refine qI i (by omega) rfl ?_ | refine qI io (by omega) rfl ?_ | refine qP rfl ?_ | refine wQ ?_ | refine wR ?_ | refine wD ?_ | refine wN rfl ?_ | refine wS ?_
  refine WpB.cond rfl (fun ht => ?_) fun ht => ?_
  · have hlt : i < sn := by simpa using ht
    obtain ⟨b, off, rfl, hc⟩ := hsx i hlt
    refine WpB.skip ?_
    refine WpB.seq (WpB.block ?_)
    repeat first | refine qN ?_ | refine qM rfl ?_ | refine qA rfl ?_ | refine qS rfl ?_ | refine qL H b1 rfl ?_ | refine qT rfl ?_ | refine qF rfl ?_ | refine qI i (by omega) rfl ?_ | refine qI io (by omega) rfl ?_ | refine qP rfl ?_ | refine wQ ?_ | refine wR ?_ | refine wD ?_ | refine wN rfl ?_ | refine wS ?_
    refine SpB.indexN hlt rfl rfl rfl rfl rfl rfl rfl rfl rfl ?_
    repeat first | refine qN ?_ | refine qM rfl ?_ | refine qA rfl ?_ | refine qS rfl ?_ | refine qL H b1 rfl ?_ | refine qT rfl ?_ | refine qF rfl ?_ | refine qI i (by omega) rfl ?_ | refine qI io (by omega) rfl ?_ | refine qP rfl ?_ | refine wQ ?_ | refine wR ?_ | refine wD ?_ | refine wN rfl ?_ | refine wS ?_
    refine SpB.load (v := .string (sx i).nm) rfl rfl rfl (loadT_cell rfl rfl ?_) rfl rfl ?_
    · exact cell_at (H.ext _ _ _ _ hc).2 (j := 0) rfl
    repeat first | refine qN ?_ | refine qM rfl ?_ | refine qA rfl ?_ | refine qS rfl ?_ | refine qL H b1 rfl ?_ | refine qT rfl ?_ | refine qF rfl ?_ | refine qI i (by omega) rfl ?_ | refine qI io (by omega) rfl ?_ | refine qP rfl ?_ | refine wQ ?_ | refine wR ?_ | refine wD ?_ | refine wN rfl ?_ | refine wS ?_
    refine WpB.cond rfl (fun ht2 => ?_) fun ht2 => ?_
    · repeat first | refine qN ?_ | refine qM rfl ?_ | refine qA rfl ?_ | refine qS rfl ?_ | refine qL H b1 rfl ?_ | refine qT rfl ?_ | refine qF rfl ?_ | refine qI i (by omega) rfl ?_ | refine qI io (by omega) rfl ?_ | refine qP rfl ?_ | refine wQ ?_ | refine wR ?_ | refine wD ?_ | refine wN rfl ?_ | refine wS ?_
      exact WpB.ret ⟨_, rfl, ⟨i, true, rfl, fun _ => hlt⟩, Nat.le_refl _⟩
    · repeat first | refine qN ?_ | refine qM rfl ?_ | refine qA rfl ?_ | refine qS rfl ?_ | refine qL H b1 rfl ?_ | refine qT rfl ?_ | refine qF rfl ?_ | refine qI i (by omega) rfl ?_ | refine qI io (by omega) rfl ?_ | refine qP rfl ?_ | refine wQ ?_ | refine wR ?_ | refine wD ?_ | refine wN rfl ?_ | refine wS ?_
      exact ⟨hlt, (by repeat first | exact sub_nil | refine sub_cons rfl ?_), rfl, rfl⟩
  · refine WpB.exit ?_
    repeat first | refine qN ?_ | refine qM rfl ?_ | refine qA rfl ?_ | refine qS rfl ?_ | refine qL H b1 rfl ?_ | refine qT rfl ?_ | refine qF rfl ?_ | refine qI i (by omega) rfl ?_ | refine qI io (by omega) rfl ?_ | refine qP rfl ?_ | refine wQ ?_ | refine wR ?_ | refine wD ?_ | refine wN rfl ?_ | refine wS ?_
    exact WpB.ret ⟨_, rfl, ⟨0, false, rfl, fun h => by cases h⟩, Nat.le_refl _⟩

end Go.Proofs.YtkjkcoemloakhaaGreat
end

section
set_option linter.unusedVariables false
namespace Go.Proofs.YtkjkcoemloakhaaGreat
open Go Go.Vae
set_option maxRecDepth 100000

theorem types_ok {N lim : Nat} {rd : RO} (t u : Tb) (l m : Sl Int) (h0 : AH) (H : Hp N lim rd h0) (ht : t.At rd) (hu : u.At rd) (hl : l.ints rd) (hm : m.ints rd) (hlm : l.n ≤ m.n) (hi : insideP t.cols.n l) (hi2 : insideP u.cols.n m) : Kp TT 116 [.agg ⟨t.cells⟩, .agg ⟨u.cells⟩, l.v, m.v] h0 anyB := by
  obtain ⟨nm, ⟨cv, cn, cx⟩, keys, fors, chk⟩ := t
  obtain ⟨hn1, ⟨ca, ccap, hcv, _, _, hcx⟩, _⟩ := ht.cols
  obtain ⟨nm2, ⟨dv, dn, dx⟩, keys2, fors2, chk2⟩ := u
  obtain ⟨hn2, ⟨da, dcap, hdv, _, _, hdx⟩, _⟩ := hu.cols
  obtain ⟨lv, ln, lx⟩ := l
  obtain ⟨hln, ⟨la, lcap, hlv, _, _, hlx⟩, _⟩ := hl
  obtain ⟨mv, mn, mx⟩ := m
  obtain ⟨hmn, ⟨ma, mcap, hmv, _, _, hmx⟩, _⟩ := hm
  simp only at hcv hcx hn1 hdv hdx hn2 hlv hlx hln hmv hmx hmn hlm hi hi2
  subst hcv hdv hlv hmv
  have hreach : reachBytes < 2 ^ 47 := by decide
  refine Kp.of (fi := Tryz.fi116) rfl rfl rfl ?_
  refine WpB.seq (WpB.region ?_)
  refine SpB.box H rfl rfl rfl rfl rfl rfl fun h g s1 b1 => ?_
  have hle := H.le
  have H := g.hp H
  have l1 : h0.sz < h.sz := by omega
  clear g s1
  refine SpB.box H rfl rfl rfl rfl rfl rfl fun h2 g s2 b2 => ?_
  have b1 := g.keep l1 b1
  have l2 : h.sz < h2.sz := by omega
  have l1 := g.lt l1
  have H := g.hp H
  clear g s2
  refine SpB.assign rfl rfl rfl rfl rfl (SpB.nil ?_)
  repeat first | refine qN ?_ | refine qM rfl ?_ | refine qA rfl ?_ | refine qS rfl ?_ | refine qL H b1 rfl ?_ | refine qL H b2 rfl ?_ | refine qT rfl ?_ | refine qF rfl ?_ | refine qI i (by omega) rfl ?_ | refine qI io (by omega) rfl ?_ | refine qP rfl ?_ | refine wQ ?_ | refine wR ?_ | refine wD ?_ | refine wN rfl ?_ | refine wS ?_
  refine WpB.block ?_
  refine WpB.loopC ln (fun i => [(9, .int .i64 (i : Int)), (2, .slice la ln lcap), (3, .slice ma mn mcap), (4, .pointer (some ⟨N + h0.sz, 0, none⟩)), (5, .pointer (some ⟨N + h.sz, 0, none⟩))]) (fun i h' => h' = h2) rfl (by repeat first | exact sub_nil | refine sub_cons rfl ?_) ?_
  rintro i h2 hii rfl
  repeat first | refine qN ?_ | refine qM rfl ?_ | refine qA rfl ?_ | refine qS rfl ?_ | refine qL H b1 rfl ?_ | refine qL H b2 rfl ?_ | refine qT rfl ?_ | refine qF rfl ?_ | refine qI i (by omega) rfl ?_ | refine qI io (by omega) rfl ?_ | refine qP rfl ?_ | refine wQ ?_ | refine wR ?_ | refine wD ?_ | refine wN rfl ?_ | refine wS ?_
  refine WpB.cond rfl (fun ht => ?_) fun ht => ?_
  · have hlt : i < ln := by simpa using ht
    obtain ⟨b, off, rfl, hc⟩ := hlx i hlt
    refine WpB.skip ?_
    refine WpB.seq (WpB.block ?_)
    have hlt2 : i < mn := by omega
    obtain ⟨b', off', rfl, hc'⟩ := hmx i hlt2
    obtain ⟨e1, e2⟩ := hi i hlt
    obtain ⟨e3, e4⟩ := hi2 i hlt2
    simp only at e1 e2 e3 e4
    obtain ⟨j1, hj1⟩ := Int.eq_ofNat_of_zero_le e1
    obtain ⟨j2, hj2⟩ := Int.eq_ofNat_of_zero_le e3
    rw [hj1] at hc
    rw [hj2] at hc'
    have hj1' : j1 < cn := by omega
    have hj2' : j2 < dn := by omega
    obtain ⟨b3, off3, rfl, hc3⟩ := hcx j1 hj1'
    obtain ⟨b4, off4, rfl, hc4⟩ := hdx j2 hj2'
    repeat first | refine qN ?_ | refine qM rfl ?_ | refine qA rfl ?_ | refine qS rfl ?_ | refine qL H b1 rfl ?_ | refine qL H b2 rfl ?_ | refine qT rfl ?_ | refine qF rfl ?_ | refine qI i (by omega) rfl ?_ | refine qI io (by omega) rfl ?_ | refine qP rfl ?_ | refine wQ ?_ | refine wR ?_ | refine wD ?_ | refine wN rfl ?_ | refine wS ?_
    refine SpB.indexN hlt rfl rfl rfl rfl rfl rfl rfl rfl rfl ?_
    refine SpB.loadRC H hc rfl rfl rfl rfl rfl rfl rfl ?_
    refine SpB.indexN hj1' rfl rfl rfl rfl rfl rfl rfl rfl rfl ?_
    repeat first | refine qN ?_ | refine qM rfl ?_ | refine qA rfl ?_ | refine qS rfl ?_ | refine qL H b1 rfl ?_ | refine qL H b2 rfl ?_ | refine qT rfl ?_ | refine qF rfl ?_ | refine qI i (by omega) rfl ?_ | refine qI io (by omega) rfl ?_ | refine qP rfl ?_ | refine wQ ?_ | refine wR ?_ | refine wD ?_ | refine wN rfl ?_ | refine wS ?_
    refine SpB.load (v := .int .i64 (cx j1).ty) rfl rfl rfl (loadT_cell rfl rfl (cell_at (H.ext _ _ _ _ hc3).2 (j := 1) rfl)) rfl rfl ?_
    repeat first | refine qN ?_ | refine qM rfl ?_ | refine qA rfl ?_ | refine qS rfl ?_ | refine qL H b1 rfl ?_ | refine qL H b2 rfl ?_ | refine qT rfl ?_ | refine qF rfl ?_ | refine qI i (by omega) rfl ?_ | refine qI io (by omega) rfl ?_ | refine qP rfl ?_ | refine wQ ?_ | refine wR ?_ | refine wD ?_ | refine wN rfl ?_ | refine wS ?_
    refine SpB.indexN hlt2 rfl rfl rfl rfl rfl rfl rfl rfl rfl ?_
    refine SpB.loadRC H hc' rfl rfl rfl rfl rfl rfl rfl ?_
    refine SpB.indexN hj2' rfl rfl rfl rfl rfl rfl rfl rfl rfl ?_
    repeat first | refine qN ?_ | refine qM rfl ?_ | refine qA rfl ?_ | refine qS rfl ?_ | refine qL H b1 rfl ?_ | refine qL H b2 rfl ?_ | refine qT rfl ?_ | refine qF rfl ?_ | refine qI i (by omega) rfl ?_ | refine qI io (by omega) rfl ?_ | refine qP rfl ?_ | refine wQ ?_ | refine wR ?_ | refine wD ?_ | refine wN rfl ?_ | refine wS ?_
    refine SpB.load (v := .int .i64 (dx j2).ty) rfl rfl rfl (loadT_cell rfl rfl (cell_at (H.ext _ _ _ _ hc4).2 (j := 1) rfl)) rfl rfl ?_
    repeat first | refine qN ?_ | refine qM rfl ?_ | refine qA rfl ?_ | refine qS rfl ?_ | refine qL H b1 rfl ?_ | refine qL H b2 rfl ?_ | refine qT rfl ?_ | refine qF rfl ?_ | refine qI i (by omega) rfl ?_ | refine qI io (by omega) rfl ?_ | refine qP rfl ?_ | refine wQ ?_ | refine wR ?_ | refine wD ?_ | refine wN rfl ?_ | refine wS ?_
    refine WpB.cond rfl (fun ht => ?_) fun ht => ?_
    · repeat first | refine qN ?_ | refine qM rfl ?_ | refine qA rfl ?_ | refine qS rfl ?_ | refine qL H b1 rfl ?_ | refine qT rfl ?_ | refine qF rfl ?_ | refine qI i (by omega) rfl ?_ | refine qI io (by omega) rfl ?_ | refine qP rfl ?_ | refine wQ ?_ | refine wR ?_ | refine wD ?_ | refine wN rfl ?_ | refine wS ?_
      exact WpB.ret ⟨_, rfl, ⟨_, rfl⟩, Nat.le_refl _⟩
    · repeat first | refine qN ?_ | refine qM rfl ?_ | refine qA rfl ?_ | refine qS rfl ?_ | refine qL H b1 rfl ?_ | refine qT rfl ?_ | refine qF rfl ?_ | refine qI i (by omega) rfl ?_ | refine qI io (by omega) rfl ?_ | refine qP rfl ?_ | refine wQ ?_ | refine wR ?_ | refine wD ?_ | refine wN rfl ?_ | refine wS ?_
      exact ⟨hlt, (by repeat first | exact sub_nil | refine sub_cons rfl ?_), rfl, rfl⟩
  · refine WpB.exit ?_
    repeat first | refine qN ?_ | refine qM rfl ?_ | refine qA rfl ?_ | refine qS rfl ?_ | refine qL H b1 rfl ?_ | refine qT rfl ?_ | refine qF rfl ?_ | refine qI i (by omega) rfl ?_ | refine qI io (by omega) rfl ?_ | refine qP rfl ?_ | refine wQ ?_ | refine wR ?_ | refine wD ?_ | refine wN rfl ?_ | refine wS ?_
    exact WpB.ret ⟨_, rfl, ⟨_, rfl⟩, Nat.le_refl _⟩

theorem contains_ok {N lim : Nat} {rd : RO} (s r : ByteArray) (h0 : AH) (H : Hp N lim rd h0) (hs : txt s ≤ 1000000) (hr : txt r ≤ reachBytes + 2) : Kp TT 141 [.string s, .string r] h0 anyB := by
  have hreach : reachBytes < 2 ^ 47 := by decide
  simp only [txt] at hs hr
  have b1 : True := trivial
  refine Kp.of (fi := Tryz.fi141) rfl rfl rfl ?_
  repeat first | refine qN ?_ | refine qM rfl ?_ | refine qA rfl ?_ | refine qS rfl ?_ | refine qL H b1 rfl ?_ | refine qT rfl ?_ | refine qF rfl ?_ | refine qI i (by omega) rfl ?_ | refine qI io (by omega) rfl ?_ | refine qP rfl ?_ | refine wQ ?_ | refine wR ?_ | refine wD ?_ | refine wN rfl ?_ | refine wS ?_
  refine WpB.block ?_
  refine WpB.loopC (s.data.toList.length + 1) (fun i => [(5, .int .i64 (i : Int)), (1, .string r), (0, .string s)]) (fun i h' => h' = h0) rfl (by repeat first | exact sub_nil | refine sub_cons rfl ?_) ?_
  rintro i h hi rfl
  have w : IntKind.i64.wrap ((i : Int) + (r.data.toList.length : Int)) = ((i + r.data.toList.length : Nat) : Int) := by rw [wrap_small (by omega) (by omega)]; omega
  repeat first | refine qN ?_ | refine qM rfl ?_ | refine qA rfl ?_ | refine qS rfl ?_ | refine qL H b1 rfl ?_ | refine qT rfl ?_ | refine qF rfl ?_ | refine qI i (by omega) rfl ?_ | refine qI io (by omega) rfl ?_ | refine qP rfl ?_ | refine wQ ?_ | refine wR ?_ | refine wD ?_ | refine wN rfl ?_ | refine wS ?_
  refine WpB.cond rfl (fun ht => ?_) fun ht => ?_
  · have ht := of_decide_eq_true ht
    rw [w] at ht
    have hle : i + r.data.toList.length ≤ s.data.toList.length := by omega
    refine WpB.skip ?_
    refine WpB.seq (WpB.block ?_)
    repeat first | refine qN ?_ | refine qM rfl ?_ | refine qA rfl ?_ | refine qS rfl ?_ | refine qL H b1 rfl ?_ | refine qT rfl ?_ | refine qF rfl ?_ | refine qI i (by omega) rfl ?_ | refine qI io (by omega) rfl ?_ | refine qP rfl ?_ | refine wQ ?_ | refine wR ?_ | refine wD ?_ | refine wN rfl ?_ | refine wS ?_
    refine SpB.sliceStr (lo := i) (hi := i + r.data.toList.length) (by omega) hle rfl rfl rfl rfl (by rw [← w]; rfl) rfl rfl rfl rfl ?_
    repeat first | refine qN ?_ | refine qM rfl ?_ | refine qA rfl ?_ | refine qS rfl ?_ | refine qL H b1 rfl ?_ | refine qT rfl ?_ | refine qF rfl ?_ | refine qI i (by omega) rfl ?_ | refine qI io (by omega) rfl ?_ | refine qP rfl ?_ | refine wQ ?_ | refine wR ?_ | refine wD ?_ | refine wN rfl ?_ | refine wS ?_
    refine WpB.cond rfl (fun ht => ?_) fun ht => ?_
    · repeat first | refine qN ?_ | refine qM rfl ?_ | refine qA rfl ?_ | refine qS rfl ?_ | refine qL H b1 rfl ?_ | refine qT rfl ?_ | refine qF rfl ?_ | refine qI i (by omega) rfl ?_ | refine qI io (by omega) rfl ?_ | refine qP rfl ?_ | refine wQ ?_ | refine wR ?_ | refine wD ?_ | refine wN rfl ?_ | refine wS ?_
      exact WpB.ret ⟨_, rfl, ⟨_, rfl⟩, Nat.le_refl _⟩
    · repeat first | refine qN ?_ | refine qM rfl ?_ | refine qA rfl ?_ | refine qS rfl ?_ | refine qL H b1 rfl ?_ | refine qT rfl ?_ | refine qF rfl ?_ | refine qI i (by omega) rfl ?_ | refine qI io (by omega) rfl ?_ | refine qP rfl ?_ | refine wQ ?_ | refine wR ?_ | refine wD ?_ | refine wN rfl ?_ | refine wS ?_
      exact ⟨by omega, (by repeat first | exact sub_nil | refine sub_cons rfl ?_), rfl, rfl⟩
  · refine WpB.exit ?_
    repeat first | refine qN ?_ | refine qM rfl ?_ | refine qA rfl ?_ | refine qS rfl ?_ | refine qL H b1 rfl ?_ | refine qT rfl ?_ | refine qF rfl ?_ | refine qI i (by omega) rfl ?_ | refine qI io (by omega) rfl ?_ | refine qP rfl ?_ | refine wQ ?_ | refine wR ?_ | refine wD ?_ | refine wN rfl ?_ | refine wS ?_
    exact WpB.ret ⟨_, rfl, ⟨_, rfl⟩, Nat.le_refl _⟩

theorem keywords_ok {N lim : Nat} {rd : RO} (h0 : AH) (H : Hp N lim rd h0) : Kp TT 142 [] h0 fun v _ => ∃ s, v = .string s ∧ txt s ≤ 1000000 := by
  have b1 : True := trivial
  refine Kp.of (fi := Tryz.fi142) rfl rfl rfl ?_
  repeat first | refine qN ?_ | refine qM rfl ?_ | refine qA rfl ?_ | refine qS rfl ?_ | refine qL H b1 rfl ?_ | refine qT rfl ?_ | refine qF rfl ?_ | refine qI i (by omega) rfl ?_ | refine qI io (by omega) rfl ?_ | refine qP rfl ?_ | refine wQ ?_ | refine wR ?_ | refine wD ?_ | refine wN rfl ?_ | refine wS ?_
  refine WpB.ret ⟨_, rfl, ⟨_, rfl, ?_⟩, Nat.le_refl _⟩
  show List.length _ ≤ 1000000
  decide

theorem name_ok {N lim : Nat} {rd : RO} (s : ByteArray) (h0 : AH) (H : Hp N lim rd h0) (hs : txt s ≤ reachBytes) : Kp TT 109 [.string s] h0 anyB := by
  have hreach : reachBytes < 2 ^ 47 := by decide
  have hs0 := hs
  simp only [txt] at hs
  have b1 : True := trivial
  have hB : ∀ b, (∃ b', Value.bool b = .bool b') ∧ h0.sz ≤ h0.sz := fun b => ⟨⟨b, rfl⟩, Nat.le_refl _⟩
  refine Kp.of (fi := Tryz.fi109) rfl rfl rfl ?_
  repeat first | refine qN ?_ | refine qM rfl ?_ | refine qA rfl ?_ | refine qS rfl ?_ | refine qL H b1 rfl ?_ | refine qT rfl ?_ | refine qF rfl ?_ | refine qI i (by omega) rfl ?_ | refine qI io (by omega) rfl ?_ | refine qP rfl ?_ | refine wQ ?_ | refine wR ?_ | refine wD ?_ | refine wN rfl ?_ | refine wS ?_
  refine qB rfl (fun c1 => ?_) fun c1 => ?_
  · repeat' first | refine qN ?_ | refine qM rfl ?_ | refine qA rfl ?_ | refine qS rfl ?_ | refine qL H b1 rfl ?_ | refine qT rfl ?_ | refine qF rfl ?_ | refine qB rfl (fun ht => ?_) fun ht => ?_ | refine qI i (by omega) rfl ?_ | refine qI io (by omega) rfl ?_ | refine qP rfl ?_ | refine wQ ?_ | refine wR ?_ | refine wD ?_ | refine wN rfl ?_ | refine wS ?_ | refine wT rfl ?_ | refine wF rfl ?_ | refine WpB.cond rfl (fun ht => ?_) fun ht => ?_
    exact WpB.ret ⟨_, rfl, hB _⟩
  have c1 : ¬ (s.data.toList.length : Int) < 1 := of_decide_eq_false c1
  have h1 : 0 < s.data.toList.length := by omega
  repeat first | refine qN ?_ | refine qM rfl ?_ | refine qA rfl ?_ | refine qS rfl ?_ | refine qL H b1 rfl ?_ | refine qT rfl ?_ | refine qF rfl ?_ | refine qI i (by omega) rfl ?_ | refine qI io (by omega) rfl ?_ | refine qP rfl ?_ | refine wQ ?_ | refine wR ?_ | refine wD ?_ | refine wN rfl ?_ | refine wS ?_
  refine qB rfl (fun c2 => ?_) fun c2 => ?_
  · repeat' first | refine qN ?_ | refine qM rfl ?_ | refine qA rfl ?_ | refine qS rfl ?_ | refine qL H b1 rfl ?_ | refine qT rfl ?_ | refine qF rfl ?_ | refine qB rfl (fun ht => ?_) fun ht => ?_ | refine qI i (by omega) rfl ?_ | refine qI io (by omega) rfl ?_ | refine qP rfl ?_ | refine wQ ?_ | refine wR ?_ | refine wD ?_ | refine wN rfl ?_ | refine wS ?_ | refine wT rfl ?_ | refine wF rfl ?_ | refine WpB.cond rfl (fun ht => ?_) fun ht => ?_
    exact WpB.ret ⟨_, rfl, hB _⟩
  repeat first | refine qN ?_ | refine qM rfl ?_ | refine qA rfl ?_ | refine qS rfl ?_ | refine qL H b1 rfl ?_ | refine qT rfl ?_ | refine qF rfl ?_ | refine qI i (by omega) rfl ?_ | refine qI io (by omega) rfl ?_ | refine qP rfl ?_ | refine wQ ?_ | refine wR ?_ | refine wD ?_ | refine wN rfl ?_ | refine wS ?_
  refine SpB.indexStr h1 rfl rfl rfl rfl rfl rfl rfl rfl ?_
  refine qB rfl (fun c3 => ?_) fun c3 => ?_
  · repeat' first | refine qN ?_ | refine qM rfl ?_ | refine qA rfl ?_ | refine qS rfl ?_ | refine qL H b1 rfl ?_ | refine qT rfl ?_ | refine qF rfl ?_ | refine qB rfl (fun ht => ?_) fun ht => ?_ | refine qI i (by omega) rfl ?_ | refine qI io (by omega) rfl ?_ | refine qP rfl ?_ | refine wQ ?_ | refine wR ?_ | refine wD ?_ | refine wN rfl ?_ | refine wS ?_ | refine wT rfl ?_ | refine wF rfl ?_ | refine WpB.cond rfl (fun ht => ?_) fun ht => ?_
    exact WpB.ret ⟨_, rfl, hB _⟩
  repeat first | refine qN ?_ | refine qM rfl ?_ | refine qA rfl ?_ | refine qS rfl ?_ | refine qL H b1 rfl ?_ | refine qT rfl ?_ | refine qF rfl ?_ | refine qI i (by omega) rfl ?_ | refine qI io (by omega) rfl ?_ | refine qP rfl ?_ | refine wQ ?_ | refine wR ?_ | refine wD ?_ | refine wN rfl ?_ | refine wS ?_
  refine SpB.indexStr h1 rfl rfl rfl rfl rfl rfl rfl rfl ?_
  repeat first | refine qN ?_ | refine qM rfl ?_ | refine qA rfl ?_ | refine qS rfl ?_ | refine qL H b1 rfl ?_ | refine qT rfl ?_ | refine qF rfl ?_ | refine qI i (by omega) rfl ?_ | refine qI io (by omega) rfl ?_ | refine qP rfl ?_ | refine wQ ?_ | refine wR ?_ | refine wD ?_ | refine wN rfl ?_ | refine wS ?_
  refine WpB.cond rfl (fun ht => ?_) fun ht => ?_
  · repeat first | refine qN ?_ | refine qM rfl ?_ | refine qA rfl ?_ | refine qS rfl ?_ | refine qL H b1 rfl ?_ | refine qT rfl ?_ | refine qF rfl ?_ | refine qI i (by omega) rfl ?_ | refine qI io (by omega) rfl ?_ | refine qP rfl ?_ | refine wQ ?_ | refine wR ?_ | refine wD ?_ | refine wN rfl ?_ | refine wS ?_
    exact WpB.ret ⟨_, rfl, hB _⟩
  repeat first | refine qN ?_ | refine qM rfl ?_ | refine qA rfl ?_ | refine qS rfl ?_ | refine qL H b1 rfl ?_ | refine qT rfl ?_ | refine qF rfl ?_ | refine qI i (by omega) rfl ?_ | refine qI io (by omega) rfl ?_ | refine qP rfl ?_ | refine wQ ?_ | refine wR ?_ | refine wD ?_ | refine wN rfl ?_ | refine wS ?_
  refine WpB.cut1 [(0, .string s)] (fun h' => h' = h0) ?_ ?_
  · refine WpB.block ?_
    refine WpB.loopC s.data.toList.length (fun i => [(3, .int .i64 (i : Int)), (0, .string s)]) (fun i h' => h' = h0) rfl (by repeat first | exact sub_nil | refine sub_cons rfl ?_) ?_
    rintro i h hi rfl
    repeat first | refine qN ?_ | refine qM rfl ?_ | refine qA rfl ?_ | refine qS rfl ?_ | refine qL H b1 rfl ?_ | refine qT rfl ?_ | refine qF rfl ?_ | refine qI i (by omega) rfl ?_ | refine qI io (by omega) rfl ?_ | refine qP rfl ?_ | refine wQ ?_ | refine wR ?_ | refine wD ?_ | refine wN rfl ?_ | refine wS ?_
    refine WpB.cond rfl (fun ht => ?_) fun ht => ?_
    · have hlt : i < s.data.toList.length := by simpa using ht
      refine WpB.skip ?_
      refine WpB.seq (WpB.block ?_)
      repeat' first | refine qN ?_ | refine qM rfl ?_ | refine qA rfl ?_ | refine qS rfl ?_ | refine qL H b1 rfl ?_ | refine SpB.indexStr hlt rfl rfl rfl rfl rfl rfl rfl rfl ?_ | refine qT rfl ?_ | refine qF rfl ?_ | refine qB rfl (fun ht => ?_) fun ht => ?_ | refine qI i (by omega) rfl ?_ | refine qI io (by omega) rfl ?_ | refine qP rfl ?_ | refine wQ ?_ | refine wR ?_ | refine wD ?_ | refine wN rfl ?_ | refine wS ?_ | refine wT rfl ?_ | refine wF rfl ?_ | refine WpB.cond rfl (fun ht => ?_) fun ht => ?_
      all_goals first | exact WpB.ret ⟨_, rfl, hB _⟩ | exact ⟨hlt, (by repeat first | exact sub_nil | refine sub_cons rfl ?_), rfl, rfl⟩
    · refine WpB.exit ?_
      exact ⟨(by repeat first | exact sub_nil | refine sub_cons rfl ?_), rfl, rfl⟩
  rintro h rfl
  repeat first | refine qN ?_ | refine qM rfl ?_ | refine qA rfl ?_ | refine qS rfl ?_ | refine qL H b1 rfl ?_ | refine qT rfl ?_ | refine qF rfl ?_ | refine qI i (by omega) rfl ?_ | refine qI io (by omega) rfl ?_ | refine qP rfl ?_ | refine wQ ?_ | refine wR ?_ | refine wD ?_ | refine wN rfl ?_ | refine wS ?_
  refine SpB.callK Tryz.T1OK H (by omega) (keywords_ok h H) rfl rfl rfl rfl rfl ?_
  rintro v h2 ⟨kw, rfl, hkw⟩ g
  have H := g.hp H
  repeat first | refine qN ?_ | refine qM rfl ?_ | refine qA rfl ?_ | refine qS rfl ?_ | refine qL H b1 rfl ?_ | refine qT rfl ?_ | refine qF rfl ?_ | refine qI i (by omega) rfl ?_ | refine qI io (by omega) rfl ?_ | refine qP rfl ?_ | refine wQ ?_ | refine wR ?_ | refine wD ?_ | refine wN rfl ?_ | refine wS ?_
  refine SpB.concat (by show 1 + _ ≤ _; omega) rfl rfl rfl rfl rfl rfl ?_
  refine SpB.concat (s := ⟨⟨[32] ++ s.data.toList⟩⟩) (r := ⟨⟨[32]⟩⟩) (by show ([32] ++ s.data.toList).length + 1 ≤ 9223372036854775807; rw [List.length_append]; show 1 + _ + 1 ≤ _; omega) rfl rfl rfl rfl rfl rfl ?_
  refine SpB.callK Tryz.T1OK H (by have := g.le; omega) (contains_ok kw ⟨⟨([32] ++ s.data.toList) ++ [32]⟩⟩ h2 H hkw (by show (([32] ++ s.data.toList) ++ [32]).length ≤ reachBytes + 2; rw [List.length_append, List.length_append]; show 1 + _ + 1 ≤ _; omega)) rfl rfl rfl rfl rfl ?_
  rintro v h3 ⟨r, rfl⟩ g2
  repeat first | refine qN ?_ | refine qM rfl ?_ | refine qA rfl ?_ | refine qS rfl ?_ | refine qL H b1 rfl ?_ | refine qT rfl ?_ | refine qF rfl ?_ | refine qI i (by omega) rfl ?_ | refine qI io (by omega) rfl ?_ | refine qP rfl ?_ | refine wQ ?_ | refine wR ?_ | refine wD ?_ | refine wN rfl ?_ | refine wS ?_
  exact WpB.ret ⟨_, rfl, hB _⟩

theorem column110_ok {N lim : Nat} {rd : RO} (c : Col) (h0 : AH) (H : Hp N lim rd h0) (hc : c.ok) : Kp TT 110 [.agg ⟨c.cells⟩] h0 anyB := by
  have hB : ∀ b, (∃ b', Value.bool b = .bool b') ∧ h0.sz ≤ h0.sz := fun b => ⟨⟨b, rfl⟩, Nat.le_refl _⟩
  refine Kp.of (fi := Tryz.fi110) rfl rfl rfl ?_
  refine WpB.seq (WpB.region ?_)
  refine SpB.box H rfl rfl rfl rfl rfl rfl fun h g s1 b1 => ?_
  have hle := H.le
  have H := g.hp H
  have l1 : h0.sz < h.sz := by omega
  clear g s1
  repeat first | refine qN ?_ | refine qM rfl ?_ | refine qA rfl ?_ | refine qS rfl ?_ | refine qL H b1 rfl ?_ | refine qT rfl ?_ | refine qF rfl ?_ | refine qI i (by omega) rfl ?_ | refine qI io (by omega) rfl ?_ | refine qP rfl ?_ | refine wQ ?_ | refine wR ?_ | refine wD ?_ | refine wN rfl ?_ | refine wS ?_
  refine SpB.callK Tryz.T1OK H (by omega) (name_ok c.nm h H hc.1) rfl rfl rfl rfl rfl ?_
  rintro v h ⟨r, rfl⟩ g
  have H := g.hp H
  have b1 := g.keep l1 b1
  have l1 := g.lt l1
  repeat first | refine qN ?_ | refine qM rfl ?_ | refine qA rfl ?_ | refine qS rfl ?_ | refine qL H b1 rfl ?_ | refine qT rfl ?_ | refine qF rfl ?_ | refine qI i (by omega) rfl ?_ | refine qI io (by omega) rfl ?_ | refine qP rfl ?_ | refine wQ ?_ | refine wR ?_ | refine wD ?_ | refine wN rfl ?_ | refine wS ?_
  refine WpB.cond rfl (fun ht => ?_) fun ht => ?_
  · repeat first | refine qN ?_ | refine qM rfl ?_ | refine qA rfl ?_ | refine qS rfl ?_ | refine qL H b1 rfl ?_ | refine qT rfl ?_ | refine qF rfl ?_ | refine qI i (by omega) rfl ?_ | refine qI io (by omega) rfl ?_ | refine qP rfl ?_ | refine wQ ?_ | refine wR ?_ | refine wD ?_ | refine wN rfl ?_ | refine wS ?_
    exact WpB.ret ⟨_, rfl, hB _⟩
  repeat first | refine qN ?_ | refine qM rfl ?_ | refine qA rfl ?_ | refine qS rfl ?_ | refine qL H b1 rfl ?_ | refine qT rfl ?_ | refine qF rfl ?_ | refine qI i (by omega) rfl ?_ | refine qI io (by omega) rfl ?_ | refine qP rfl ?_ | refine wQ ?_ | refine wR ?_ | refine wD ?_ | refine wN rfl ?_ | refine wS ?_
  refine WpB.cond rfl (fun ht => ?_) fun ht => ?_
  · repeat' first | refine qN ?_ | refine qM rfl ?_ | refine qA rfl ?_ | refine qS rfl ?_ | refine qL H b1 rfl ?_ | refine qT rfl ?_ | refine qF rfl ?_ | refine qB rfl (fun ht => ?_) fun ht => ?_ | refine qI i (by omega) rfl ?_ | refine qI io (by omega) rfl ?_ | refine qP rfl ?_ | refine wQ ?_ | refine wR ?_ | refine wD ?_ | refine wN rfl ?_ | refine wS ?_ | refine wT rfl ?_ | refine wF rfl ?_ | refine WpB.cond rfl (fun ht => ?_) fun ht => ?_
    all_goals exact WpB.ret ⟨_, rfl, hB _⟩
  · repeat' first | refine qN ?_ | refine qM rfl ?_ | refine qA rfl ?_ | refine qS rfl ?_ | refine qL H b1 rfl ?_ | refine qT rfl ?_ | refine qF rfl ?_ | refine qB rfl (fun ht => ?_) fun ht => ?_ | refine qI i (by omega) rfl ?_ | refine qI io (by omega) rfl ?_ | refine qP rfl ?_ | refine wQ ?_ | refine wR ?_ | refine wD ?_ | refine wN rfl ?_ | refine wS ?_ | refine wT rfl ?_ | refine wF rfl ?_ | refine WpB.cond rfl (fun ht => ?_) fun ht => ?_
    all_goals exact WpB.ret ⟨_, rfl, hB _⟩

end Go.Proofs.YtkjkcoemloakhaaGreat
end

section
set_option linter.unusedVariables false
namespace Go.Proofs.YtkjkcoemloakhaaGreat
open Go Go.Vae
set_option maxRecDepth 100000

def numsV (l : List Int) : List Value := l.map fun x => .int .i64 x

def strsV (l : List ByteArray) : List Value := l.map fun s => .string s

theorem names_ok {N lim : Nat} {rd : RO} (t : Tb) (l : Sl Int) (h0 : AH) (H : Hp N lim rd h0) (ht : t.At rd) (hl : l.ints rd) (hi : insideP t.cols.n l) (hsm : l.n ≤ 20) : Kp TT 88 [.agg ⟨t.cells⟩, l.v] h0 fun v h' => ∃ xs : List ByteArray, xs.length = l.n ∧ (∀ x ∈ xs, strOK x) ∧ Own h' h0.sz 1 v l.n (strsV xs) := by
  obtain ⟨nm, ⟨cv, cn, cx⟩, keys, fors, chk⟩ := t
  obtain ⟨hn1, ⟨ca, ccap, hcv, _, _, hcx⟩, hco⟩ := ht.cols
  obtain ⟨lv, ln, lx⟩ := l
  obtain ⟨hln, ⟨la, lcap, hlv, _, _, hlx⟩, _⟩ := hl
  simp only at hcv hcx hco hn1 hlv hlx hln hi hsm
  subst hcv hlv
  refine Kp.of (fi := Tryz.fi88) rfl rfl rfl ?_
  refine WpB.seq (WpB.region ?_)
  refine SpB.box H rfl rfl rfl rfl rfl rfl fun h g s1 b1 => ?_
  have hle := H.le
  have H := g.hp H
  have l1 : h0.sz < h.sz := by omega
  clear g s1
  repeat first | refine qN ?_ | refine qM rfl ?_ | refine qA rfl ?_ | refine qS rfl ?_ | refine qL H b1 rfl ?_ | refine qT rfl ?_ | refine qF rfl ?_ | refine qI i (by omega) rfl ?_ | refine qI io (by omega) rfl ?_ | refine qP rfl ?_ | refine wQ ?_ | refine wR ?_ | refine wD ?_ | refine wN rfl ?_ | refine wS ?_
  refine WpB.block ?_
  refine WpB.loopS (σ := Nat × Value) (fun s => ln - s.1) (fun s => [(6, .int .i64 (s.1 : Int)), (5, s.2), (1, .slice la ln lcap), (2, .pointer (some ⟨N + h0.sz, 0, none⟩))])
    (fun s h => Hp N lim rd h ∧ h.blk h0.sz = some (.cells (Tb.mk nm ⟨.slice ca cn ccap, cn, cx⟩ keys fors chk).cells) ∧ h0.sz < h.sz ∧ s.1 ≤ ln ∧ ∃ xs : List ByteArray, xs.length = s.1 ∧ (∀ x ∈ xs, strOK x) ∧ Own h (h0.sz + 1) 1 s.2 s.1 (strsV xs)) (0, .slice none 0 0)
    ⟨H, b1, l1, Nat.zero_le _, [], rfl, fun x hx => by simp at hx, Own.nil _ _ _⟩ (by repeat first | exact sub_nil | refine sub_cons rfl ?_) ?_
  rintro ⟨i, v⟩ h ⟨H, b1, l1, hi1, xs, hxl, hxo, o1⟩
  simp only at hi1 o1 hxl
  repeat first | refine qN ?_ | refine qM rfl ?_ | refine qA rfl ?_ | refine qS rfl ?_ | refine qL H b1 rfl ?_ | refine qT rfl ?_ | refine qF rfl ?_ | refine qI i (by omega) rfl ?_ | refine qI io (by omega) rfl ?_ | refine qP rfl ?_ | refine wQ ?_ | refine wR ?_ | refine wD ?_ | refine wN rfl ?_ | refine wS ?_
  refine WpB.cond rfl (fun ht => ?_) fun ht => ?_
  · have hlt : i < ln := by simpa using ht
    obtain ⟨e1, e2⟩ := hi i hlt
    simp only at e1 e2
    obtain ⟨j, hj⟩ := Int.eq_ofNat_of_zero_le e1
    have hjn : j < cn := by omega
    obtain ⟨b, off, rfl, hc⟩ := hlx i hlt
    rw [hj] at hc
    obtain ⟨b2, off2, rfl, hc2⟩ := hcx j hjn
    refine WpB.skip ?_
    refine WpB.seq (WpB.block ?_)
    repeat first | refine qN ?_ | refine qM rfl ?_ | refine qA rfl ?_ | refine qS rfl ?_ | refine qL H b1 rfl ?_ | refine qT rfl ?_ | refine qF rfl ?_ | refine qI i (by omega) rfl ?_ | refine qI io (by omega) rfl ?_ | refine qP rfl ?_ | refine wQ ?_ | refine wR ?_ | refine wD ?_ | refine wN rfl ?_ | refine wS ?_
    refine SpB.indexN hlt rfl rfl rfl rfl rfl rfl rfl rfl rfl ?_
    refine SpB.loadRC H hc rfl rfl rfl rfl rfl rfl rfl ?_
    refine SpB.indexN hjn rfl rfl rfl rfl rfl rfl rfl rfl rfl ?_
    repeat first | refine qN ?_ | refine qM rfl ?_ | refine qA rfl ?_ | refine qS rfl ?_ | refine qL H b1 rfl ?_ | refine qT rfl ?_ | refine qF rfl ?_ | refine qI i (by omega) rfl ?_ | refine qI io (by omega) rfl ?_ | refine qP rfl ?_ | refine wQ ?_ | refine wR ?_ | refine wD ?_ | refine wN rfl ?_ | refine wS ?_
    refine SpB.load (v := .string (cx j).nm) rfl rfl rfl (loadT_cell rfl rfl (cell_at (H.ext _ _ _ _ hc2).2 (j := 0) rfl)) rfl rfl ?_
    refine SpB.newS H rfl rfl rfl rfl rfl fun h4 g s4 b4 => ?_
    have l4 : h.sz < h4.sz := by omega
    have hle4 := H.le
    have H := g.hp H
    have b1 := g.keep l1 b1
    have l1 := g.lt l1
    have o1 := o1.grow g (Nat.le_refl _)
    have o2 : Own h4 h.sz 1 (.slice (some ⟨N + h.sz, 0, none⟩) 1 1) 1 (strsV [(cx j).nm]) := .inr ⟨h.sz, 1, Nat.le_refl _, by omega, by rw [H.n], b4, rfl, .inr ⟨rfl, by decide⟩⟩
    refine SpB.append (st := 25) (xt := 25) H o1 o2.src rfl (by omega) (by omega) (show (i + 1) * 16 ≤ 70368744177664 by omega) rfl rfl rfl rfl rfl rfl rfl rfl rfl rfl rfl rfl rfl rfl ?_
    intro v3 h5 acc o3 g3
    have H := g3.hpL (by omega) H
    have b1 := g3.keepL (by omega) (by omega) b1
    have l3 := g3.le
    repeat first | refine SpB.nil ?_ | refine SpB.assign rfl rfl rfl rfl rfl ?_
    refine draw_intro (ws := [false, false, false, false, false, false, false, false, false, false, false, true, false]) (by repeat first | exact quiets.nil | refine quiets.q rfl (fun h => by cases h) ?_ | refine quiets.w ?_) (by kernel_rfl) ?_
    repeat first | refine qN ?_ | refine qM rfl ?_ | refine qA rfl ?_ | refine qS rfl ?_ | refine qL H b1 rfl ?_ | refine qT rfl ?_ | refine qF rfl ?_ | refine qI i (by omega) rfl ?_ | refine qI io (by omega) rfl ?_ | refine qP rfl ?_ | refine wQ ?_ | refine wR ?_ | refine wD ?_ | refine wN rfl ?_ | refine wS ?_
    refine ⟨(i + 1, v3), by show ln - (i + 1) < ln - i; omega, (by repeat first | exact sub_nil | refine sub_cons rfl ?_), ⟨H, b1, by omega, hlt, xs ++ [(cx j).nm], by simp [hxl], fun x hx => ?_, by simpa [strsV] using o3⟩, rfl⟩
    rcases List.mem_append.1 hx with hx | hx
    · exact hxo x hx
    · simp only [List.mem_singleton] at hx
      rw [hx]
      exact (hco j hjn).1
  · refine WpB.exit ?_
    have : ¬ i < ln := by simpa using ht
    obtain rfl : i = ln := by omega
    repeat first | refine qN ?_ | refine qM rfl ?_ | refine qA rfl ?_ | refine qS rfl ?_ | refine qL H b1 rfl ?_ | refine qT rfl ?_ | refine qF rfl ?_ | refine qI i (by omega) rfl ?_ | refine qI io (by omega) rfl ?_ | refine qP rfl ?_ | refine wQ ?_ | refine wR ?_ | refine wD ?_ | refine wN rfl ?_ | refine wS ?_
    exact WpB.ret ⟨_, res1 rfl o1.one, ⟨xs, hxl, hxo, o1.low (by omega)⟩, Nat.le_refl _⟩

theorem numbers_ok {N lim : Nat} {rd : RO} (t : Tb) (l : Sl ByteArray) (h0 : AH) (H : Hp N lim rd h0) (ht : t.At rd) (hl : l.strs rd) (hsm : l.n ≤ 1000000) : Kp TT 114 [.agg ⟨t.cells⟩, l.v] h0 fun r h' => ∃ v b, r = .tuple #[v, .bool b] ∧ ((b = false ∧ v = .slice none 0 0) ∨ (b = true ∧ ∃ xs : List Int, xs.length = l.n ∧ (∀ x ∈ xs, 0 ≤ x ∧ x < (t.cols.n : Int)) ∧ Own h' h0.sz 1 v l.n (numsV xs))) := by
  have hcol := fun h (H : Hp N lim rd h) s => column143_ok t s h H ht
  have hn1 := ht.cols.1
  have hreach : reachBytes < 2 ^ 47 := by decide
  generalize hcn : t.cols.n = cn at hcol hn1 ⊢
  obtain ⟨nm, ⟨cv, cn', cx⟩, ⟨kv, kn, kx⟩, ⟨fv, fn, fx⟩, ⟨ev, en, ex⟩⟩ := t
  obtain ⟨lv, ln, lx⟩ := l
  obtain ⟨hln, ⟨la, lcap, hlv, _, _, hlx⟩, _⟩ := hl
  simp only at hlv hlx hln hsm
  subst hlv
  refine Kp.of (fi := Tryz.fi114) rfl rfl rfl ?_
  refine WpB.seq (WpB.region ?_)
  refine SpB.box H rfl rfl rfl rfl rfl rfl fun h g s1 b1 => ?_
  have hle := H.le
  have H := g.hp H
  have l1 : h0.sz < h.sz := by omega
  clear g s1
  repeat first | refine qN ?_ | refine qM rfl ?_ | refine qA rfl ?_ | refine qS rfl ?_ | refine qL H b1 rfl ?_ | refine qT rfl ?_ | refine qF rfl ?_ | refine qI i (by omega) rfl ?_ | refine qI io (by omega) rfl ?_ | refine qP rfl ?_ | refine wQ ?_ | refine wR ?_ | refine wD ?_ | refine wN rfl ?_ | refine wS ?_
  refine WpB.block ?_
  refine WpB.loopS (σ := Nat × Value) (fun s => ln - s.1) (fun s => [(7, .int .i64 (s.1 : Int)), (6, s.2), (1, .slice la ln lcap), (2, .pointer (some ⟨N + h0.sz, 0, none⟩))])
    (fun s h => Hp N lim rd h ∧ h.blk h0.sz = some (.cells [.string nm, cv, kv, fv, ev]) ∧ h0.sz < h.sz ∧ s.1 ≤ ln ∧ ∃ xs : List Int, xs.length = s.1 ∧ (∀ x ∈ xs, 0 ≤ x ∧ x < (cn : Int)) ∧ Own h (h0.sz + 1) 1 s.2 s.1 (numsV xs)) (0, .slice none 0 0)
    ⟨H, b1, l1, Nat.zero_le _, [], rfl, fun x hx => by simp at hx, Own.nil _ _ _⟩ (by repeat first | exact sub_nil | refine sub_cons rfl ?_) ?_
  rintro ⟨i, v⟩ h ⟨H, b1, l1, hi1, xs, hxl, hxo, o1⟩
  simp only at hi1 o1 hxl
  repeat first | refine qN ?_ | refine qM rfl ?_ | refine qA rfl ?_ | refine qS rfl ?_ | refine qL H b1 rfl ?_ | refine qT rfl ?_ | refine qF rfl ?_ | refine qI i (by omega) rfl ?_ | refine qI io (by omega) rfl ?_ | refine qP rfl ?_ | refine wQ ?_ | refine wR ?_ | refine wD ?_ | refine wN rfl ?_ | refine wS ?_
  refine WpB.cond rfl (fun ht => ?_) fun ht => ?_
  · have hlt : i < ln := by simpa using ht
    obtain ⟨b, off, rfl, hc⟩ := hlx i hlt
    refine WpB.skip ?_
    refine WpB.seq (WpB.block ?_)
    repeat first | refine qN ?_ | refine qM rfl ?_ | refine qA rfl ?_ | refine qS rfl ?_ | refine qL H b1 rfl ?_ | refine qT rfl ?_ | refine qF rfl ?_ | refine qI i (by omega) rfl ?_ | refine qI io (by omega) rfl ?_ | refine qP rfl ?_ | refine wQ ?_ | refine wR ?_ | refine wD ?_ | refine wN rfl ?_ | refine wS ?_
    refine SpB.indexN hlt rfl rfl rfl rfl rfl rfl rfl rfl rfl ?_
    refine SpB.loadRC H hc rfl rfl rfl rfl rfl rfl rfl ?_
    refine SpB.callK Tryz.T1OK H (by omega) (hcol h H (lx i)) rfl rfl rfl rfl rfl ?_
    rintro r h2 ⟨m, ok, rfl, hm⟩ g
    have hsz := g.le
    have H := g.hp H
    have b1 := g.keep l1 b1
    have l1 := g.lt l1
    have o1 := o1.grow g (Nat.le_refl _)
    repeat first | refine qN ?_ | refine qM rfl ?_ | refine qA rfl ?_ | refine qS rfl ?_ | refine qL H b1 rfl ?_ | refine qT rfl ?_ | refine qF rfl ?_ | refine qI i (by omega) rfl ?_ | refine qI io (by omega) rfl ?_ | refine qP rfl ?_ | refine wQ ?_ | refine wR ?_ | refine wD ?_ | refine wN rfl ?_ | refine wS ?_
    cases ok with
    | false =>
      repeat first | refine qN ?_ | refine qM rfl ?_ | refine qA rfl ?_ | refine qS rfl ?_ | refine qL H b1 rfl ?_ | refine qT rfl ?_ | refine qF rfl ?_ | refine qI i (by omega) rfl ?_ | refine qI io (by omega) rfl ?_ | refine qP rfl ?_ | refine wQ ?_ | refine wR ?_ | refine wD ?_ | refine wN rfl ?_ | refine wS ?_ | refine wT rfl ?_ | refine wF rfl ?_
      refine WpB.ret ⟨_, rfl, ⟨_, false, rfl, .inl ⟨rfl, rfl⟩⟩, Nat.le_refl _⟩
    | true =>
      repeat first | refine qN ?_ | refine qM rfl ?_ | refine qA rfl ?_ | refine qS rfl ?_ | refine qL H b1 rfl ?_ | refine qT rfl ?_ | refine qF rfl ?_ | refine qI i (by omega) rfl ?_ | refine qI io (by omega) rfl ?_ | refine qP rfl ?_ | refine wQ ?_ | refine wR ?_ | refine wD ?_ | refine wN rfl ?_ | refine wS ?_ | refine wT rfl ?_ | refine wF rfl ?_
      refine SpB.newS H rfl rfl rfl rfl rfl fun h4 g s4 b4 => ?_
      have l4 : h2.sz < h4.sz := by omega
      have hle4 := H.le
      have H := g.hp H
      have b1 := g.keep l1 b1
      have l1 := g.lt l1
      have o1 := o1.grow g (Nat.le_refl _)
      have o2 : Own h4 h2.sz 1 (.slice (some ⟨N + h2.sz, 0, none⟩) 1 1) 1 (numsV [(m : Int)]) := .inr ⟨h2.sz, 1, Nat.le_refl _, by omega, by rw [H.n], b4, rfl, .inr ⟨rfl, by decide⟩⟩
      refine SpB.append (st := 24) (xt := 24) H o1 o2.src rfl (by omega) (by omega) (show (i + 1) * 8 ≤ 70368744177664 by omega) rfl rfl rfl rfl rfl rfl rfl rfl rfl rfl rfl rfl rfl rfl ?_
      intro v3 h5 acc o3 g3
      have H := g3.hpL (by omega) H
      have b1 := g3.keepL (by omega) (by omega) b1
      have l3 := g3.le
      repeat first | refine qN ?_ | refine qM rfl ?_ | refine qA rfl ?_ | refine qS rfl ?_ | refine qL H b1 rfl ?_ | refine qT rfl ?_ | refine qF rfl ?_ | refine qI i (by omega) rfl ?_ | refine qI io (by omega) rfl ?_ | refine qP rfl ?_ | refine wQ ?_ | refine wR ?_ | refine wD ?_ | refine wN rfl ?_ | refine wS ?_
      refine ⟨(i + 1, v3), by show ln - (i + 1) < ln - i; omega, (by repeat first | exact sub_nil | refine sub_cons rfl ?_), ⟨H, b1, by omega, hlt, xs ++ [(m : Int)], by simp [hxl], fun x hx => ?_, by simpa [numsV] using o3⟩, rfl⟩
      rcases List.mem_append.1 hx with hx | hx
      · exact hxo x hx
      · simp only [List.mem_singleton] at hx
        have := hm rfl
        omega
  · refine WpB.exit ?_
    have : ¬ i < ln := by simpa using ht
    obtain rfl : i = ln := by omega
    repeat first | refine qN ?_ | refine qM rfl ?_ | refine qA rfl ?_ | refine qS rfl ?_ | refine qL H b1 rfl ?_ | refine qT rfl ?_ | refine qF rfl ?_ | refine qI i (by omega) rfl ?_ | refine qI io (by omega) rfl ?_ | refine qP rfl ?_ | refine wQ ?_ | refine wR ?_ | refine wD ?_ | refine wN rfl ?_ | refine wS ?_
    exact WpB.ret ⟨_, res2 rfl rfl o1.one rfl, ⟨_, true, rfl, .inr ⟨rfl, xs, hxl, hxo, o1.low (by omega)⟩⟩, Nat.le_refl _⟩

end Go.Proofs.YtkjkcoemloakhaaGreat
end

section
set_option linter.unusedVariables false
set_option linter.unusedSimpArgs false
namespace Go.Vae
open Go

/-- All that may be read now. -/
def rdAll (h : AH) : RO := fun b off m => bif Nat.blt b (h.n + h.sz) then h.cut b off m else none

theorem rdAll_of {h : AH} {b off m : Nat} (hb : b < h.n + h.sz) : rdAll h b off m = h.cut b off m := by
  have : Nat.blt b (h.n + h.sz) = true := by simpa [Nat.blt_eq] using hb
  simp [rdAll, this]

theorem hpAll {h : AH} (hwf : h.wf) : Hp h.n h.sz (rdAll h) h := ⟨hwf, rfl, Nat.le_refl _, fun b off m cs hr => by
  unfold rdAll at hr
  cases hb : Nat.blt b (h.n + h.sz) with
  | false => rw [hb] at hr; cases hr
  | true =>
    rw [hb] at hr
    exact ⟨blt_true hb, hr⟩⟩

theorem Hp.all {N lim : Nat} {rd : RO} {h : AH} (H : Hp N lim rd h) : Hp N h.sz (rdAll h) h := by
  have := hpAll H.wf
  rw [H.n] at this
  exact this

theorem Hp.le_all {N lim : Nat} {rd : RO} {h : AH} (H : Hp N lim rd h) : rd.le (rdAll h) := fun b off m cs hr => by
  obtain ⟨h1, h2⟩ := H.ext b off m cs hr
  have := H.le
  rw [rdAll_of (by rw [H.n]; omega)]
  exact h2

theorem map_flat {α : Type} (f : α → Value) : ∀ xs : List α, xs.map f = xs.flatMap fun x => [f x]
  | [] => rfl
  | x :: xs => by rw [List.map_cons, List.flatMap_cons, map_flat f xs]; rfl

theorem own_sat {α : Type} [Inhabited α] {h : AH} {lo size n : Nat} {v : Value} {cells : α → List Value} {xs : List α} (o : Own h lo size v n (xs.flatMap cells)) (hl : ∀ x ∈ xs, (cells x).length = size) (hn : xs.length = n) (hun : n ≤ unk) : SAt (rdAll h) size cells v n (fun i => xs.getD i default) := by
  rcases o with ⟨rfl, rfl, _⟩ | ⟨k, cap, h1, h2, rfl, h4, h5, h6⟩
  · exact ⟨none, 0, rfl, Nat.le_refl _, .inl (by decide), fun i hi => absurd hi (Nat.not_lt_zero _)⟩
  · refine ⟨_, cap, rfl, ?_, h6.elim .inr (fun h => .inl (by omega)), fun i hi => ⟨_, 0, rfl, ?_⟩⟩
    · rcases h6 with h6 | ⟨h6, _⟩ <;> omega
    · rw [rdAll_of (by omega)]
      have hb : Nat.blt (h.n + k) h.n = false := by
        cases hq : Nat.blt (h.n + k) h.n
        · rfl
        · have := blt_true hq; omega
      simp only [AH.cut, hb, cond, show h.n + k - h.n = k by omega, h4]
      have hi' : i < xs.length := by omega
      rw [Nat.zero_add, lcut_flat hl hi']
      simp [List.getD, hi']

theorem own_strs {h : AH} {lo n : Nat} {v : Value} {xs : List ByteArray} (o : Own h lo 1 v n (xs.map fun s => .string s)) (hn : xs.length = n) (hx : ∀ x ∈ xs, strOK x) (hb : n ≤ reachBytes) : ∃ l : Sl ByteArray, l.v = v ∧ l.n = n ∧ l.strs (rdAll h) := by
  have hr : reachBytes ≤ unk := by decide
  have e : (xs.map fun s => Value.string s) = xs.flatMap strC := map_flat _ xs
  rw [e] at o
  refine ⟨⟨v, n, fun i => xs.getD i default⟩, rfl, rfl, hb, own_sat o (fun x _ => rfl) hn (Nat.le_trans hb hr), fun i hi => ?_⟩
  have hi' : i < xs.length := by simp only at hi; omega
  have : xs.getD i default = xs[i] := by simp [List.getD, hi']
  show strOK (xs.getD i default)
  rw [this]
  exact hx _ (List.getElem_mem hi')

theorem own_ints {h : AH} {lo n : Nat} {v : Value} {xs : List Int} (o : Own h lo 1 v n (xs.map fun s => .int .i64 s)) (hn : xs.length = n) (hx : ∀ x ∈ xs, w64 x) (hb : n ≤ reachBytes) : ∃ l : Sl Int, l.v = v ∧ l.n = n ∧ l.ints (rdAll h) ∧ ∀ i, i < n → l.x i ∈ xs := by
  have hr : reachBytes ≤ unk := by decide
  have e : (xs.map fun s => Value.int .i64 s) = xs.flatMap intC := map_flat _ xs
  rw [e] at o
  have hg : ∀ i, i < n → xs.getD i default ∈ xs := fun i hi => by
    have hi' : i < xs.length := by omega
    have : xs.getD i default = xs[i] := by simp [List.getD, hi']
    rw [this]
    exact List.getElem_mem hi'
  exact ⟨⟨v, n, fun i => xs.getD i default⟩, rfl, rfl, ⟨hb, own_sat o (fun x _ => rfl) hn (Nat.le_trans hb hr), fun i hi => hx _ (hg i hi)⟩, hg⟩

/-- A reference of a CREATE TABLE statement. -/
structure Rf where
  cols : Sl ByteArray
  tb : ByteArray
  tgt : Sl ByteArray
instance : Inhabited Rf := ⟨⟨default, .empty, default⟩⟩
def Rf.cells (r : Rf) : List Value := [r.cols.v, .string r.tb, r.tgt.v]
def Rf.At (rd : RO) (r : Rf) : Prop := r.cols.strs rd ∧ strOK r.tb ∧ r.tgt.strs rd

structure Stm where
  kind : Int
  nm : ByteArray
  cols : Sl Col
  keys : Sl (Sl ByteArray)
  fors : Sl Rf
  chk : Sl E
  r0 : Value
  rest : List Value
instance : Inhabited Stm := ⟨⟨0, .empty, default, default, default, default, .nilFunc, []⟩⟩
def Stm.cells (s : Stm) : List Value := .int .i64 s.kind :: .string s.nm :: s.cols.v :: s.keys.v :: s.fors.v :: s.chk.v :: s.r0 :: s.rest
structure Stm.At (rd : RO) (s : Stm) : Prop where
  nm : strOK s.nm
  cols : s.cols.At rd 6 Col.cells Col.ok
  keys : s.keys.At rd 1 slC (Sl.strs rd)
  fors : s.fors.At rd 3 Rf.cells (Rf.At rd)
  chk : s.chk.At rd 8 E.cells (E.At rd)

theorem Sl.strs.mono {r r' : RO} (h : r.le r') {s : Sl ByteArray} (hs : s.strs r) : s.strs r' := Sl.At.mono h (fun _ h => h) hs
theorem Sl.ints.mono {r r' : RO} (h : r.le r') {s : Sl Int} (hs : s.ints r) : s.ints r' := Sl.At.mono h (fun _ h => h) hs
theorem Rf.At.mono {r r' : RO} (h : r.le r') {x : Rf} (hs : x.At r) : x.At r' := ⟨hs.1.mono h, hs.2.1, hs.2.2.mono h⟩
theorem Stm.At.mono {r r' : RO} (h : r.le r') {x : Stm} (hs : x.At r) : x.At r' :=
  ⟨hs.nm, hs.cols.mono h (fun _ h => h), hs.keys.mono h (fun _ hx => hx.mono h), hs.fors.mono h (fun _ hx => hx.mono h), hs.chk.mono h (fun _ hx => E.At.mono h hx)⟩
theorem Fo.At.mono {r r' : RO} (h : r.le r') {x : Fo} (hs : x.At r) : x.At r' := ⟨hs.1.mono h, hs.2⟩
theorem Tb.At.mono {r r' : RO} (h : r.le r') {x : Tb} (hs : x.At r) : x.At r' :=
  ⟨hs.nm, hs.cols.mono h (fun _ h => h), hs.keys.mono h (fun _ hx => hx.mono h), hs.fors.mono h (fun _ hx => hx.mono h), hs.chk.mono h (fun _ hx => E.At.mono h hx)⟩
theorem Sl.sch.mono {r r' : RO} (h : r.le r') {s : Sl Tb} (hs : s.sch r) : s.sch r' := Sl.At.mono h (fun _ hx => Tb.At.mono h hx) hs

end Go.Vae
end

section
set_option linter.unusedVariables false
namespace Go.Proofs.YtkjkcoemloakhaaGreat
open Go Go.Vae
set_option maxRecDepth 100000

theorem invalid_ok {N lim : Nat} {rd : RO} (x : Stm) (h0 : AH) (H : Hp N lim rd h0) (hx : x.At rd) : Kp TT 89 [.agg ⟨x.cells⟩] h0 fun v _ => ∃ b, v = .bool b ∧ (b = false → ∀ i, i < x.fors.n → (x.fors.x i).cols.n = (x.fors.x i).tgt.n) := by
  obtain ⟨kd, nm, ⟨cv, cn, cx⟩, ⟨kv, kn, kx⟩, ⟨fv, fn, fx⟩, ⟨ev, en, ex⟩, r0, rest⟩ := x
  obtain ⟨hnm, ⟨hn1, ⟨ca, ccap, hcv, _, _, hcx⟩, hco⟩, ⟨hn2, ⟨ka, kcap, hkv, _, _, hkx⟩, hko⟩, ⟨hn3, ⟨fa, fcap, hfv, _, _, hfx⟩, hfo⟩, ⟨hn4, ⟨ea, ecap, hev, _, _, hex⟩, heo⟩⟩ := hx
  simp only at hcv hcx hco hkv hkx hko hfv hfx hfo hev hnm hn1 hn2 hn3
  subst hcv hkv hfv hev
  have hreach : reachBytes < 2 ^ 47 := by decide
  have hB : (∃ b, Value.bool true = .bool b ∧ (b = false → ∀ i, i < fn → (fx i).cols.n = (fx i).tgt.n)) ∧ h0.sz ≤ h0.sz := ⟨⟨true, rfl, fun h => by cases h⟩, Nat.le_refl _⟩
  refine Kp.of (fi := Tryz.fi89) rfl rfl rfl ?_
  refine WpB.seq (WpB.region ?_)
  refine SpB.box H rfl rfl rfl rfl rfl rfl fun h g s1 b1 => ?_
  have hle := H.le
  have H := g.hp H
  have l1 : h0.sz < h.sz := by omega
  clear g s1
  repeat first | refine qN ?_ | refine qM rfl ?_ | refine qA rfl ?_ | refine qS rfl ?_ | refine qL H b1 rfl ?_ | refine qT rfl ?_ | refine qF rfl ?_ | refine qI i (by omega) rfl ?_ | refine qI io (by omega) rfl ?_ | refine qP rfl ?_ | refine wQ ?_ | refine wR ?_ | refine wD ?_ | refine wN rfl ?_ | refine wS ?_
  refine SpB.alloc H rfl rfl rfl rfl rfl fun h2 g s2 b2 => ?_
  have l2 : h.sz < h2.sz := by omega
  have H := g.hp H
  have b1 := g.keep l1 b1
  have l1 := g.lt l1
  refine SpB.storeO H b2 (by omega) (by omega) rfl rfl rfl rfl rfl rfl rfl rfl rfl fun h3 g3 s3 b3 f3 => ?_
  have H := g3.hpL (by omega) H
  have b1 := (f3 h0.sz (by omega)).trans b1
  have b2 : h3.blk h.sz = some (.cells [.slice ca cn ccap, .slice ka kn kcap, .slice fa fn fcap, .slice ea en ecap]) := b3
  have l1 : h0.sz < h3.sz := by omega
  have l2 : h.sz < h3.sz := by omega
  clear f3 b3 g3
  repeat first | refine qN ?_ | refine qM rfl ?_ | refine qA rfl ?_ | refine qS rfl ?_ | refine qL H b1 rfl ?_ | refine qL H b2 rfl ?_ | refine qT rfl ?_ | refine qF rfl ?_ | refine qI i (by omega) rfl ?_ | refine qI io (by omega) rfl ?_ | refine qP rfl ?_ | refine wQ ?_ | refine wR ?_ | refine wD ?_ | refine wN rfl ?_ | refine wS ?_
  refine SpB.callK Tryz.T1OK H (by omega) (name_ok nm h3 H hnm) rfl rfl rfl rfl rfl ?_
  rintro v h4 ⟨r, rfl⟩ g
  have H := g.hp H
  have b1 := g.keep l1 b1
  have l1 := g.lt l1
  have b2 := g.keep l2 b2
  have l2 := g.lt l2
  repeat first | refine qN ?_ | refine qM rfl ?_ | refine qA rfl ?_ | refine qS rfl ?_ | refine qL H b1 rfl ?_ | refine qL H b2 rfl ?_ | refine qT rfl ?_ | refine qF rfl ?_ | refine qI i (by omega) rfl ?_ | refine qI io (by omega) rfl ?_ | refine qP rfl ?_ | refine wQ ?_ | refine wR ?_ | refine wD ?_ | refine wN rfl ?_ | refine wS ?_
  refine qB rfl (fun c1 => ?_) fun c1 => ?_
  · repeat' first | refine qN ?_ | refine qM rfl ?_ | refine qA rfl ?_ | refine qS rfl ?_ | refine qL H b1 rfl ?_ | refine qL H b2 rfl ?_ | refine qT rfl ?_ | refine qF rfl ?_ | refine qB rfl (fun ht => ?_) fun ht => ?_ | refine qI i (by omega) rfl ?_ | refine qI io (by omega) rfl ?_ | refine qP rfl ?_ | refine wQ ?_ | refine wR ?_ | refine wD ?_ | refine wN rfl ?_ | refine wS ?_ | refine wT rfl ?_ | refine wF rfl ?_ | refine WpB.cond rfl (fun ht => ?_) fun ht => ?_
    exact WpB.ret ⟨_, rfl, hB⟩
  repeat first | refine qN ?_ | refine qM rfl ?_ | refine qA rfl ?_ | refine qS rfl ?_ | refine qL H b1 rfl ?_ | refine qL H b2 rfl ?_ | refine qT rfl ?_ | refine qF rfl ?_ | refine qI i (by omega) rfl ?_ | refine qI io (by omega) rfl ?_ | refine qP rfl ?_ | refine wQ ?_ | refine wR ?_ | refine wD ?_ | refine wN rfl ?_ | refine wS ?_
  refine WpB.cond rfl (fun ht => ?_) fun ht => ?_
  · repeat first | refine qN ?_ | refine qM rfl ?_ | refine qA rfl ?_ | refine qS rfl ?_ | refine qL H b1 rfl ?_ | refine qL H b2 rfl ?_ | refine qT rfl ?_ | refine qF rfl ?_ | refine qI i (by omega) rfl ?_ | refine qI io (by omega) rfl ?_ | refine qP rfl ?_ | refine wQ ?_ | refine wR ?_ | refine wD ?_ | refine wN rfl ?_ | refine wS ?_
    exact WpB.ret ⟨_, rfl, hB⟩
  repeat first | refine qN ?_ | refine qM rfl ?_ | refine qA rfl ?_ | refine qS rfl ?_ | refine qL H b1 rfl ?_ | refine qL H b2 rfl ?_ | refine qT rfl ?_ | refine qF rfl ?_ | refine qI i (by omega) rfl ?_ | refine qI io (by omega) rfl ?_ | refine qP rfl ?_ | refine wQ ?_ | refine wR ?_ | refine wD ?_ | refine wN rfl ?_ | refine wS ?_
  refine WpB.cut1 [(3, .pointer (some ⟨N + h.sz, 0, none⟩))] (fun h' => Hp N lim rd h' ∧ h'.blk h.sz = some (.cells [.slice ca cn ccap, .slice ka kn kcap, .slice fa fn fcap, .slice ea en ecap]) ∧ h.sz < h'.sz) ?_ ?_
  · refine WpB.block ?_
    refine WpB.loopC cn (fun i => [(4, .int .i64 (i : Int)), (3, .pointer (some ⟨N + h.sz, 0, none⟩))]) (fun i h' => Hp N lim rd h' ∧ h'.blk h.sz = some (.cells [.slice ca cn ccap, .slice ka kn kcap, .slice fa fn fcap, .slice ea en ecap]) ∧ h.sz < h'.sz) ⟨H, b2, l2⟩ (by repeat first | exact sub_nil | refine sub_cons rfl ?_) ?_
    rintro i h' hi ⟨H, b1, l1⟩
    repeat first | refine qN ?_ | refine qM rfl ?_ | refine qA rfl ?_ | refine qS rfl ?_ | refine qL H b1 rfl ?_ | refine qT rfl ?_ | refine qF rfl ?_ | refine qI i (by omega) rfl ?_ | refine qI io (by omega) rfl ?_ | refine qP rfl ?_ | refine wQ ?_ | refine wR ?_ | refine wD ?_ | refine wN rfl ?_ | refine wS ?_
    refine WpB.cond rfl (fun ht => ?_) fun ht => ?_
    · have hlt : i < cn := by simpa using ht
      obtain ⟨b, off, rfl, hc⟩ := hcx i hlt
      refine WpB.skip ?_
      refine WpB.seq (WpB.block ?_)
      repeat first | refine qN ?_ | refine qM rfl ?_ | refine qA rfl ?_ | refine qS rfl ?_ | refine qL H b1 rfl ?_ | refine qT rfl ?_ | refine qF rfl ?_ | refine qI i (by omega) rfl ?_ | refine qI io (by omega) rfl ?_ | refine qP rfl ?_ | refine wQ ?_ | refine wR ?_ | refine wD ?_ | refine wN rfl ?_ | refine wS ?_
      refine SpB.indexN hlt rfl rfl rfl rfl rfl rfl rfl rfl rfl ?_
      refine SpB.loadR H hc rfl rfl rfl rfl rfl rfl rfl ?_
      refine SpB.callK Tryz.T1OK H (by omega) (column110_ok (cx i) h' H (hco i hlt)) rfl rfl rfl rfl rfl ?_
      rintro v h5 ⟨r, rfl⟩ g
      have H := g.hp H
      have b1 := g.keep l1 b1
      have l1 := g.lt l1
      repeat first | refine qN ?_ | refine qM rfl ?_ | refine qA rfl ?_ | refine qS rfl ?_ | refine qL H b1 rfl ?_ | refine qT rfl ?_ | refine qF rfl ?_ | refine qI i (by omega) rfl ?_ | refine qI io (by omega) rfl ?_ | refine qP rfl ?_ | refine wQ ?_ | refine wR ?_ | refine wD ?_ | refine wN rfl ?_ | refine wS ?_
      refine WpB.cond rfl (fun ht => ?_) fun ht => ?_
      · repeat first | refine qN ?_ | refine qM rfl ?_ | refine qA rfl ?_ | refine qS rfl ?_ | refine qL H b1 rfl ?_ | refine qT rfl ?_ | refine qF rfl ?_ | refine qI i (by omega) rfl ?_ | refine qI io (by omega) rfl ?_ | refine qP rfl ?_ | refine wQ ?_ | refine wR ?_ | refine wD ?_ | refine wN rfl ?_ | refine wS ?_
        exact WpB.ret ⟨_, rfl, hB⟩
      · repeat first | refine qN ?_ | refine qM rfl ?_ | refine qA rfl ?_ | refine qS rfl ?_ | refine qL H b1 rfl ?_ | refine qT rfl ?_ | refine qF rfl ?_ | refine qI i (by omega) rfl ?_ | refine qI io (by omega) rfl ?_ | refine qP rfl ?_ | refine wQ ?_ | refine wR ?_ | refine wD ?_ | refine wN rfl ?_ | refine wS ?_
        exact ⟨hlt, (by repeat first | exact sub_nil | refine sub_cons rfl ?_), ⟨H, b1, l1⟩, rfl⟩
    · refine WpB.exit ?_
      exact ⟨(by repeat first | exact sub_nil | refine sub_cons rfl ?_), ⟨H, b1, l1⟩, rfl⟩
  clear H b1 l1 b2 l2
  rintro h5 ⟨H, b1, l1⟩
  repeat first | refine qN ?_ | refine qM rfl ?_ | refine qA rfl ?_ | refine qS rfl ?_ | refine qL H b1 rfl ?_ | refine qT rfl ?_ | refine qF rfl ?_ | refine qI i (by omega) rfl ?_ | refine qI io (by omega) rfl ?_ | refine qP rfl ?_ | refine wQ ?_ | refine wR ?_ | refine wD ?_ | refine wN rfl ?_ | refine wS ?_
  refine WpB.cut1 [(3, .pointer (some ⟨N + h.sz, 0, none⟩))] (fun h' => h' = h5) ?_ ?_
  · refine WpB.block ?_
    refine WpB.loopC kn (fun i => [(5, .int .i64 (i : Int)), (3, .pointer (some ⟨N + h.sz, 0, none⟩))]) (fun i h' => h' = h5) rfl (by repeat first | exact sub_nil | refine sub_cons rfl ?_) ?_
    rintro i h' hi rfl
    repeat first | refine qN ?_ | refine qM rfl ?_ | refine qA rfl ?_ | refine qS rfl ?_ | refine qL H b1 rfl ?_ | refine qT rfl ?_ | refine qF rfl ?_ | refine qI i (by omega) rfl ?_ | refine qI io (by omega) rfl ?_ | refine qP rfl ?_ | refine wQ ?_ | refine wR ?_ | refine wD ?_ | refine wN rfl ?_ | refine wS ?_
    refine WpB.cond rfl (fun ht => ?_) fun ht => ?_
    · have hlt : i < kn := by simpa using ht
      obtain ⟨b, off, rfl, hc⟩ := hkx i hlt
      refine WpB.skip ?_
      refine WpB.seq (WpB.block ?_)
      obtain ⟨_, ⟨la, lcap, hlv, _, _, _⟩, _⟩ := hko i hlt
      simp only [slC, hlv] at hc
      repeat first | refine qN ?_ | refine qM rfl ?_ | refine qA rfl ?_ | refine qS rfl ?_ | refine qL H b1 rfl ?_ | refine qT rfl ?_ | refine qF rfl ?_ | refine qI i (by omega) rfl ?_ | refine qI io (by omega) rfl ?_ | refine qP rfl ?_ | refine wQ ?_ | refine wR ?_ | refine wD ?_ | refine wN rfl ?_ | refine wS ?_
      refine SpB.indexN hlt rfl rfl rfl rfl rfl rfl rfl rfl rfl ?_
      refine SpB.loadRC H hc rfl rfl rfl rfl rfl rfl rfl ?_
      repeat first | refine qN ?_ | refine qM rfl ?_ | refine qA rfl ?_ | refine qS rfl ?_ | refine qL H b1 rfl ?_ | refine qT rfl ?_ | refine qF rfl ?_ | refine qI i (by omega) rfl ?_ | refine qI io (by omega) rfl ?_ | refine qP rfl ?_ | refine wQ ?_ | refine wR ?_ | refine wD ?_ | refine wN rfl ?_ | refine wS ?_
      refine WpB.cond rfl (fun ht => ?_) fun ht => ?_
      · repeat first | refine qN ?_ | refine qM rfl ?_ | refine qA rfl ?_ | refine qS rfl ?_ | refine qL H b1 rfl ?_ | refine qT rfl ?_ | refine qF rfl ?_ | refine qI i (by omega) rfl ?_ | refine qI io (by omega) rfl ?_ | refine qP rfl ?_ | refine wQ ?_ | refine wR ?_ | refine wD ?_ | refine wN rfl ?_ | refine wS ?_
        exact WpB.ret ⟨_, rfl, hB⟩
      · repeat first | refine qN ?_ | refine qM rfl ?_ | refine qA rfl ?_ | refine qS rfl ?_ | refine qL H b1 rfl ?_ | refine qT rfl ?_ | refine qF rfl ?_ | refine qI i (by omega) rfl ?_ | refine qI io (by omega) rfl ?_ | refine qP rfl ?_ | refine wQ ?_ | refine wR ?_ | refine wD ?_ | refine wN rfl ?_ | refine wS ?_
        exact ⟨hlt, (by repeat first | exact sub_nil | refine sub_cons rfl ?_), rfl, rfl⟩
    · refine WpB.exit ?_
      exact ⟨(by repeat first | exact sub_nil | refine sub_cons rfl ?_), rfl, rfl⟩
  rintro h5 rfl
  repeat first | refine qN ?_ | refine qM rfl ?_ | refine qA rfl ?_ | refine qS rfl ?_ | refine qL H b1 rfl ?_ | refine qT rfl ?_ | refine qF rfl ?_ | refine qI i (by omega) rfl ?_ | refine qI io (by omega) rfl ?_ | refine qP rfl ?_ | refine wQ ?_ | refine wR ?_ | refine wD ?_ | refine wN rfl ?_ | refine wS ?_
  refine WpB.block ?_
  refine WpB.loopC fn (fun i => [(6, .int .i64 (i : Int)), (3, .pointer (some ⟨N + h.sz, 0, none⟩))]) (fun i h' => h' = h5 ∧ ∀ j, j < i → (fx j).cols.n = (fx j).tgt.n) ⟨rfl, fun j hj => absurd hj (Nat.not_lt_zero _)⟩ (by repeat first | exact sub_nil | refine sub_cons rfl ?_) ?_
  rintro i h' hi ⟨rfl, hj⟩
  repeat first | refine qN ?_ | refine qM rfl ?_ | refine qA rfl ?_ | refine qS rfl ?_ | refine qL H b1 rfl ?_ | refine qT rfl ?_ | refine qF rfl ?_ | refine qI i (by omega) rfl ?_ | refine qI io (by omega) rfl ?_ | refine qP rfl ?_ | refine wQ ?_ | refine wR ?_ | refine wD ?_ | refine wN rfl ?_ | refine wS ?_
  refine WpB.cond rfl (fun ht => ?_) fun ht => ?_
  · have hlt : i < fn := by simpa using ht
    obtain ⟨b, off, rfl, hc⟩ := hfx i hlt
    refine WpB.skip ?_
    refine WpB.seq (WpB.block ?_)
    obtain ⟨⟨_, ⟨la, lcap, hlv, _, _, _⟩, _⟩, _, ⟨_, ⟨ma, mcap, hmv, _, _, _⟩, _⟩⟩ := hfo i hlt
    simp only [Rf.cells, hlv, hmv] at hc
    have hL : loadT TT h' 25 b (off + i * 3 + 0) = some (.slice la (fx i).cols.n lcap) := loadT_cell rfl rfl (cell_at (H.ext _ _ _ _ hc).2 (j := 0) rfl)
    have hM : loadT TT h' 25 b (off + i * 3 + 2) = some (.slice ma (fx i).tgt.n mcap) := loadT_cell rfl rfl (cell_at (H.ext _ _ _ _ hc).2 (j := 2) rfl)
    repeat first | refine qN ?_ | refine qM rfl ?_ | refine qA rfl ?_ | refine qS rfl ?_ | refine qL H b1 rfl ?_ | refine qT rfl ?_ | refine qF rfl ?_ | refine qI i (by omega) rfl ?_ | refine qI io (by omega) rfl ?_ | refine qP rfl ?_ | refine wQ ?_ | refine wR ?_ | refine wD ?_ | refine wN rfl ?_ | refine wS ?_
    refine SpB.indexN hlt rfl rfl rfl rfl rfl rfl rfl rfl rfl ?_
    repeat first | refine qN ?_ | refine qM rfl ?_ | refine qA rfl ?_ | refine qS rfl ?_ | refine qL H b1 rfl ?_ | refine qT rfl ?_ | refine qF rfl ?_ | refine qI i (by omega) rfl ?_ | refine qI io (by omega) rfl ?_ | refine qP rfl ?_ | refine wQ ?_ | refine wR ?_ | refine wD ?_ | refine wN rfl ?_ | refine wS ?_
    refine SpB.load rfl rfl rfl hL rfl rfl ?_
    repeat first | refine qN ?_ | refine qM rfl ?_ | refine qA rfl ?_ | refine qS rfl ?_ | refine qL H b1 rfl ?_ | refine qT rfl ?_ | refine qF rfl ?_ | refine qI i (by omega) rfl ?_ | refine qI io (by omega) rfl ?_ | refine qP rfl ?_ | refine wQ ?_ | refine wR ?_ | refine wD ?_ | refine wN rfl ?_ | refine wS ?_
    refine qB rfl (fun c2 => ?_) fun c2 => ?_
    · repeat' first | refine qN ?_ | refine qM rfl ?_ | refine qA rfl ?_ | refine qS rfl ?_ | refine qL H b1 rfl ?_ | refine qT rfl ?_ | refine qF rfl ?_ | refine qB rfl (fun ht => ?_) fun ht => ?_ | refine qI i (by omega) rfl ?_ | refine qI io (by omega) rfl ?_ | refine qP rfl ?_ | refine wQ ?_ | refine wR ?_ | refine wD ?_ | refine wN rfl ?_ | refine wS ?_ | refine wT rfl ?_ | refine wF rfl ?_ | refine WpB.cond rfl (fun ht => ?_) fun ht => ?_
      exact WpB.ret ⟨_, rfl, hB⟩
    repeat first | refine qN ?_ | refine qM rfl ?_ | refine qA rfl ?_ | refine qS rfl ?_ | refine qL H b1 rfl ?_ | refine qT rfl ?_ | refine qF rfl ?_ | refine qI i (by omega) rfl ?_ | refine qI io (by omega) rfl ?_ | refine qP rfl ?_ | refine wQ ?_ | refine wR ?_ | refine wD ?_ | refine wN rfl ?_ | refine wS ?_
    refine SpB.indexN hlt rfl rfl rfl rfl rfl rfl rfl rfl rfl ?_
    repeat first | refine qN ?_ | refine qM rfl ?_ | refine qA rfl ?_ | refine qS rfl ?_ | refine qL H b1 rfl ?_ | refine qT rfl ?_ | refine qF rfl ?_ | refine qI i (by omega) rfl ?_ | refine qI io (by omega) rfl ?_ | refine qP rfl ?_ | refine wQ ?_ | refine wR ?_ | refine wD ?_ | refine wN rfl ?_ | refine wS ?_
    refine SpB.load rfl rfl rfl hL rfl rfl ?_
    repeat first | refine qN ?_ | refine qM rfl ?_ | refine qA rfl ?_ | refine qS rfl ?_ | refine qL H b1 rfl ?_ | refine qT rfl ?_ | refine qF rfl ?_ | refine qI i (by omega) rfl ?_ | refine qI io (by omega) rfl ?_ | refine qP rfl ?_ | refine wQ ?_ | refine wR ?_ | refine wD ?_ | refine wN rfl ?_ | refine wS ?_
    refine SpB.indexN hlt rfl rfl rfl rfl rfl rfl rfl rfl rfl ?_
    repeat first | refine qN ?_ | refine qM rfl ?_ | refine qA rfl ?_ | refine qS rfl ?_ | refine qL H b1 rfl ?_ | refine qT rfl ?_ | refine qF rfl ?_ | refine qI i (by omega) rfl ?_ | refine qI io (by omega) rfl ?_ | refine qP rfl ?_ | refine wQ ?_ | refine wR ?_ | refine wD ?_ | refine wN rfl ?_ | refine wS ?_
    refine SpB.load rfl rfl rfl hM rfl rfl ?_
    repeat first | refine qN ?_ | refine qM rfl ?_ | refine qA rfl ?_ | refine qS rfl ?_ | refine qL H b1 rfl ?_ | refine qT rfl ?_ | refine qF rfl ?_ | refine qI i (by omega) rfl ?_ | refine qI io (by omega) rfl ?_ | refine qP rfl ?_ | refine wQ ?_ | refine wR ?_ | refine wD ?_ | refine wN rfl ?_ | refine wS ?_
    refine WpB.cond rfl (fun ht => ?_) fun ht => ?_
    · repeat first | refine qN ?_ | refine qM rfl ?_ | refine qA rfl ?_ | refine qS rfl ?_ | refine qL H b1 rfl ?_ | refine qT rfl ?_ | refine qF rfl ?_ | refine qI i (by omega) rfl ?_ | refine qI io (by omega) rfl ?_ | refine qP rfl ?_ | refine wQ ?_ | refine wR ?_ | refine wD ?_ | refine wN rfl ?_ | refine wS ?_
      exact WpB.ret ⟨_, rfl, hB⟩
    · repeat first | refine qN ?_ | refine qM rfl ?_ | refine qA rfl ?_ | refine qS rfl ?_ | refine qL H b1 rfl ?_ | refine qT rfl ?_ | refine qF rfl ?_ | refine qI i (by omega) rfl ?_ | refine qI io (by omega) rfl ?_ | refine qP rfl ?_ | refine wQ ?_ | refine wR ?_ | refine wD ?_ | refine wN rfl ?_ | refine wS ?_
      refine ⟨hlt, (by repeat first | exact sub_nil | refine sub_cons rfl ?_), ⟨rfl, fun j hj1 => ?_⟩, rfl⟩
      by_cases e : j = i
      · subst e; simp at ht; omega
      · exact hj j (by omega)
  · refine WpB.exit ?_
    have hge : ¬ i < fn := by simpa using ht
    repeat first | refine qN ?_ | refine qM rfl ?_ | refine qA rfl ?_ | refine qS rfl ?_ | refine qL H b1 rfl ?_ | refine qT rfl ?_ | refine qF rfl ?_ | refine qI i (by omega) rfl ?_ | refine qI io (by omega) rfl ?_ | refine qP rfl ?_ | refine wQ ?_ | refine wR ?_ | refine wD ?_ | refine wN rfl ?_ | refine wS ?_
    exact WpB.ret ⟨_, rfl, ⟨_, rfl, fun _ j (hj1 : j < fn) => hj j (by omega)⟩, Nat.le_refl _⟩

end Go.Proofs.YtkjkcoemloakhaaGreat
end

section
set_option linter.unusedVariables false
namespace Go.Proofs.YtkjkcoemloakhaaGreat
open Go Go.Vae
set_option maxRecDepth 100000

set_option maxHeartbeats 1600000 in
theorem exists_ok {N lim : Nat} {rd : RO} (s : Sl Tb) (x : Stm) (h0 : AH) (H : Hp N lim rd h0) (hs : s.sch rd) (hx : x.At rd) (hsm : x.cols.n ≤ 1000000) : Kp TT 90 [s.v, .agg ⟨x.cells⟩] h0 anyB := by
  have hfind := fun h (H : Hp N lim rd h) r => find_ok s r h H hs
  obtain ⟨kd, nm, ⟨cv, cn, cx⟩, ⟨kv, kn, kx⟩, ⟨fv, fn, fx⟩, ⟨ev, en, ex⟩, r0, rest⟩ := x
  obtain ⟨hnm, ⟨hn1, ⟨ca, ccap, hcv, _, _, hcx⟩, hco⟩, ⟨hn2, ⟨ka, kcap, hkv, _, _, hkx⟩, hko⟩, ⟨hn3, ⟨fa, fcap, hfv, _, _, hfx⟩, hfo⟩, ⟨hn4, ⟨ea, ecap, hev, _, _, hex⟩, heo⟩⟩ := hx
  simp only at hcv hcx hco hkv hkx hko hfv hfx hfo hev hnm hn1 hn2 hn3 hsm
  subst hcv hkv hfv hev
  generalize s.v = sv at hfind ⊢
  have hreach : reachBytes < 2 ^ 47 := by decide
  have hreach2 : 1000000 ≤ reachBytes := by decide
  have hB : ∀ b, (∃ b', Value.bool b = .bool b') ∧ h0.sz ≤ h0.sz := fun b => ⟨⟨b, rfl⟩, Nat.le_refl _⟩
  refine Kp.of (fi := Tryz.fi90) rfl rfl rfl ?_
  refine WpB.seq (WpB.region ?_)
  refine SpB.box H rfl rfl rfl rfl rfl rfl fun h g s1 b1 => ?_
  have hle := H.le
  have H := g.hp H
  have l1 : h0.sz < h.sz := by omega
  clear g s1
  repeat first | refine qN ?_ | refine qM rfl ?_ | refine qA rfl ?_ | refine qS rfl ?_ | refine qL H b1 rfl ?_ | refine qT rfl ?_ | refine qF rfl ?_ | refine qI i (by omega) rfl ?_ | refine qI io (by omega) rfl ?_ | refine qP rfl ?_ | refine wQ ?_ | refine wR ?_ | refine wD ?_ | refine wN rfl ?_ | refine wS ?_
  refine SpB.alloc H rfl rfl rfl rfl rfl fun h2 g s2 b2 => ?_
  have l2 : h.sz < h2.sz := by omega
  have H := g.hp H
  have b1 := g.keep l1 b1
  have l1 := g.lt l1
  refine SpB.storeO H b2 (by omega) (by omega) rfl rfl rfl rfl rfl rfl rfl rfl rfl fun h3 g3 s3 b3 f3 => ?_
  have H := g3.hpL (by omega) H
  have b1 := (f3 h0.sz (by omega)).trans b1
  have b2 : h3.blk h.sz = some (.cells [.slice ca cn ccap, .slice ka kn kcap, .slice fa fn fcap, .slice ea en ecap]) := b3
  have l1 : h0.sz < h3.sz := by omega
  have l2 : h.sz < h3.sz := by omega
  have l12 : h0.sz < h.sz := by omega
  clear f3 b3 g3
  repeat first | refine qN ?_ | refine qM rfl ?_ | refine qA rfl ?_ | refine qS rfl ?_ | refine qL H b1 rfl ?_ | refine qL H b2 rfl ?_ | refine qT rfl ?_ | refine qF rfl ?_ | refine qI i (by omega) rfl ?_ | refine qI io (by omega) rfl ?_ | refine qP rfl ?_ | refine wQ ?_ | refine wR ?_ | refine wD ?_ | refine wN rfl ?_ | refine wS ?_
  refine SpB.callK Tryz.T1OK H (by omega) (hfind h3 H nm) rfl rfl rfl rfl rfl ?_
  rintro v h4 ⟨fi, fb, rfl, _⟩ g
  have H := g.hp H
  have b1 := g.keep l1 b1
  have l1 := g.lt l1
  have b2 := g.keep l2 b2
  have l2 := g.lt l2
  repeat first | refine qN ?_ | refine qM rfl ?_ | refine qA rfl ?_ | refine qS rfl ?_ | refine qL H b1 rfl ?_ | refine qL H b2 rfl ?_ | refine qT rfl ?_ | refine qF rfl ?_ | refine qI i (by omega) rfl ?_ | refine qI io (by omega) rfl ?_ | refine qP rfl ?_ | refine wQ ?_ | refine wR ?_ | refine wD ?_ | refine wN rfl ?_ | refine wS ?_
  refine WpB.cond rfl (fun ht => ?_) fun ht => ?_
  · repeat first | refine qN ?_ | refine qM rfl ?_ | refine qA rfl ?_ | refine qS rfl ?_ | refine qL H b1 rfl ?_ | refine qL H b2 rfl ?_ | refine qT rfl ?_ | refine qF rfl ?_ | refine qI i (by omega) rfl ?_ | refine qI io (by omega) rfl ?_ | refine qP rfl ?_ | refine wQ ?_ | refine wR ?_ | refine wD ?_ | refine wN rfl ?_ | refine wS ?_
    exact WpB.ret ⟨_, rfl, hB _⟩
  repeat first | refine qN ?_ | refine qM rfl ?_ | refine qA rfl ?_ | refine qS rfl ?_ | refine qL H b1 rfl ?_ | refine qL H b2 rfl ?_ | refine qT rfl ?_ | refine qF rfl ?_ | refine qI i (by omega) rfl ?_ | refine qI io (by omega) rfl ?_ | refine qP rfl ?_ | refine wQ ?_ | refine wR ?_ | refine wD ?_ | refine wN rfl ?_ | refine wS ?_
  clear b1 l1
  have b1 := b2
  have l1 := l2
  clear b2 l2
  refine WpB.block ?_
  refine WpB.loopS (σ := Nat × Value) (fun s => cn - s.1) (fun s => [(9, .int .i64 (s.1 : Int)), (8, s.2), (5, .pointer (some ⟨N + h.sz, 0, none⟩))])
    (fun s h' => Hp N lim rd h' ∧ h'.blk h.sz = some (.cells [.slice ca cn ccap, .slice ka kn kcap, .slice fa fn fcap, .slice ea en ecap]) ∧ h.sz < h'.sz ∧ s.1 ≤ cn ∧ ∃ xs : List ByteArray, xs.length = s.1 ∧ (∀ x ∈ xs, strOK x) ∧ Own h' (h.sz + 1) 1 s.2 s.1 (strsV xs)) (0, .slice none 0 0)
    ⟨H, b1, l1, Nat.zero_le _, [], rfl, fun x hx => by simp at hx, Own.nil _ _ _⟩ (by repeat first | exact sub_nil | refine sub_cons rfl ?_) ?_
  clear H b1 l1
  rintro ⟨i, v⟩ h5 ⟨H, b1, l1, hi1, xs, hxl, hxo, o1⟩
  simp only at hi1 o1 hxl
  repeat first | refine qN ?_ | refine qM rfl ?_ | refine qA rfl ?_ | refine qS rfl ?_ | refine qL H b1 rfl ?_ | refine qT rfl ?_ | refine qF rfl ?_ | refine qI i (by omega) rfl ?_ | refine qI io (by omega) rfl ?_ | refine qP rfl ?_ | refine wQ ?_ | refine wR ?_ | refine wD ?_ | refine wN rfl ?_ | refine wS ?_
  refine WpB.cond rfl (fun ht => ?_) fun ht => ?_
  · have hlt : i < cn := by simpa using ht
    obtain ⟨b, off, rfl, hc⟩ := hcx i hlt
    refine WpB.skip ?_
    refine WpB.seq (WpB.block ?_)
    repeat first | refine qN ?_ | refine qM rfl ?_ | refine qA rfl ?_ | refine qS rfl ?_ | refine qL H b1 rfl ?_ | refine qT rfl ?_ | refine qF rfl ?_ | refine qI i (by omega) rfl ?_ | refine qI io (by omega) rfl ?_ | refine qP rfl ?_ | refine wQ ?_ | refine wR ?_ | refine wD ?_ | refine wN rfl ?_ | refine wS ?_
    refine SpB.indexN hlt rfl rfl rfl rfl rfl rfl rfl rfl rfl ?_
    repeat first | refine qN ?_ | refine qM rfl ?_ | refine qA rfl ?_ | refine qS rfl ?_ | refine qL H b1 rfl ?_ | refine qT rfl ?_ | refine qF rfl ?_ | refine qI i (by omega) rfl ?_ | refine qI io (by omega) rfl ?_ | refine qP rfl ?_ | refine wQ ?_ | refine wR ?_ | refine wD ?_ | refine wN rfl ?_ | refine wS ?_
    refine SpB.load (v := .string (cx i).nm) rfl rfl rfl (loadT_cell rfl rfl (cell_at (H.ext _ _ _ _ hc).2 (j := 0) rfl)) rfl rfl ?_
    refine SpB.newS H rfl rfl rfl rfl rfl fun h6 g s6 b6 => ?_
    have l6 : h5.sz < h6.sz := by omega
    have hle6 := H.le
    have H := g.hp H
    have b1 := g.keep l1 b1
    have l1 := g.lt l1
    have o1 := o1.grow g (Nat.le_refl _)
    have o2 : Own h6 h5.sz 1 (.slice (some ⟨N + h5.sz, 0, none⟩) 1 1) 1 (strsV [(cx i).nm]) := .inr ⟨h5.sz, 1, Nat.le_refl _, by omega, by rw [H.n], b6, rfl, .inr ⟨rfl, by decide⟩⟩
    refine SpB.append (st := 25) (xt := 25) H o1 o2.src rfl (by omega) (by omega) (show (i + 1) * 16 ≤ 70368744177664 by omega) rfl rfl rfl rfl rfl rfl rfl rfl rfl rfl rfl rfl rfl rfl ?_
    intro v3 h7 acc o3 g3
    have H := g3.hpL (by omega) H
    have b1 := g3.keepL (by omega) (by omega) b1
    have l3 := g3.le
    repeat first | refine qN ?_ | refine qM rfl ?_ | refine qA rfl ?_ | refine qS rfl ?_ | refine qL H b1 rfl ?_ | refine qT rfl ?_ | refine qF rfl ?_ | refine qI i (by omega) rfl ?_ | refine qI io (by omega) rfl ?_ | refine qP rfl ?_ | refine wQ ?_ | refine wR ?_ | refine wD ?_ | refine wN rfl ?_ | refine wS ?_
    refine ⟨(i + 1, v3), by show cn - (i + 1) < cn - i; omega, (by repeat first | exact sub_nil | refine sub_cons rfl ?_), ⟨H, b1, by omega, hlt, xs ++ [(cx i).nm], by simp [hxl], fun x hx => ?_, by simpa [strsV] using o3⟩, rfl⟩
    rcases List.mem_append.1 hx with hx | hx
    · exact hxo x hx
    · simp only [List.mem_singleton] at hx
      rw [hx]
      exact (hco i hlt).1
  refine WpB.exit ?_
  have hge : ¬ i < cn := by simpa using ht
  obtain ⟨l, hlv, hln, hls⟩ := own_strs o1 hxl hxo (by omega)
  subst hlv
  repeat first | refine qN ?_ | refine qM rfl ?_ | refine qA rfl ?_ | refine qS rfl ?_ | refine qL H b1 rfl ?_ | refine qT rfl ?_ | refine qF rfl ?_ | refine qI i (by omega) rfl ?_ | refine qI io (by omega) rfl ?_ | refine qP rfl ?_ | refine wQ ?_ | refine wR ?_ | refine wD ?_ | refine wN rfl ?_ | refine wS ?_
  refine SpB.callK Tryz.T1OK H (by omega) (twice_ok l h5 H.all hls) rfl rfl rfl rfl rfl ?_
  rintro v h6 ⟨r, rfl⟩ g
  have H := g.hp H
  have b1 := g.keep l1 b1
  have l1 := g.lt l1
  repeat first | refine qN ?_ | refine qM rfl ?_ | refine qA rfl ?_ | refine qS rfl ?_ | refine qL H b1 rfl ?_ | refine qT rfl ?_ | refine qF rfl ?_ | refine qI i (by omega) rfl ?_ | refine qI io (by omega) rfl ?_ | refine qP rfl ?_ | refine wQ ?_ | refine wR ?_ | refine wD ?_ | refine wN rfl ?_ | refine wS ?_
  refine WpB.cond rfl (fun ht => ?_) fun ht => ?_
  · repeat first | refine qN ?_ | refine qM rfl ?_ | refine qA rfl ?_ | refine qS rfl ?_ | refine qL H b1 rfl ?_ | refine qT rfl ?_ | refine qF rfl ?_ | refine qI i (by omega) rfl ?_ | refine qI io (by omega) rfl ?_ | refine qP rfl ?_ | refine wQ ?_ | refine wR ?_ | refine wD ?_ | refine wN rfl ?_ | refine wS ?_
    exact WpB.ret ⟨_, rfl, hB _⟩
  repeat first | refine qN ?_ | refine qM rfl ?_ | refine qA rfl ?_ | refine qS rfl ?_ | refine qL H b1 rfl ?_ | refine qT rfl ?_ | refine qF rfl ?_ | refine qI i (by omega) rfl ?_ | refine qI io (by omega) rfl ?_ | refine qP rfl ?_ | refine wQ ?_ | refine wR ?_ | refine wD ?_ | refine wN rfl ?_ | refine wS ?_
  clear o1 hls
  refine WpB.cut1 [(5, .pointer (some ⟨N + h.sz, 0, none⟩))] (fun h' => Hp N lim rd h' ∧ h'.blk h.sz = some (.cells [.slice ca cn ccap, .slice ka kn kcap, .slice fa fn fcap, .slice ea en ecap]) ∧ h.sz < h'.sz) ?_ ?_
  · refine WpB.block ?_
    refine WpB.loopC kn (fun i => [(10, .int .i64 (i : Int)), (5, .pointer (some ⟨N + h.sz, 0, none⟩))]) (fun i h' => Hp N lim rd h' ∧ h'.blk h.sz = some (.cells [.slice ca cn ccap, .slice ka kn kcap, .slice fa fn fcap, .slice ea en ecap]) ∧ h.sz < h'.sz) ⟨H, b1, l1⟩ (by repeat first | exact sub_nil | refine sub_cons rfl ?_) ?_
    clear H b1 l1
    rintro io h7 hio ⟨H, b1, l1⟩
    repeat first | refine qN ?_ | refine qM rfl ?_ | refine qA rfl ?_ | refine qS rfl ?_ | refine qL H b1 rfl ?_ | refine qT rfl ?_ | refine qF rfl ?_ | refine qI i (by omega) rfl ?_ | refine qI io (by omega) rfl ?_ | refine qP rfl ?_ | refine wQ ?_ | refine wR ?_ | refine wD ?_ | refine wN rfl ?_ | refine wS ?_
    refine WpB.cond rfl (fun ht => ?_) fun ht => ?_
    · have hlo : io < kn := by simpa using ht
      obtain ⟨b, off, rfl, hc⟩ := hkx io hlo
      refine WpB.skip ?_
      refine WpB.seq (WpB.block ?_)
      repeat first | refine qN ?_ | refine qM rfl ?_ | refine qA rfl ?_ | refine qS rfl ?_ | refine qL H b1 rfl ?_ | refine qT rfl ?_ | refine qF rfl ?_ | refine qI i (by omega) rfl ?_ | refine qI io (by omega) rfl ?_ | refine qP rfl ?_ | refine wQ ?_ | refine wR ?_ | refine wD ?_ | refine wN rfl ?_ | refine wS ?_
      refine SpB.indexN hlo rfl rfl rfl rfl rfl rfl rfl rfl rfl ?_
      refine SpB.loadRC H hc rfl rfl rfl rfl rfl rfl rfl ?_
      refine SpB.callK Tryz.T1OK H (by omega) (twice_ok (kx io) h7 H (hko io hlo)) rfl rfl rfl rfl rfl ?_
      rintro v h8 ⟨r, rfl⟩ g
      have H := g.hp H
      have b1 := g.keep l1 b1
      have l1 := g.lt l1
      repeat first | refine qN ?_ | refine qM rfl ?_ | refine qA rfl ?_ | refine qS rfl ?_ | refine qL H b1 rfl ?_ | refine qT rfl ?_ | refine qF rfl ?_ | refine qI i (by omega) rfl ?_ | refine qI io (by omega) rfl ?_ | refine qP rfl ?_ | refine wQ ?_ | refine wR ?_ | refine wD ?_ | refine wN rfl ?_ | refine wS ?_
      refine WpB.cond rfl (fun ht => ?_) fun ht => ?_
      · repeat first | refine qN ?_ | refine qM rfl ?_ | refine qA rfl ?_ | refine qS rfl ?_ | refine qL H b1 rfl ?_ | refine qT rfl ?_ | refine qF rfl ?_ | refine qI i (by omega) rfl ?_ | refine qI io (by omega) rfl ?_ | refine qP rfl ?_ | refine wQ ?_ | refine wR ?_ | refine wD ?_ | refine wN rfl ?_ | refine wS ?_
        exact WpB.ret ⟨_, rfl, hB _⟩
      repeat first | refine qN ?_ | refine qM rfl ?_ | refine qA rfl ?_ | refine qS rfl ?_ | refine qL H b1 rfl ?_ | refine qT rfl ?_ | refine qF rfl ?_ | refine qI i (by omega) rfl ?_ | refine qI io (by omega) rfl ?_ | refine qP rfl ?_ | refine wQ ?_ | refine wR ?_ | refine wD ?_ | refine wN rfl ?_ | refine wS ?_
      refine WpB.block ?_
      refine WpB.loopC io (fun i => [(11, .int .i64 (i : Int)), (10, .int .i64 (io : Int)), (5, .pointer (some ⟨N + h.sz, 0, none⟩))]) (fun i h' => Hp N lim rd h' ∧ h'.blk h.sz = some (.cells [.slice ca cn ccap, .slice (some ⟨b, off, none⟩) kn kcap, .slice fa fn fcap, .slice ea en ecap]) ∧ h.sz < h'.sz) ⟨H, b1, l1⟩ (by repeat first | exact sub_nil | refine sub_cons rfl ?_) ?_
      clear H b1 l1
      rintro i h9 hi ⟨H, b1, l1⟩
      repeat first | refine qN ?_ | refine qM rfl ?_ | refine qA rfl ?_ | refine qS rfl ?_ | refine qL H b1 rfl ?_ | refine qT rfl ?_ | refine qF rfl ?_ | refine qI i (by omega) rfl ?_ | refine qI io (by omega) rfl ?_ | refine qP rfl ?_ | refine wQ ?_ | refine wR ?_ | refine wD ?_ | refine wN rfl ?_ | refine wS ?_
      refine WpB.cond rfl (fun ht => ?_) fun ht => ?_
      · have hlt : i < io := by simpa using ht
        have hli : i < kn := by omega
        obtain ⟨_, _, ha1, hc1⟩ := hkx i hli
        injection ha1 with ha1
        injection ha1 with ha1 ha2
        subst ha1 ha2
        refine WpB.skip ?_
        refine WpB.seq (WpB.block ?_)
        repeat first | refine qN ?_ | refine qM rfl ?_ | refine qA rfl ?_ | refine qS rfl ?_ | refine qL H b1 rfl ?_ | refine qT rfl ?_ | refine qF rfl ?_ | refine qI i (by omega) rfl ?_ | refine qI io (by omega) rfl ?_ | refine qP rfl ?_ | refine wQ ?_ | refine wR ?_ | refine wD ?_ | refine wN rfl ?_ | refine wS ?_
        refine SpB.indexN hlo rfl rfl rfl rfl rfl rfl rfl rfl rfl ?_
        refine SpB.loadRC H hc rfl rfl rfl rfl rfl rfl rfl ?_
        repeat first | refine qN ?_ | refine qM rfl ?_ | refine qA rfl ?_ | refine qS rfl ?_ | refine qL H b1 rfl ?_ | refine qT rfl ?_ | refine qF rfl ?_ | refine qI i (by omega) rfl ?_ | refine qI io (by omega) rfl ?_ | refine qP rfl ?_ | refine wQ ?_ | refine wR ?_ | refine wD ?_ | refine wN rfl ?_ | refine wS ?_
        refine SpB.indexN hli rfl rfl rfl rfl rfl rfl rfl rfl rfl ?_
        refine SpB.loadRC H hc1 rfl rfl rfl rfl rfl rfl rfl ?_
        refine SpB.callK Tryz.T1OK H (by omega) (texts_ok (kx io) (kx i) h9 H (hko io hlo) (hko i hli)) rfl rfl rfl rfl rfl ?_
        rintro v h10 ⟨r, rfl⟩ g
        have H := g.hp H
        have b1 := g.keep l1 b1
        have l1 := g.lt l1
        repeat first | refine qN ?_ | refine qM rfl ?_ | refine qA rfl ?_ | refine qS rfl ?_ | refine qL H b1 rfl ?_ | refine qT rfl ?_ | refine qF rfl ?_ | refine qI i (by omega) rfl ?_ | refine qI io (by omega) rfl ?_ | refine qP rfl ?_ | refine wQ ?_ | refine wR ?_ | refine wD ?_ | refine wN rfl ?_ | refine wS ?_
        refine WpB.cond rfl (fun ht => ?_) fun ht => ?_
        · repeat first | refine qN ?_ | refine qM rfl ?_ | refine qA rfl ?_ | refine qS rfl ?_ | refine qL H b1 rfl ?_ | refine qT rfl ?_ | refine qF rfl ?_ | refine qI i (by omega) rfl ?_ | refine qI io (by omega) rfl ?_ | refine qP rfl ?_ | refine wQ ?_ | refine wR ?_ | refine wD ?_ | refine wN rfl ?_ | refine wS ?_
          exact WpB.ret ⟨_, rfl, hB _⟩
        · repeat first | refine qN ?_ | refine qM rfl ?_ | refine qA rfl ?_ | refine qS rfl ?_ | refine qL H b1 rfl ?_ | refine qT rfl ?_ | refine qF rfl ?_ | refine qI i (by omega) rfl ?_ | refine qI io (by omega) rfl ?_ | refine qP rfl ?_ | refine wQ ?_ | refine wR ?_ | refine wD ?_ | refine wN rfl ?_ | refine wS ?_
          exact ⟨hlt, (by repeat first | exact sub_nil | refine sub_cons rfl ?_), ⟨H, b1, l1⟩, rfl⟩
      · refine WpB.exit ?_
        repeat first | refine qN ?_ | refine qM rfl ?_ | refine qA rfl ?_ | refine qS rfl ?_ | refine qL H b1 rfl ?_ | refine qT rfl ?_ | refine qF rfl ?_ | refine qI i (by omega) rfl ?_ | refine qI io (by omega) rfl ?_ | refine qP rfl ?_ | refine wQ ?_ | refine wR ?_ | refine wD ?_ | refine wN rfl ?_ | refine wS ?_
        exact ⟨hlo, (by repeat first | exact sub_nil | refine sub_cons rfl ?_), ⟨H, b1, l1⟩, rfl⟩
    · refine WpB.exit ?_
      exact ⟨(by repeat first | exact sub_nil | refine sub_cons rfl ?_), ⟨H, b1, l1⟩, rfl⟩
  clear H b1 l1
  rintro h7 ⟨H, b1, l1⟩
  repeat first | refine qN ?_ | refine qM rfl ?_ | refine qA rfl ?_ | refine qS rfl ?_ | refine qL H b1 rfl ?_ | refine qT rfl ?_ | refine qF rfl ?_ | refine qI i (by omega) rfl ?_ | refine qI io (by omega) rfl ?_ | refine qP rfl ?_ | refine wQ ?_ | refine wR ?_ | refine wD ?_ | refine wN rfl ?_ | refine wS ?_
  refine WpB.block ?_
  refine WpB.loopC fn (fun i => [(12, .int .i64 (i : Int)), (5, .pointer (some ⟨N + h.sz, 0, none⟩))]) (fun i h' => Hp N lim rd h' ∧ h'.blk h.sz = some (.cells [.slice ca cn ccap, .slice ka kn kcap, .slice fa fn fcap, .slice ea en ecap]) ∧ h.sz < h'.sz) ⟨H, b1, l1⟩ (by repeat first | exact sub_nil | refine sub_cons rfl ?_) ?_
  clear H b1 l1
  rintro i h8 hi ⟨H, b1, l1⟩
  repeat first | refine qN ?_ | refine qM rfl ?_ | refine qA rfl ?_ | refine qS rfl ?_ | refine qL H b1 rfl ?_ | refine qT rfl ?_ | refine qF rfl ?_ | refine qI i (by omega) rfl ?_ | refine qI io (by omega) rfl ?_ | refine qP rfl ?_ | refine wQ ?_ | refine wR ?_ | refine wD ?_ | refine wN rfl ?_ | refine wS ?_
  refine WpB.cond rfl (fun ht => ?_) fun ht => ?_
  · have hlt : i < fn := by simpa using ht
    obtain ⟨b, off, rfl, hc⟩ := hfx i hlt
    refine WpB.skip ?_
    refine WpB.seq (WpB.block ?_)
    have hcol := (hfo i hlt).1
    have hL : loadT TT h8 25 b (off + i * 3 + 0) = some (fx i).cols.v := loadT_cell rfl rfl (cell_at (H.ext _ _ _ _ hc).2 (j := 0) rfl)
    repeat first | refine qN ?_ | refine qM rfl ?_ | refine qA rfl ?_ | refine qS rfl ?_ | refine qL H b1 rfl ?_ | refine qT rfl ?_ | refine qF rfl ?_ | refine qI i (by omega) rfl ?_ | refine qI io (by omega) rfl ?_ | refine qP rfl ?_ | refine wQ ?_ | refine wR ?_ | refine wD ?_ | refine wN rfl ?_ | refine wS ?_
    refine SpB.indexN hlt rfl rfl rfl rfl rfl rfl rfl rfl rfl ?_
    repeat first | refine qN ?_ | refine qM rfl ?_ | refine qA rfl ?_ | refine qS rfl ?_ | refine qL H b1 rfl ?_ | refine qT rfl ?_ | refine qF rfl ?_ | refine qI i (by omega) rfl ?_ | refine qI io (by omega) rfl ?_ | refine qP rfl ?_ | refine wQ ?_ | refine wR ?_ | refine wD ?_ | refine wN rfl ?_ | refine wS ?_
    refine SpB.load rfl rfl rfl hL rfl rfl ?_
    refine SpB.callK Tryz.T1OK H (by omega) (twice_ok (fx i).cols h8 H hcol) rfl rfl rfl rfl rfl ?_
    rintro v h9 ⟨r, rfl⟩ g
    have H := g.hp H
    have b1 := g.keep l1 b1
    have l1 := g.lt l1
    repeat first | refine qN ?_ | refine qM rfl ?_ | refine qA rfl ?_ | refine qS rfl ?_ | refine qL H b1 rfl ?_ | refine qT rfl ?_ | refine qF rfl ?_ | refine qI i (by omega) rfl ?_ | refine qI io (by omega) rfl ?_ | refine qP rfl ?_ | refine wQ ?_ | refine wR ?_ | refine wD ?_ | refine wN rfl ?_ | refine wS ?_
    refine WpB.cond rfl (fun ht => ?_) fun ht => ?_
    · repeat first | refine qN ?_ | refine qM rfl ?_ | refine qA rfl ?_ | refine qS rfl ?_ | refine qL H b1 rfl ?_ | refine qT rfl ?_ | refine qF rfl ?_ | refine qI i (by omega) rfl ?_ | refine qI io (by omega) rfl ?_ | refine qP rfl ?_ | refine wQ ?_ | refine wR ?_ | refine wD ?_ | refine wN rfl ?_ | refine wS ?_
      exact WpB.ret ⟨_, rfl, hB _⟩
    · repeat first | refine qN ?_ | refine qM rfl ?_ | refine qA rfl ?_ | refine qS rfl ?_ | refine qL H b1 rfl ?_ | refine qT rfl ?_ | refine qF rfl ?_ | refine qI i (by omega) rfl ?_ | refine qI io (by omega) rfl ?_ | refine qP rfl ?_ | refine wQ ?_ | refine wR ?_ | refine wD ?_ | refine wN rfl ?_ | refine wS ?_
      exact ⟨hlt, (by repeat first | exact sub_nil | refine sub_cons rfl ?_), ⟨H, b1, l1⟩, rfl⟩
  · refine WpB.exit ?_
    repeat first | refine qN ?_ | refine qM rfl ?_ | refine qA rfl ?_ | refine qS rfl ?_ | refine qL H b1 rfl ?_ | refine qT rfl ?_ | refine qF rfl ?_ | refine qI i (by omega) rfl ?_ | refine qI io (by omega) rfl ?_ | refine qP rfl ?_ | refine wQ ?_ | refine wR ?_ | refine wD ?_ | refine wN rfl ?_ | refine wS ?_
    exact WpB.ret ⟨_, rfl, hB _⟩

end Go.Proofs.YtkjkcoemloakhaaGreat
end

section
set_option linter.unusedVariables false
set_option linter.unusedSimpArgs false
namespace Go.Vae
open Go

/-- Nothing is read of this block. -/
def Av (rd : RO) (b : Nat) : Prop := ∀ off m cs, rd b off m ≠ some cs

/-- The block of a slice of this run is not read. -/
def AvS (rd : RO) (v : Value) : Prop := ∀ b off n c, v = .slice (some ⟨b, off, none⟩) n c → Av rd b

theorem AvS.nil (rd : RO) : AvS rd (.slice none 0 0) := fun b off n c h => by cases h

/-- And all blocks from number A on. -/
def rdNew (N A : Nat) (h : AH) (rd : RO) : RO := fun b off m => bif Nat.ble (N + A) b && Nat.blt b (N + h.sz) then h.cut b off m else rd b off m

theorem rdNew_old {N A : Nat} {h : AH} {rd : RO} {b off m : Nat} (hb : b < N + A) : rdNew N A h rd b off m = rd b off m := by
  have : Nat.ble (N + A) b = false := by
    cases hq : Nat.ble (N + A) b
    · rfl
    · have := Nat.le_of_ble_eq_true hq; omega
  simp [rdNew, this]

theorem rdNew_new {N A : Nat} {h : AH} {rd : RO} {b off m : Nat} (hb : N + A ≤ b) (hb2 : b < N + h.sz) : rdNew N A h rd b off m = h.cut b off m := by
  have h2 : Nat.blt b (N + h.sz) = true := by simpa [Nat.blt_eq] using hb2
  simp [rdNew, Nat.ble_eq_true_of_le hb, h2]

theorem Hp.new {N lim A : Nat} {rd : RO} {h h2 : AH} (H : Hp N lim rd h) (hA : h.sz = A) (g : Grow h h.sz h2) : Hp N h2.sz (rdNew N A h2 rd) h2 ∧ rd.le (rdNew N A h2 rd) ∧ (∀ b, b < N + A → Av rd b → Av (rdNew N A h2 rd) b) := by
  subst hA
  have H2 := g.hp H
  have hle := H.le
  refine ⟨⟨H2.wf, H2.n, Nat.le_refl _, fun b off m cs hr => ?_⟩, fun b off m cs hr => ?_, fun b hb ha off m cs => ?_⟩
  · by_cases hb : b < N + h.sz
    · rw [rdNew_old hb] at hr
      obtain ⟨h1, h2'⟩ := H2.ext b off m cs hr
      have := g.le
      exact ⟨by omega, h2'⟩
    · unfold rdNew at hr
      rw [Nat.ble_eq_true_of_le (show N + h.sz ≤ b by omega)] at hr
      cases hq : Nat.blt b (N + h2.sz) with
      | true =>
        rw [hq] at hr
        exact ⟨blt_true hq, hr⟩
      | false =>
        rw [hq] at hr
        have := (H.ext b off m cs hr).1
        omega
  · have := (H.ext b off m cs hr).1
    rw [rdNew_old (by omega)]
    exact hr
  · rw [rdNew_old hb]
    exact ha off m cs

/-- A slice made since lies before the new reader. -/
theorem own_new {α : Type} [Inhabited α] {N A : Nat} {rd : RO} {h : AH} (hN : h.n = N) {size n : Nat} {v : Value} {cells : α → List Value} {xs : List α} (o : Own h A size v n (xs.flatMap cells)) (hl : ∀ x ∈ xs, (cells x).length = size) (hn : xs.length = n) (hun : n ≤ unk) : SAt (rdNew N A h rd) size cells v n (fun i => xs.getD i default) := by
  obtain ⟨a, cap, h1, h2, h3, h4⟩ := own_sat o hl hn hun
  refine ⟨a, cap, h1, h2, h3, fun i hi => ?_⟩
  obtain ⟨b, off, h5, h6⟩ := h4 i hi
  refine ⟨b, off, h5, ?_⟩
  rcases o with ⟨rfl, rfl, _⟩ | ⟨k, cap', g1, g2, rfl, _⟩
  · omega
  · injection h1 with h1
    rw [← h1] at h5
    injection h5 with h5
    injection h5 with h5 _
    subst h5
    rw [rdAll_of (by omega)] at h6
    rw [rdNew_new (by omega) (by omega)]
    exact h6

theorem own_new_strs {N A : Nat} {rd : RO} {h : AH} (hN : h.n = N) {n : Nat} {v : Value} {xs : List ByteArray} (o : Own h A 1 v n (xs.map fun s => .string s)) (hn : xs.length = n) (hx : ∀ x ∈ xs, strOK x) (hb : n ≤ reachBytes) : ∃ l : Sl ByteArray, l.v = v ∧ l.n = n ∧ l.strs (rdNew N A h rd) := by
  have hr : reachBytes ≤ unk := by decide
  have e : (xs.map fun s => Value.string s) = xs.flatMap strC := map_flat _ xs
  rw [e] at o
  refine ⟨⟨v, n, fun i => xs.getD i default⟩, rfl, rfl, hb, own_new hN o (fun x _ => rfl) hn (Nat.le_trans hb hr), fun i hi => ?_⟩
  have hi' : i < xs.length := by simp only at hi; omega
  have : xs.getD i default = xs[i] := by simp [List.getD, hi']
  show strOK (xs.getD i default)
  rw [this]
  exact hx _ (List.getElem_mem hi')

theorem own_new_ints {N A : Nat} {rd : RO} {h : AH} (hN : h.n = N) {n : Nat} {v : Value} {xs : List Int} (o : Own h A 1 v n (xs.map fun s => .int .i64 s)) (hn : xs.length = n) (hx : ∀ x ∈ xs, w64 x) (hb : n ≤ reachBytes) : ∃ l : Sl Int, l.v = v ∧ l.n = n ∧ l.ints (rdNew N A h rd) ∧ ∀ i, i < n → l.x i ∈ xs := by
  have hr : reachBytes ≤ unk := by decide
  have e : (xs.map fun s => Value.int .i64 s) = xs.flatMap intC := map_flat _ xs
  rw [e] at o
  have hg : ∀ i, i < n → xs.getD i default ∈ xs := fun i hi => by
    have hi' : i < xs.length := by omega
    have : xs.getD i default = xs[i] := by simp [List.getD, hi']
    rw [this]
    exact List.getElem_mem hi'
  exact ⟨⟨v, n, fun i => xs.getD i default⟩, rfl, rfl, ⟨hb, own_new hN o (fun x _ => rfl) hn (Nat.le_trans hb hr), fun i hi => hx _ (hg i hi)⟩, hg⟩

/-- Blocks that nothing is read of may change. -/
theorem Hp.change {N lim : Nat} {rd : RO} {h h' : AH} {l : Nat} (H : Hp N lim rd h) (g : Grow h l h') (hk : ∀ j, j < lim → ¬ Av rd (N + j) → h'.blk j = h.blk j) : Hp N lim rd h' :=
  ⟨g.wf, g.n.trans H.n, Nat.le_trans H.le g.le, fun b off m cs hr => by
    obtain ⟨h1, h2⟩ := H.ext b off m cs hr
    refine ⟨h1, ?_⟩
    unfold AH.cut at h2 ⊢
    rw [g.n, g.ro]
    cases hq : Nat.blt b h.n with
    | true => rw [hq] at h2; exact h2
    | false =>
      rw [hq] at h2
      simp only [cond] at h2 ⊢
      have := blt_false hq
      have hn := H.n
      rw [hk (b - h.n) (by omega) (fun ha => ha off m cs (by rw [show N + (b - h.n) = b by omega]; exact hr))]
      exact h2⟩

/-- A store into a block that nothing is read of. -/
theorem Hp.put {N lim k : Nat} {rd : RO} {h h' : AH} (H : Hp N lim rd h) (g : Grow h k h') (f : ∀ j, j ≠ k → h'.blk j = h.blk j) (ha : Av rd (N + k)) : Hp N lim rd h' :=
  H.change g fun j _ hn => f j fun e => by subst e; exact hn ha

/-- Elements are appended to a slice of this run: which blocks stay, and where the outcome lies. -/
theorem append_own2 {T : Tabs} {h : AH} (hwf : h.wf) {lo size n m st xt e : Nat} {s x : Value} {cs news : List Value} {ti ei xi : TI} (hs : Own h lo size s n cs) (hx : ∃ r, srcCells h size x m = some (news, r)) (hl : lenV x = some m) (hnl : news.length = m * size)
    (h1 : T.ty st = some ti) (h2 : ti.k = .slice e) (h3 : T.ty e = some ei) (h4 : ei.size = size) (h5 : 1 ≤ size) (h6 : 1 ≤ ei.bytes) (h7 : T.ty xt = some xi) (h8 : isInt xi.k = false) (h9 : isSeq xi.k = true) (hb : (n + m) * ei.bytes ≤ 70368744177664) (hlo : lo ≤ h.sz) :
    ∃ v ef rd, aappend T h st xt s x = some (.val v ef rd) ∧ Own (h.app ef) lo size v (n + m) (cs ++ news) ∧ Grow h lo (h.app ef) ∧ (∀ low, low ≤ lo → Nat.min low (ef.lowD low) = low) ∧
      (∀ j, j < h.sz → (∀ c, s ≠ .slice (some ⟨h.n + j, 0, none⟩) n c) → (h.app ef).blk j = h.blk j) ∧ ((v = s ∧ m = 0) ∨ ∃ c, v = .slice (some ⟨h.n + h.sz, 0, none⟩) (n + m) c) := by
  subst h4
  obtain ⟨r, hr⟩ := hx
  have hb2 : n + m ≤ 70368744177664 := Nat.le_trans (Nat.le_mul_of_pos_right _ h6) hb
  have hu : (70368744177664 : Nat) < unk := by decide
  have start : ∀ base sCap, aappend T h st xt (.slice base n sCap) x = aappendTo h ei base n sCap m news r := fun base sCap => by
    simp only [aappend, h1, h7, h2, h3, Nat.ble_eq_true_of_le h5, Nat.ble_eq_true_of_le h6, Bool.and_self, cond, h8, h9, hl, hr]
  have bounds : (Nat.ble ((n + m) * ei.bytes) 70368744177664 && Nat.ble (n + m) 70368744177664) = true := by
    rw [Nat.ble_eq_true_of_le hb, Nat.ble_eq_true_of_le hb2]; rfl
  by_cases hm : m = 0
  · subst hm
    have hn0 : news = [] := List.eq_nil_of_length_eq_zero (by simpa using hnl)
    subst hn0
    have ok : ∀ base sCap, n ≤ sCap → aappendTo h ei base n sCap 0 [] r = some (.val (.slice base n sCap) .nil r) := fun base sCap hc => by
      simp [aappendTo, Nat.ble_eq_true_of_le hc]
    have g : Grow h lo (h.app .nil) := Grow.refl hwf lo
    rcases hs with ⟨rfl, rfl, rfl⟩ | ⟨k, cap, a1, a2, rfl, a4, a5, a6⟩
    · exact ⟨_, .nil, r, (start none 0).trans (ok none 0 (Nat.le_refl _)), .inl ⟨rfl, rfl, rfl⟩, g, fun low _ => Nat.min_self low, fun j _ _ => rfl, .inl ⟨rfl, rfl⟩⟩
    · refine ⟨_, .nil, r, (start _ cap).trans (ok _ cap ?_), ?_, g, fun low _ => Nat.min_self low, fun j _ _ => rfl, .inl ⟨rfl, rfl⟩⟩
      · rcases a6 with a6 | ⟨a6, _⟩ <;> omega
      · rw [List.append_nil]
        exact .inr ⟨k, cap, a1, a2, rfl, a4, a5, a6⟩
  · have hm0 : Nat.beq m 0 = false := by
      cases hq : Nat.beq m 0
      · rfl
      · exact absurd (by simpa [Nat.beq_eq] using hq) hm
    have fresh : ∀ old, old.length = n * ei.size → Own (h.app (.new (old ++ news))) lo ei.size (.slice (some ⟨h.n + h.sz, 0, none⟩) (n + m) (unk + ei.size)) (n + m) (old ++ news) := fun old ho =>
      .inr ⟨h.sz, unk + ei.size, hlo, Nat.lt_succ_self _, rfl, Tr.get_set_eq _ _ _, by rw [List.length_append, ho, hnl, Nat.add_mul], .inl rfl⟩
    have gnew : ∀ c, Grow h lo (h.app (.new c)) := fun c => (new_facts hwf c).1.mono hlo
    rcases hs with ⟨rfl, rfl, rfl⟩ | ⟨k, cap, a1, a2, rfl, a4, a5, a6⟩
    · refine ⟨_, .new ([] ++ news), [] ++ r, (start none 0).trans ?_, fresh [] (by simp), gnew _, fun low _ => Nat.min_self low, fun j hj _ => Tr.get_set_ne _ _ (by omega), .inr ⟨_, rfl⟩⟩
      have hc : Nat.ble (0 + m) 0 = false := by
        cases hq : Nat.ble (0 + m) 0
        · rfl
        · have := Nat.le_of_ble_eq_true hq; omega
      simp only [aappendTo, hm0, cond, show Nat.ble unk 0 = false from rfl, hc, srcCells, beqs, bounds]
    · rcases a6 with rfl | ⟨a8, a7⟩
      · refine ⟨.slice (some ⟨h.n + h.sz, 0, none⟩) (n + m) (unk + ei.size), .grow k (cs ++ news), r, (start _ _).trans ?_, ?_, ?_, fun low hl => Nat.min_eq_left (Nat.le_trans hl a1), fun j hj hne => (Tr.get_set_ne _ _ (by omega)).trans (Tr.get_set_ne _ _ fun e => by subst e; exact hne _ rfl), .inr ⟨_, rfl⟩⟩
        · have hq : Nat.blt (h.n + k) h.n = false := by
            cases hq : Nat.blt (h.n + k) h.n
            · rfl
            · have := blt_true hq; omega
          have hcut := own_cut a4
          rw [a5] at hcut
          simp only [aappendTo, hm0, cond, Nat.ble_eq_true_of_le (Nat.le_add_right unk ei.size), hq, hcut, bounds, beqs, Bool.and_self, Nat.add_sub_cancel_left]
        · exact .inr ⟨h.sz, unk + ei.size, hlo, Nat.lt_succ_self _, rfl, Tr.get_set_eq _ _ _, by rw [List.length_append, a5, hnl, Nat.add_mul], .inl rfl⟩
        · have hw : ∀ j, j ∈ (Eff.grow k (cs ++ news)).wr → (h.blk j).isSome = true := fun j hj => by
            simp only [Eff.wr, List.mem_singleton] at hj
            subst hj
            simp [a4]
          exact (Grow.app hwf hw k).mono a1
      · have a8 := a8.symm
        subst a8
        refine ⟨_, .new (cs ++ news), rdOf h (h.n + k) ++ r, (start _ _).trans ?_, fresh cs a5, gnew _, fun low _ => Nat.min_self low, fun j hj _ => Tr.get_set_ne _ _ (by omega), .inr ⟨_, rfl⟩⟩
        have hc : Nat.ble (n + m) n = false := by
          cases hq : Nat.ble (n + m) n
          · rfl
          · have := Nat.le_of_ble_eq_true hq; omega
        have hc2 : Nat.ble unk n = false := by
          cases hq : Nat.ble unk n
          · rfl
          · have := Nat.le_of_ble_eq_true hq; omega
        have hcut := own_cut a4
        rw [a5] at hcut
        simp only [aappendTo, hm0, cond, hc, hc2, srcCells, hcut, bounds]

theorem SpB.appendA {T : Tabs} {nt : Nat} {ops l : List Oper} {o : Oper} {bs : Bs} {h : AH} {low : Nat} {Q : Bs → AH → Nat → List Acc → Prop} {N lim : Nat} {rd0 : RO} {lo size n m st xt e d : Nat} {s x : Value} {cs news : List Value} {ti ei xi : TI} (H : Hp N lim rd0 h) (hs : Own h lo size s n cs) (hav : AvS rd0 s) (hx : (∃ r, srcCells h size x m = some (news, r)) ∧ lenV x = some m) (hnl : news.length = m * size) (hlo : lo ≤ h.sz) (hlow : low ≤ lo) (hb : (n + m) * ei.bytes ≤ 70368744177664)
    (hw : wantedB ops bs o = some true) (hall : allB bs h o.op.operands.toList = true) (ha : aop T h (rho bs h) o = aappend T h st xt s x)
    (h1 : T.ty st = some ti) (h2 : ti.k = .slice e) (h3 : T.ty e = some ei) (h4 : ei.size = size) (h5 : Nat.ble 1 size = true) (h6 : Nat.ble 1 ei.bytes = true) (h7 : T.ty xt = some xi) (h8 : isInt xi.k = false) (h9 : isSeq xi.k = true) (hd : o.dst = some d) (hlt : Nat.blt d nt = true)
    (hk : ∀ v h' acc, Own h' lo size v (n + m) (cs ++ news) → Grow h lo h' → Hp N lim rd0 h' → AvS rd0 v → SpB T nt ops l ((d, v) :: bs) h' low fun b h'' l' acs => Q b h'' l' (acc :: acs)) : SpB T nt ops (o :: l) bs h low Q := by
  obtain ⟨v, ef, rd, g1, g2, g3, g4, g5, g6⟩ := append_own2 H.wf hs hx.1 hx.2 hnl h1 h2 h3 h4 (Nat.le_of_ble_eq_true h5) (Nat.le_of_ble_eq_true h6) h7 h8 h9 hb hlo
  refine SpB.eff hw hall (ha.trans g1) hd hlt ?_
  rw [g4 low hlow]
  have hle := H.le
  refine hk v _ _ g2 g3 (H.change g3 fun j hj hn => g5 j (by omega) fun c e => hn (by
    have := hav _ _ _ _ e
    rwa [H.n] at this)) ?_
  rcases g6 with ⟨e, _⟩ | ⟨c, e⟩
  · rw [e]; exact hav
  · intro b off n' c' e'
    rw [e] at e'
    injection e' with e1
    injection e1 with e1
    injection e1 with e1 e2
    intro off m cs hr
    have := (H.ext _ _ _ _ hr).1
    have := H.n
    omega

end Go.Vae
end

section
set_option linter.unusedVariables false
set_option linter.unusedSimpArgs false
namespace Go.Vae
open Go

theorem Hp.wide {N lim L : Nat} {rd : RO} {h : AH} (H : Hp N lim rd h) (h1 : lim ≤ L) (h2 : L ≤ h.sz) : Hp N L rd h :=
  ⟨H.wf, H.n, h2, fun b off m cs hr => by
    obtain ⟨h3, h4⟩ := H.ext b off m cs hr
    exact ⟨by omega, h4⟩⟩

theorem Hp.av {N lim k : Nat} {rd : RO} {h : AH} (H : Hp N lim rd h) (hk : lim ≤ k) : Av rd (N + k) := fun off m cs hr => by
  have := (H.ext _ _ _ _ hr).1
  omega

theorem RO.le.trans {a b c : RO} (h1 : a.le b) (h2 : b.le c) : a.le c := fun x off m cs hr => h2 _ _ _ _ (h1 _ _ _ _ hr)
theorem RO.le.refl (a : RO) : a.le a := fun _ _ _ _ h => h

theorem AvS.new {N A lim lo size n : Nat} {rd rd2 : RO} {h : AH} {v : Value} {cs : List Value} (ha : AvS rd v) (o : Own h lo size v n cs) (hN : h.n = N) (hA : h.sz = A) (h3 : ∀ b, b < N + A → Av rd b → Av rd2 b) : AvS rd2 v := by
  intro b off n' c e
  refine h3 b ?_ (ha b off n' c e)
  rcases o with ⟨rfl, _⟩ | ⟨k, cap, g1, g2, rfl, _⟩
  · cases e
  · injection e with e
    injection e with e
    injection e with e _
    omega

theorem Own.put {h h' : AH} {lo size n k l : Nat} {v : Value} {cs : List Value} (o : Own h lo size v n cs) (g : Grow h l h') (f : ∀ j, j ≠ k → h'.blk j = h.blk j) (hk : k < lo) : Own h' lo size v n cs := by
  rcases o with o | ⟨j, cap, h1, h2, h3, h4, h5⟩
  · exact .inl o
  · exact .inr ⟨j, cap, h1, g.lt h2, by rw [g.n]; exact h3, (f j (by omega)).trans h4, h5⟩

/-- And one block more. -/
def rdAdd (N k : Nat) (h : AH) (rd : RO) : RO := fun b off m => bif Nat.beq b (N + k) then h.cut b off m else rd b off m

/-- A slice of this run is kept for good from now on. -/
theorem own_add {α : Type} [Inhabited α] {N lim lo size n : Nat} {rd : RO} {h : AH} (H : Hp N lim rd h) {v : Value} {cells : α → List Value} {xs : List α} (o : Own h lo size v n (xs.flatMap cells)) (av : AvS rd v) (hl : ∀ x ∈ xs, (cells x).length = size) (hn : xs.length = n) (hun : n ≤ unk) :
    ∃ rd2, rd.le rd2 ∧ Hp N h.sz rd2 h ∧ SAt rd2 size cells v n (fun i => xs.getD i default) ∧ (∀ b, b < N + lo → Av rd b → Av rd2 b) := by
  have hN := H.n
  have hle := H.le
  rcases o with ⟨rfl, rfl, _⟩ | ⟨k, cap, h1, h2, rfl, h4, h5, h6⟩
  · exact ⟨rd, RO.le.refl rd, H.wide hle (Nat.le_refl _), ⟨none, 0, rfl, Nat.le_refl _, .inl (by decide), fun i hi => absurd hi (Nat.not_lt_zero _)⟩, fun b _ h => h⟩
  · have hav : Av rd (N + k) := by
      have := av _ _ _ _ rfl
      rwa [hN] at this
    have e1 : ∀ off m, rdAdd N k h rd (N + k) off m = h.cut (N + k) off m := fun off m => by
      unfold rdAdd; rw [Nat.beq_refl]; rfl
    have e2 : ∀ b off m, b ≠ N + k → rdAdd N k h rd b off m = rd b off m := fun b off m hb => by
      have : Nat.beq b (N + k) = false := by
        cases hq : Nat.beq b (N + k)
        · rfl
        · exact absurd (Nat.eq_of_beq_eq_true hq) hb
      unfold rdAdd; rw [this]; rfl
    refine ⟨rdAdd N k h rd, fun b off m cs hr => ?_, ⟨H.wf, hN, Nat.le_refl _, fun b off m cs hr => ?_⟩, ⟨_, cap, rfl, ?_, h6.elim .inr (fun h => .inl (by omega)), fun i hi => ⟨_, 0, rfl, ?_⟩⟩, fun b hb ha off m cs => ?_⟩
    · have hb : b ≠ N + k := fun e => by subst e; exact hav _ _ _ hr
      rw [e2 _ _ _ hb]
      exact hr
    · by_cases hb : b = N + k
      · subst hb
        rw [e1] at hr
        exact ⟨by omega, hr⟩
      · rw [e2 _ _ _ hb] at hr
        obtain ⟨h7, h8⟩ := H.ext _ _ _ _ hr
        exact ⟨by omega, h8⟩
    · rcases h6 with h6 | ⟨h6, _⟩ <;> omega
    · rw [hN, e1]
      have hb : Nat.blt (N + k) h.n = false := by
        cases hq : Nat.blt (N + k) h.n
        · rfl
        · have := blt_true hq; omega
      simp only [AH.cut, hb, cond, show N + k - h.n = k by omega, h4]
      have hi' : i < xs.length := by omega
      rw [Nat.zero_add, lcut_flat hl hi']
      simp [List.getD, hi']
    · rw [e2 _ _ _ (by omega)]
      exact ha off m cs

end Go.Vae
end

section
set_option linter.unusedVariables false
set_option linter.unusedSimpArgs false
namespace Go.Vae
open Go

/-- Nothing below B was added. -/
def RO.old (rd rd' : RO) (B : Nat) : Prop := ∀ b off m cs, b < B → rd' b off m = some cs → rd b off m = some cs

theorem RO.old.refl (rd : RO) (B : Nat) : rd.old rd B := fun _ _ _ _ _ h => h
theorem RO.old.trans {a b c : RO} {B B' : Nat} (h1 : a.old b B) (h2 : b.old c B') (hb : B ≤ B') : a.old c B := fun x off m cs hx h => h1 _ _ _ _ hx (h2 _ _ _ _ (by omega) h)
theorem RO.old.low {a b : RO} {B B' : Nat} (h1 : a.old b B') (hb : B ≤ B') : a.old b B := fun x off m cs hx h => h1 _ _ _ _ (by omega) h
theorem Av.old {rd rd' : RO} {B b : Nat} (ha : Av rd b) (ho : rd.old rd' B) (hb : b < B) : Av rd' b := fun off m cs h => ha off m cs (ho _ _ _ _ hb h)

theorem le_rdNew {N A lim : Nat} {rd rd' : RO} {h : AH} (H : Hp N lim rd' h) (ho : rd.old rd' (N + A)) : rd'.le (rdNew N A h rd) := fun b off m cs hr => by
  obtain ⟨h1, h2⟩ := H.ext _ _ _ _ hr
  have := H.le
  by_cases hb : b < N + A
  · rw [rdNew_old hb]; exact ho _ _ _ _ hb hr
  · rw [rdNew_new (by omega) (by omega)]; exact h2

theorem rdNew_oldR {N A : Nat} {rd : RO} {h : AH} : rd.old (rdNew N A h rd) (N + A) := fun b off m cs hb hr => by rwa [rdNew_old hb] at hr

theorem AvS.old {rd rd2 : RO} {h : AH} {lo size n B N : Nat} {v : Value} {cs : List Value} (ha : AvS rd v) (o : Own h lo size v n cs) (hN : h.n = N) (ho : rd.old rd2 B) (hB : N + h.sz ≤ B) : AvS rd2 v := by
  intro b off n' c e
  refine (ha b off n' c e).old ho ?_
  rcases o with ⟨rfl, _⟩ | ⟨k, cap, g1, g2, rfl, _⟩
  · cases e
  · injection e with e
    injection e with e
    injection e with e _
    omega

theorem own_add2 {α : Type} [Inhabited α] {N lim lo size n : Nat} {rd : RO} {h : AH} (H : Hp N lim rd h) {v : Value} {cells : α → List Value} {xs : List α} (o : Own h lo size v n (xs.flatMap cells)) (av : AvS rd v) (hl : ∀ x ∈ xs, (cells x).length = size) (hn : xs.length = n) (hun : n ≤ unk) :
    ∃ rd2, rd.le rd2 ∧ Hp N h.sz rd2 h ∧ SAt rd2 size cells v n (fun i => xs.getD i default) ∧ rd.old rd2 (N + lo) := by
  have hN := H.n
  have hle := H.le
  rcases o with ⟨rfl, rfl, _⟩ | ⟨k, cap, h1, h2, rfl, h4, h5, h6⟩
  · exact ⟨rd, RO.le.refl rd, H.wide hle (Nat.le_refl _), ⟨none, 0, rfl, Nat.le_refl _, .inl (by decide), fun i hi => absurd hi (Nat.not_lt_zero _)⟩, RO.old.refl _ _⟩
  · have hav : Av rd (N + k) := by
      have := av _ _ _ _ rfl
      rwa [hN] at this
    have e1 : ∀ off m, rdAdd N k h rd (N + k) off m = h.cut (N + k) off m := fun off m => by
      unfold rdAdd; rw [Nat.beq_refl]; rfl
    have e2 : ∀ b off m, b ≠ N + k → rdAdd N k h rd b off m = rd b off m := fun b off m hb => by
      have : Nat.beq b (N + k) = false := by
        cases hq : Nat.beq b (N + k)
        · rfl
        · exact absurd (Nat.eq_of_beq_eq_true hq) hb
      unfold rdAdd; rw [this]; rfl
    refine ⟨rdAdd N k h rd, fun b off m cs hr => ?_, ⟨H.wf, hN, Nat.le_refl _, fun b off m cs hr => ?_⟩, ⟨_, cap, rfl, ?_, h6.elim .inr (fun h => .inl (by omega)), fun i hi => ⟨_, 0, rfl, ?_⟩⟩, fun b off m cs hb hr => ?_⟩
    · have hb : b ≠ N + k := fun e => by subst e; exact hav _ _ _ hr
      rw [e2 _ _ _ hb]
      exact hr
    · by_cases hb : b = N + k
      · subst hb
        rw [e1] at hr
        exact ⟨by omega, hr⟩
      · rw [e2 _ _ _ hb] at hr
        obtain ⟨h7, h8⟩ := H.ext _ _ _ _ hr
        exact ⟨by omega, h8⟩
    · rcases h6 with h6 | ⟨h6, _⟩ <;> omega
    · rw [hN, e1]
      have hb : Nat.blt (N + k) h.n = false := by
        cases hq : Nat.blt (N + k) h.n
        · rfl
        · have := blt_true hq; omega
      simp only [AH.cut, hb, cond, show N + k - h.n = k by omega, h4]
      have hi' : i < xs.length := by omega
      rw [Nat.zero_add, lcut_flat hl hi']
      simp [List.getD, hi']
    · rwa [e2 _ _ _ (by omega)] at hr

/-- A list as data of a slice. -/
def Sl.of {α : Type} [Inhabited α] (v : Value) (xs : List α) : Sl α := ⟨v, xs.length, fun i => xs.getD i default⟩

theorem getD_mem {α : Type} [Inhabited α] {xs : List α} {i : Nat} (hi : i < xs.length) : xs.getD i default ∈ xs := by
  have : xs.getD i default = xs[i] := by simp [List.getD, hi]
  rw [this]
  exact List.getElem_mem hi

theorem million_unk : 1000000 ≤ unk := by decide
theorem million_reach : 1000000 ≤ reachBytes := by decide

theorem own_At {α : Type} [Inhabited α] {h : AH} {lo size : Nat} {v : Value} {cells : α → List Value} {xs : List α} {ok : α → Prop} (o : Own h lo size v xs.length (xs.flatMap cells)) (hl : ∀ x ∈ xs, (cells x).length = size) (hn : xs.length ≤ 1000000) (hx : ∀ x ∈ xs, ok x) : Sl.At (rdAll h) size cells ok (Sl.of v xs) :=
  ⟨Nat.le_trans hn million_reach, own_sat o hl rfl (Nat.le_trans hn million_unk), fun i hi => hx _ (getD_mem hi)⟩

/-- A slice of this run is data for good from now on. -/
theorem own_keep {α : Type} [Inhabited α] {N lim lo size : Nat} {rd : RO} {h : AH} (H : Hp N lim rd h) {v : Value} {cells : α → List Value} {xs : List α} {ok : RO → α → Prop} (o : Own h lo size v xs.length (xs.flatMap cells)) (av : AvS rd v) (hl : ∀ x ∈ xs, (cells x).length = size) (hn : xs.length ≤ 1000000) (hx : ∀ x ∈ xs, ok rd x) (hm : ∀ r r' : RO, r.le r' → ∀ x, ok r x → ok r' x) :
    ∃ rd2, rd.le rd2 ∧ Hp N h.sz rd2 h ∧ Sl.At rd2 size cells (ok rd2) (Sl.of v xs) ∧ rd.old rd2 (N + lo) := by
  obtain ⟨rd2, h1, h2, h3, h4⟩ := own_add2 H o av hl rfl (Nat.le_trans hn million_unk)
  exact ⟨rd2, h1, h2, ⟨Nat.le_trans hn million_reach, h3, fun i hi => hm _ _ h1 _ (hx _ (getD_mem hi))⟩, h4⟩

theorem resC1 {T : Tabs} {h : AH} {bs : Bs} {a t b off u : Nat} {v w : Value} (hl : look bs a = some (.pointer (some ⟨b, off, none⟩))) (hv : loadT T h t b off = some v) (h1 : isOne v = true) (hm : look bs u = some w) (h2 : isOne w = true) : resAllB T h bs [.cell a t, .tmp u] = some (.tuple #[v, w]) := by
  simp [resAllB, resVsB, resVB, hl, hv, h1, hm, h2]

theorem res3 {T : Tabs} {h : AH} {bs : Bs} {t u s : Nat} {v w x : Value} (hl : look bs t = some v) (hm : look bs u = some w) (hk : look bs s = some x) (h1 : isOne v = true) (h2 : isOne w = true) (h3 : isOne x = true) : resAllB T h bs [.tmp t, .tmp u, .tmp s] = some (.tuple #[v, w, x]) := by
  simp [resAllB, resVsB, resVB, hl, hm, hk, h1, h2, h3]

theorem Grow.more {a b c : AH} {l l' : Nat} (g : Grow a l b) (g' : Grow b l' c) (h : l ≤ l') : Grow a l c := (g.trans g').mono (Nat.le_min.2 ⟨Nat.le_refl _, h⟩)

theorem flat_len {α : Type} {cells : α → List Value} {size : Nat} : ∀ {xs : List α}, (∀ x ∈ xs, (cells x).length = size) → (xs.flatMap cells).length = xs.length * size
  | [], _ => by simp
  | x :: xs, h => by
    rw [List.flatMap_cons, List.length_append, flat_len fun y hy => h y (List.mem_cons_of_mem _ hy), h x (List.mem_cons_self ..), List.length_cons, Nat.add_mul, Nat.one_mul, Nat.add_comm]

theorem AvS.fresh {N lim k n c : Nat} {rd : RO} {h : AH} (H : Hp N lim rd h) (hk : lim ≤ k) : AvS rd (.slice (some ⟨N + k, 0, none⟩) n c) := by
  intro b off n' c' e
  injection e with e
  injection e with e
  injection e with e _
  subst e
  exact H.av hk

theorem Own.avs {N lim lo size n : Nat} {rd : RO} {h : AH} {v : Value} {cs : List Value} (o : Own h lo size v n cs) (H : Hp N lim rd h) (hl : lim ≤ lo) : AvS rd v := by
  rcases o with ⟨rfl, _⟩ | ⟨k, cap, g1, g2, rfl, _⟩
  · exact AvS.nil rd
  · rw [H.n]
    exact AvS.fresh H (by omega)

end Go.Vae
end

section
set_option linter.unusedVariables false
namespace Go.Proofs.YtkjkcoemloakhaaGreat
open Go Go.Vae
set_option maxRecDepth 100000

/-- What Valid has checked of a table. -/
structure InTb (s : Sl Tb) (i : Nat) : Prop where
  keys : ∀ k, k < (s.x i).keys.n → insideP (s.x i).cols.n ((s.x i).keys.x k)
  fors : ∀ k, k < (s.x i).fors.n → insideP (s.x i).cols.n ((s.x i).fors.x k).cols ∧ 0 ≤ ((s.x i).fors.x k).tb ∧ ((s.x i).fors.x k).tb ≤ (i : Int) ∧ 0 ≤ ((s.x i).fors.x k).ky ∧ ((s.x i).fors.x k).ky < ((s.x ((s.x i).fors.x k).tb.toNat).keys.n : Int)

/-- What is small of a statement. -/
structure StS (x : Stm) : Prop where
  cols : x.cols.n ≤ 20
  keys : x.keys.n ≤ 10
  fors : x.fors.n ≤ 10
  key : ∀ i, i < x.keys.n → (x.keys.x i).n ≤ 20
  fo : ∀ i, i < x.fors.n → (x.fors.x i).cols.n ≤ 20
  tgt : ∀ i, i < x.fors.n → (x.fors.x i).tgt.n ≤ 20
  len : x.cells.length = 22

def keysV (l : List (Sl ByteArray)) : List Value := l.map fun s => s.v

/-- The statement under way: its keys. -/
def defC (nm : ByteArray) (cv kv fv ev : Value) : List Value := [.int .i64 1, .string nm, cv, kv, fv, ev, .slice none 0 0, .slice none 0 0, .slice none 0 0, .slice none 0 0, .int .i64 0, .string ⟨#[]⟩, .string ⟨#[]⟩, .int .i64 0, .int .i64 0, .int .i64 0, .string ⟨#[]⟩, .slice none 0 0, .slice none 0 0, .slice none 0 0, .int .i64 0, .string ⟨#[]⟩]

set_option maxHeartbeats 3200000 in
theorem defn_ok {N lim : Nat} {rd : RO} (s : Sl Tb) (io : Nat) (h0 : AH) (H : Hp N lim rd h0) (hs : s.sch rd) (hio : io < s.n) (hsm : ∀ i, i < s.n → TbS (s.x i)) (hin : ∀ i, i ≤ io → InTb s i) :
    Kp TT 53 [s.v, .int .i64 (io : Int)] h0 fun v h' => ∃ x : Stm, v = .agg ⟨x.cells⟩ ∧ x.At (rdNew N h0.sz h' rd) ∧ StS x := by
  have hs0 := hs
  have hT := fun i (hi : i < s.n) => hs.2.2 i hi
  obtain ⟨sv, sn, sx⟩ := s
  obtain ⟨hsn, ⟨sa, scap, hsv, _, _, hsx⟩, hso⟩ := hs
  simp only at hsv hsx hso hsn hio hsm hT
  subst hsv
  have hIn := hin io (Nat.le_refl _)
  obtain ⟨b, off, rfl, hc⟩ := hsx io hio
  have hat := hso io hio
  have hts := hsm io hio
  have hnames := fun {lim : Nat} {rd' : RO} h (H : Hp N lim rd' h) (hle : rd.le rd') (l : Sl Int) (hl : l.ints rd') (hi : insideP (sx io).cols.n l) (hn : l.n ≤ 20) => names_ok (sx io) l h H (hat.mono hle) hl hi hn
  cases hti : sx io with
  | mk nm cols keys fors chk =>
    obtain ⟨cv, cn, cx⟩ := cols
    obtain ⟨kv, kn, kx⟩ := keys
    obtain ⟨fv, fn, fx⟩ := fors
    obtain ⟨ev, en, ex⟩ := chk
    have hIk := hIn.keys
    have hIf := hIn.fors
    simp only [hti] at hat hc hts hnames hIk hIf
    obtain ⟨t1, t2, t3, t4, t5⟩ := hts
    have hcols := hat.cols
    have hchk := hat.chk
    obtain ⟨hn1, ⟨ca, ccap, hcv, _, _, hcx⟩, hco⟩ := hat.cols
    obtain ⟨hn2, ⟨ka, kcap, hkv, _, _, hkx⟩, hko⟩ := hat.keys
    obtain ⟨hn3, ⟨fa, fcap, hfv, _, _, hfx⟩, hfo⟩ := hat.fors
    obtain ⟨hn4, ⟨ea, ecap, hev, _, _, hex⟩, heo⟩ := hat.chk
    simp only at hcv hkv hfv hev hcx hkx hfx hex hco hko hfo heo hn1 hn2 hn3 hn4 t1 t2 t3 t4 t5
    subst hcv hkv hfv hev
    have hreach : reachBytes < 2 ^ 47 := by decide
    refine Kp.of (fi := Tryz.fi53) rfl rfl rfl ?_
    refine WpB.seq (WpB.region ?_)
    have hle := H.le
    have H0 := H
    refine SpB.alloc H rfl rfl rfl rfl rfl fun h1 g s1 b1 => ?_
    have l1 : h0.sz < h1.sz := by omega
    have H := g.hp H
    clear g
    repeat first | refine qN ?_ | refine qM rfl ?_ | refine qA rfl ?_ | refine qS rfl ?_ | refine qT rfl ?_ | refine qF rfl ?_ | refine qI i (by omega) rfl ?_ | refine qI io (by omega) rfl ?_ | refine qP rfl ?_ | refine wQ ?_ | refine wR ?_ | refine wD ?_ | refine wN rfl ?_ | refine wS ?_
    refine SpB.indexN hio rfl rfl rfl rfl rfl rfl rfl rfl rfl ?_
    refine SpB.loadR H hc rfl rfl rfl rfl rfl rfl rfl ?_
    refine SpB.alloc H rfl rfl rfl rfl rfl fun h2 g s2 b2 => ?_
    have l2 : h1.sz < h2.sz := by omega
    have H := g.hp H
    have b1 := g.keep l1 b1
    have l1 := g.lt l1
    refine SpB.storeO H b2 (by omega) (by omega) rfl rfl rfl rfl rfl rfl rfl rfl rfl fun h3 g3 s3 b3 f3 => ?_
    have H := g3.hpL (by omega) H
    have b1 := (f3 h0.sz (by omega)).trans b1
    have b2 : h3.blk h1.sz = some (.cells (Tb.mk nm ⟨.slice ca cn ccap, cn, cx⟩ ⟨.slice ka kn kcap, kn, kx⟩ ⟨.slice fa fn fcap, fn, fx⟩ ⟨.slice ea en ecap, en, ex⟩).cells) := b3
    have l1 : h0.sz < h3.sz := by omega
    have l2 : h1.sz < h3.sz := by omega
    clear g3 f3 b3 g
    repeat first | refine qN ?_ | refine qM rfl ?_ | refine qA rfl ?_ | refine qS rfl ?_ | refine qL H b1 rfl ?_ | refine qL H b2 rfl ?_ | refine qT rfl ?_ | refine qF rfl ?_ | refine qI i (by omega) rfl ?_ | refine qI io (by omega) rfl ?_ | refine qP rfl ?_ | refine wQ ?_ | refine wR ?_ | refine wD ?_ | refine wN rfl ?_ | refine wS ?_
    refine SpB.alloc H rfl rfl rfl rfl rfl fun h4 g s4 b3 => ?_
    have l3 : h3.sz < h4.sz := by omega
    have H := g.hp H
    have b1 := g.keep l1 b1
    have l1 := g.lt l1
    have b2 := g.keep l2 b2
    have l2 := g.lt l2
    refine SpB.storeO H b3 (by omega) (by omega) rfl rfl rfl rfl rfl rfl rfl rfl rfl fun h5 g5 s5 b5 f5 => ?_
    have H := g5.hpL (by omega) H
    have b1 := (f5 h0.sz (by omega)).trans b1
    have b2 := (f5 h1.sz (by omega)).trans b2
    have b3 : h5.blk h3.sz = some (.cells (defC nm (.slice none 0 0) (.slice none 0 0) (.slice none 0 0) (.slice none 0 0))) := b5
    have l1 : h0.sz < h5.sz := by omega
    have l2 : h1.sz < h5.sz := by omega
    have l3 : h3.sz < h5.sz := by omega
    clear g5 f5 b5 g
    repeat first | refine qN ?_ | refine qM rfl ?_ | refine qA rfl ?_ | refine qS rfl ?_ | refine qL H b1 rfl ?_ | refine qL H b2 rfl ?_ | refine qL H b3 rfl ?_ | refine qT rfl ?_ | refine qF rfl ?_ | refine qI i (by omega) rfl ?_ | refine qI io (by omega) rfl ?_ | refine qP rfl ?_ | refine wQ ?_ | refine wR ?_ | refine wD ?_ | refine wN rfl ?_ | refine wS ?_
    refine SpB.storeO H b3 (by omega) (by omega) rfl rfl rfl rfl rfl rfl rfl rfl rfl fun h6 g6 s6 b6 f6 => ?_
    have H := g6.hpL (by omega) H
    have b1 := (f6 h0.sz (by omega)).trans b1
    have b2 := (f6 h1.sz (by omega)).trans b2
    have b3 : h6.blk h3.sz = some (.cells (defC nm (.slice ca cn ccap) (.slice none 0 0) (.slice none 0 0) (.slice none 0 0))) := b6
    have l1 : h0.sz < h6.sz := by omega
    have l2 : h1.sz < h6.sz := by omega
    have l3 : h3.sz < h6.sz := by omega
    clear g6 f6 b6
    repeat first | refine qN ?_ | refine qM rfl ?_ | refine qA rfl ?_ | refine qS rfl ?_ | refine qL H b1 rfl ?_ | refine qL H b2 rfl ?_ | refine qL H b3 rfl ?_ | refine qT rfl ?_ | refine qF rfl ?_ | refine qI i (by omega) rfl ?_ | refine qI io (by omega) rfl ?_ | refine qP rfl ?_ | refine wQ ?_ | refine wR ?_ | refine wD ?_ | refine wN rfl ?_ | refine wS ?_
    refine SpB.storeO H b3 (by omega) (by omega) rfl rfl rfl rfl rfl rfl rfl rfl rfl fun h7 g7 s7 b7 f7 => ?_
    have H := g7.hpL (by omega) H
    have b1 := (f7 h0.sz (by omega)).trans b1
    have b2 := (f7 h1.sz (by omega)).trans b2
    have b3 : h7.blk h3.sz = some (.cells (defC nm (.slice ca cn ccap) (.slice none 0 0) (.slice none 0 0) (.slice ea en ecap))) := b7
    have l1 : h0.sz < h7.sz := by omega
    have l2 : h1.sz < h7.sz := by omega
    have l3 : h3.sz < h7.sz := by omega
    clear g7 f7 b7
    refine SpB.nil ?_
    refine draw_introK (K := h3.sz) (ws := [0, 0, 2, 2, 0, 0, 3, 0, 0, 1]) (by repeat first | exact quietsK.nil | refine quietsK.q rfl (fun h => by cases h) ?_ | refine quietsK.w ?_ | refine quietsK.r rfl rfl rfl (fun x hx => by cases hx) ?_ | refine quietsK.r rfl rfl rfl (rdOf_low (by assumption) (by omega)) ?_ | refine quietsK.x (fun x hx => by simp only [List.mem_singleton] at hx; omega) rfl ?_) (by kernel_rfl) ?_
    have H := H.wide (L := h7.sz) (by omega) (Nat.le_refl _)
    have hz1 : Av rd (N + h0.sz) := fun off m cs hr => by
      have := (H0.ext _ _ _ _ hr).1
      omega
    have hz3 : Av rd (N + h3.sz) := fun off m cs hr => by
      have := (H0.ext _ _ _ _ hr).1
      omega
    have l01 : h0.sz < h1.sz := by omega
    have l13 : h1.sz < h3.sz := by omega
    repeat first | refine qN ?_ | refine qM rfl ?_ | refine qA rfl ?_ | refine qS rfl ?_ | refine qL H b1 rfl ?_ | refine qT rfl ?_ | refine qF rfl ?_ | refine qI i (by omega) rfl ?_ | refine qI io (by omega) rfl ?_ | refine qP rfl ?_ | refine wQ ?_ | refine wR ?_ | refine wD ?_ | refine wN rfl ?_ | refine wS ?_
    refine WpB.cut1 [(0, .slice (some ⟨b, off, none⟩) sn scap), (4, .pointer (some ⟨N + h0.sz, 0, none⟩)), (5, .pointer (some ⟨N + h1.sz, 0, none⟩)), (6, .pointer (some ⟨N + h3.sz, 0, none⟩))] (fun h => ∃ rd' v ws, rd.le rd' ∧ rd.old rd' (N + h0.sz) ∧ Hp N h.sz rd' h ∧ Av rd' (N + h3.sz) ∧ Av rd' (N + h0.sz) ∧ h.blk h0.sz = some (.cells Tryz.ti47.zero) ∧
        h.blk h1.sz = some (.cells (Tb.mk nm ⟨.slice ca cn ccap, cn, cx⟩ ⟨.slice ka kn kcap, kn, kx⟩ ⟨.slice fa fn fcap, fn, fx⟩ ⟨.slice ea en ecap, en, ex⟩).cells) ∧ h.blk h3.sz = some (.cells (defC nm (.slice ca cn ccap) v (.slice none 0 0) (.slice ea en ecap))) ∧ h3.sz < h.sz ∧
        ws.length = kn ∧ (∀ w ∈ ws, Sl.strs rd' w ∧ w.n ≤ 20) ∧ Own h (h3.sz + 1) 1 v kn (keysV ws) ∧ AvS rd' v) ?_ ?_
    · refine WpB.block ?_
      refine WpB.loopC kn (fun i => [(7, .int .i64 (i : Int)), (0, .slice (some ⟨b, off, none⟩) sn scap), (4, .pointer (some ⟨N + h0.sz, 0, none⟩)), (5, .pointer (some ⟨N + h1.sz, 0, none⟩)), (6, .pointer (some ⟨N + h3.sz, 0, none⟩))]) (fun i h => ∃ rd' v ws, rd.le rd' ∧ rd.old rd' (N + h0.sz) ∧ Hp N h.sz rd' h ∧ Av rd' (N + h3.sz) ∧ Av rd' (N + h0.sz) ∧ h.blk h0.sz = some (.cells Tryz.ti47.zero) ∧
        h.blk h1.sz = some (.cells (Tb.mk nm ⟨.slice ca cn ccap, cn, cx⟩ ⟨.slice ka kn kcap, kn, kx⟩ ⟨.slice fa fn fcap, fn, fx⟩ ⟨.slice ea en ecap, en, ex⟩).cells) ∧ h.blk h3.sz = some (.cells (defC nm (.slice ca cn ccap) v (.slice none 0 0) (.slice ea en ecap))) ∧ h3.sz < h.sz ∧
        ws.length = i ∧ (∀ w ∈ ws, Sl.strs rd' w ∧ w.n ≤ 20) ∧ Own h (h3.sz + 1) 1 v i (keysV ws) ∧ AvS rd' v)
        ⟨rd, .slice none 0 0, [], RO.le.refl rd, RO.old.refl _ _, H, hz3, hz1, b1, b2, b3, l3, rfl, fun w hw => by simp at hw, Own.nil _ _ _, AvS.nil rd⟩ (by repeat first | exact sub_nil | refine sub_cons rfl ?_) ?_
      clear H b1 b2 b3 l1 l2 l3
      rintro i h hi ⟨rd', v, ws, hle', hold', H, av3, av0, b1, b2, b3, l3, hwl, hws, o1, avs⟩
      have l1 : h0.sz < h.sz := by omega
      have l2 : h1.sz < h.sz := by omega
      repeat first | refine qN ?_ | refine qM rfl ?_ | refine qA rfl ?_ | refine qS rfl ?_ | refine qL H b1 rfl ?_ | refine qL H b2 rfl ?_ | refine qL H b3 rfl ?_ | refine qT rfl ?_ | refine qF rfl ?_ | refine qI i (by omega) rfl ?_ | refine qI io (by omega) rfl ?_ | refine qP rfl ?_ | refine wQ ?_ | refine wR ?_ | refine wD ?_ | refine wN rfl ?_ | refine wS ?_
      refine WpB.cond rfl (fun ht => ?_) fun ht => ?_
      · have hlt : i < kn := by simpa using ht
        obtain ⟨b', off', rfl, hck⟩ := hkx i hlt
        have hck := hle' _ _ _ _ hck
        obtain ⟨av, acap, hav, oShape⟩ := o1.shape
        subst hav
        refine WpB.skip ?_
        refine WpB.seq (WpB.block ?_)
        repeat first | refine qN ?_ | refine qM rfl ?_ | refine qA rfl ?_ | refine qS rfl ?_ | refine qL H b1 rfl ?_ | refine qL H b2 rfl ?_ | refine qL H b3 rfl ?_ | refine qT rfl ?_ | refine qF rfl ?_ | refine qI i (by omega) rfl ?_ | refine qI io (by omega) rfl ?_ | refine qP rfl ?_ | refine wQ ?_ | refine wR ?_ | refine wD ?_ | refine wN rfl ?_ | refine wS ?_
        refine SpB.indexN hlt rfl rfl rfl rfl rfl rfl rfl rfl rfl ?_
        refine SpB.loadRC H hck rfl rfl rfl rfl rfl rfl rfl ?_
        refine SpB.callK Tryz.T1OK H (Nat.le_of_lt l1) (hnames h H hle' (kx i) ((hko i hlt).mono hle') (hIk i hlt) (t4 i hlt)) rfl rfl rfl rfl rfl ?_
        rintro w h8 ⟨xs, hxl, hxo, o2⟩ g
        have hkn : (kx i).n ≤ 20 := t4 i hlt
        have hr20 : 20 ≤ reachBytes := by decide
        obtain ⟨H8, hle8, hav8⟩ := H.new rfl g
        obtain ⟨l, hlv, hln, hls⟩ := own_new_strs (rd := rd') H8.n o2 hxl hxo (by omega)
        obtain ⟨wa, wcap, hw, _⟩ := o2.shape
        subst hw
        have b1 := g.keep l1 b1
        have b2 := g.keep l2 b2
        have b3 := g.keep l3 b3
        have l38 := g.lt l3
        have l08 := g.lt l1
        have avs8 := avs.new (lim := 0) o1 H.n rfl hav8
        have o1 := o1.grow g (Nat.le_refl _)
        have av3' := hav8 _ (by omega) av3
        have av0' := hav8 _ (by omega) av0
        refine SpB.newS H8 rfl rfl rfl rfl rfl fun h9 g9 s9 b9 => ?_
        have H9 := g9.hp H8
        have b1 := g9.keep l08 b1
        have b2 := g9.keep (by omega) b2
        have b3 := g9.keep l38 b3
        have o1 := o1.grow g9 (Nat.le_refl _)
        have o9 : Own h9 h8.sz 1 (.slice (some ⟨N + h8.sz, 0, none⟩) 1 1) 1 [.slice wa (kx i).n wcap] := .inr ⟨h8.sz, 1, Nat.le_refl _, by omega, by rw [H9.n], b9, rfl, .inr ⟨rfl, by decide⟩⟩
        refine SpB.appendA (st := 37) (xt := 37) H9 o1 avs8 o9.src rfl (by omega) (by omega) (show (i + 1) * 24 ≤ 70368744177664 by omega) rfl rfl rfl rfl rfl rfl rfl rfl rfl rfl rfl rfl rfl rfl ?_
        intro v3 h10 acc o3 g10 H10 avs10
        have l10 := g10.le
        have b1 := g10.keepL (by omega) (by omega) b1
        have b2 := g10.keepL (by omega) (by omega) b2
        have b3 := g10.keepL (by omega) (by omega) b3
        obtain ⟨va, vcap, hv3, _⟩ := o3.shape
        subst hv3
        repeat first | refine SpB.pureS rfl rfl rfl rfl rfl rfl ?_
        refine SpB.storeO H10 b3 (by omega) (by omega) rfl rfl rfl rfl rfl rfl rfl rfl rfl fun h11 g11 s11 b11 f11 => ?_
        refine SpB.nil ?_
        refine draw_intro (ws := [false, false, false, false, false, false, false, false, false, false, false, true, false, false, true]) (by repeat first | exact quiets.nil | refine quiets.q rfl (fun h => by cases h) ?_ | refine quiets.w ?_) (by kernel_rfl) ?_
        have H11 := (H10.put g11 f11 av3').wide (L := h11.sz) (by omega) (Nat.le_refl _)
        repeat first | refine qN ?_ | refine qM rfl ?_ | refine qA rfl ?_ | refine qS rfl ?_ | refine qL H b1 rfl ?_ | refine qT rfl ?_ | refine qF rfl ?_ | refine qI i (by omega) rfl ?_ | refine qI io (by omega) rfl ?_ | refine qP rfl ?_ | refine wQ ?_ | refine wR ?_ | refine wD ?_ | refine wN rfl ?_ | refine wS ?_
        refine ⟨hlt, (by repeat first | exact sub_nil | refine sub_cons rfl ?_), ⟨_, _, ws ++ [l], hle'.trans hle8, hold'.trans rdNew_oldR (by omega), H11, av3', av0', (f11 h0.sz (by omega)).trans b1, (f11 h1.sz (by omega)).trans b2, b11, by omega, by simp [hwl], fun w hw => ?_, ?_, avs10⟩, rfl⟩
        · rcases List.mem_append.1 hw with hw | hw
          · exact ⟨(hws w hw).1.mono hle8, (hws w hw).2⟩
          · simp only [List.mem_singleton] at hw
            rw [hw]
            exact ⟨hls, by rw [hln]; exact hkn⟩
        · have := o3.put g11 f11 (Nat.lt_succ_self _)
          simpa [keysV, hlv] using this
      · refine WpB.exit ?_
        have hge : ¬ i < kn := by simpa using ht
        obtain rfl : i = kn := by omega
        exact ⟨(by repeat first | exact sub_nil | refine sub_cons rfl ?_), ⟨rd', v, ws, hle', hold', H, av3, av0, b1, b2, b3, l3, hwl, hws, o1, avs⟩, rfl⟩
    clear H b1 b2 b3 l1 l2 l3
    rintro h ⟨rd1, v, ws, hle1, hold1, H, av3, av0, b1, b2, b3, l3, hwl, hws, o1, avs⟩
    have h10u : 10 ≤ unk := by decide
    have h10r : 10 ≤ reachBytes := by decide
    have ek : keysV ws = ws.flatMap slC := map_flat _ ws
    rw [ek] at o1
    obtain ⟨rd', hle2, H, hkeys, hold2⟩ := own_add2 H o1 avs (fun _ _ => rfl) hwl (Nat.le_trans t2 h10u)
    have hav2 := fun b (hb : b < N + (h3.sz + 1)) (ha : Av rd1 b) => ha.old hold2 hb
    have hold' := hold1.trans hold2 (by omega)
    have av3 := hav2 _ (by omega) av3
    have av0 := hav2 _ (by omega) av0
    have hws2 := fun w hw => (hws w hw).2
    have hws := fun w hw => (hws w hw).1.mono hle2
    have hle' := hle1.trans hle2
    have hgk : ∀ i, i < kn → ws.getD i default ∈ ws := fun i hi => by
      have hi' : i < ws.length := by omega
      have : ws.getD i default = ws[i] := by simp [List.getD, hi']
      rw [this]
      exact List.getElem_mem hi'
    have hkl : ∀ i, i < kn → (ws.getD i default).n ≤ 20 := fun i hi => hws2 _ (hgk i hi)
    have hkeys : Sl.At rd' 1 slC (Sl.strs rd') ⟨v, kn, fun i => ws.getD i default⟩ := ⟨Nat.le_trans t2 h10r, hkeys, fun i hi => hws _ (hgk i hi)⟩
    obtain ⟨va, vcap, hv, _⟩ := o1.shape
    subst hv
    clear o1 avs hws hws2 hgk hwl ek hav2 hle2 hle1
    repeat first | refine qN ?_ | refine qM rfl ?_ | refine qA rfl ?_ | refine qS rfl ?_ | refine qL H b1 rfl ?_ | refine qT rfl ?_ | refine qF rfl ?_ | refine qI i (by omega) rfl ?_ | refine qI io (by omega) rfl ?_ | refine qP rfl ?_ | refine wQ ?_ | refine wR ?_ | refine wD ?_ | refine wN rfl ?_ | refine wS ?_
    refine WpB.block ?_
    refine WpB.loopC fn (fun i => [(8, .int .i64 (i : Int)), (0, .slice (some ⟨b, off, none⟩) sn scap), (4, .pointer (some ⟨N + h0.sz, 0, none⟩)), (5, .pointer (some ⟨N + h1.sz, 0, none⟩)), (6, .pointer (some ⟨N + h3.sz, 0, none⟩))]) (fun i h => ∃ rd' w fs, rd.le rd' ∧ rd.old rd' (N + h0.sz) ∧ Hp N h.sz rd' h ∧ Av rd' (N + h3.sz) ∧ Av rd' (N + h0.sz) ∧ h.blk h0.sz = some (.cells Tryz.ti47.zero) ∧
        h.blk h1.sz = some (.cells (Tb.mk nm ⟨.slice ca cn ccap, cn, cx⟩ ⟨.slice ka kn kcap, kn, kx⟩ ⟨.slice fa fn fcap, fn, fx⟩ ⟨.slice ea en ecap, en, ex⟩).cells) ∧ h.blk h3.sz = some (.cells (defC nm (.slice ca cn ccap) (.slice va kn vcap) w (.slice ea en ecap))) ∧ h3.sz < h.sz ∧
        Sl.At rd' 1 slC (Sl.strs rd') ⟨.slice va kn vcap, kn, fun i => ws.getD i default⟩ ∧
        fs.length = i ∧ (∀ f ∈ fs, Rf.At rd' f ∧ f.cols.n ≤ 20 ∧ f.tgt.n ≤ 20) ∧ Own h (h3.sz + 1) 3 w i (fs.flatMap Rf.cells) ∧ AvS rd' w)
      ⟨rd', .slice none 0 0, [], hle', hold', H, av3, av0, b1, b2, b3, l3, hkeys, rfl, fun f hf => by simp at hf, Own.nil _ _ _, AvS.nil _⟩ (by repeat first | exact sub_nil | refine sub_cons rfl ?_) ?_
    clear H b1 b2 b3 l3 hle' hold' av3 av0 hkeys

    rintro i h ii ⟨rd', w, fs, hle', hold', H, av3, av0, b1, b2, b3, l3, hkeys, hfl, hfs, o2, avs⟩
    have l1 : h0.sz < h.sz := by omega
    have l2 : h1.sz < h.sz := by omega
    repeat first | refine qN ?_ | refine qM rfl ?_ | refine qA rfl ?_ | refine qS rfl ?_ | refine qL H b1 rfl ?_ | refine qL H b2 rfl ?_ | refine qL H b3 rfl ?_ | refine qT rfl ?_ | refine qF rfl ?_ | refine qI i (by omega) rfl ?_ | refine qI io (by omega) rfl ?_ | refine qP rfl ?_ | refine wQ ?_ | refine wR ?_ | refine wD ?_ | refine wN rfl ?_ | refine wS ?_
    refine WpB.cond rfl (fun ht => ?_) fun ht => ?_
    · have hlt : i < fn := by simpa using ht
      obtain ⟨b', off', rfl, hcf⟩ := hfx i hlt
      have hcf := hle' _ _ _ _ hcf
      have hIi := hIf i hlt
      have hfoi := hfo i hlt
      have hf20 := t5 i hlt
      cases hfi : fx i with
      | mk fcl ftb fky =>
      rw [hfi] at hcf hIi hfoi hf20
      obtain ⟨i1, i2, i3, i4, i5⟩ := hIi
      simp only at i1 i2 i3 i4 i5 hf20
      obtain ⟨j, rfl⟩ := Int.eq_ofNat_of_zero_le i2
      obtain ⟨k, rfl⟩ := Int.eq_ofNat_of_zero_le i4
      have hji : j ≤ io := by omega
      have hj : j < sn := by omega
      simp only [Int.toNat_natCast] at i5
      have hInj := (hin j hji).keys
      obtain ⟨b2', off2', hsa, hcj⟩ := hsx j hj
      injection hsa with hsa
      injection hsa with hsa1 hsa2
      subst hsa1
      subst hsa2
      have hcj := hle' _ _ _ _ hcj
      have hatj := hso j hj
      have htsj := hsm j hj
      simp only at hInj
      cases htj : sx j with
      | mk nm2 cols2 keys2 fors2 chk2 =>
      obtain ⟨k2v, k2n, k2x⟩ := keys2
      rw [htj] at hcj hatj htsj hInj i5
      have hks := hatj.keys
      obtain ⟨hk2, ⟨k2a, k2cap, hk2v, _, _, hk2x⟩, hk2o⟩ := hatj.keys
      simp only at hk2v hk2x hk2o hk2 hInj i5
      subst hk2v
      have hk : k < k2n := by omega
      have hIk2 := hInj k hk
      have hk20 : (k2x k).n ≤ 20 := htsj.2.2.2.1 k hk
      obtain ⟨b3', off3', rfl, hck⟩ := hk2x k hk
      have hck := hle' _ _ _ _ hck
      have hkk := hk2o k hk
      refine WpB.skip ?_
      refine WpB.seq (WpB.block ?_)
      repeat first | refine qN ?_ | refine qM rfl ?_ | refine qA rfl ?_ | refine qS rfl ?_ | refine qL H b1 rfl ?_ | refine qL H b2 rfl ?_ | refine qL H b3 rfl ?_ | refine qT rfl ?_ | refine qF rfl ?_ | refine qI i (by omega) rfl ?_ | refine qI io (by omega) rfl ?_ | refine qP rfl ?_ | refine wQ ?_ | refine wR ?_ | refine wD ?_ | refine wN rfl ?_ | refine wS ?_
      refine SpB.indexN hlt rfl rfl rfl rfl rfl rfl rfl rfl rfl ?_
      refine SpB.loadR H hcf rfl rfl rfl rfl rfl rfl rfl ?_
      refine SpB.alloc H rfl rfl rfl rfl rfl fun h4 g s4 b4 => ?_
      have l4 : h.sz < h4.sz := by omega
      refine SpB.storeO (g.hp H) b4 (by omega) (by omega) rfl rfl rfl rfl rfl rfl rfl rfl rfl fun h5 g5 s5 b5 f5 => ?_
      have G : Grow h h.sz h5 := (g.trans g5).mono (by simp)
      have H := G.hp H
      have b1 := G.keep l1 b1
      have b2 := G.keep l2 b2
      have b3 := G.keep l3 b3
      have b4 : h5.blk h.sz = some (.cells (Fo.mk fcl (j : Int) (k : Int)).cells) := b5
      have o2 := o2.grow G (Nat.le_refl _)
      have l3 : h3.sz < h.sz := l3
      have hL5 : h.sz < h5.sz := by omega
      clear G g g5 f5 b5
      repeat first | refine qN ?_ | refine qM rfl ?_ | refine qA rfl ?_ | refine qS rfl ?_ | refine qL H b1 rfl ?_ | refine qL H b2 rfl ?_ | refine qL H b3 rfl ?_ | refine qL H b4 rfl ?_ | refine qT rfl ?_ | refine qF rfl ?_ | refine qI i (by omega) rfl ?_ | refine qI io (by omega) rfl ?_ | refine qP rfl ?_ | refine wQ ?_ | refine wR ?_ | refine wD ?_ | refine wN rfl ?_ | refine wS ?_
      refine SpB.indexN hj rfl rfl rfl rfl rfl rfl rfl rfl rfl ?_
      refine SpB.loadR H hcj rfl rfl rfl rfl rfl rfl rfl ?_
      refine SpB.alloc H rfl rfl rfl rfl rfl fun h6 g s6 b5 => ?_
      refine SpB.storeO (g.hp H) b5 (by omega) (by omega) rfl rfl rfl rfl rfl rfl rfl rfl rfl fun h7 g7 s7 b7 f7 => ?_
      have G : Grow h5 h5.sz h7 := (g.trans g7).mono (by simp)
      have H := (G.hp H).wide (L := h7.sz) (by omega) (Nat.le_refl _)
      have b1 := G.keep (by omega) b1
      have b2 := G.keep (by omega) b2
      have b3 := G.keep (by omega) b3
      have b4 := G.keep (by omega) b4
      have b5 : h7.blk h5.sz = some (.cells (Tb.mk nm2 cols2 ⟨.slice (some ⟨b3', off3', none⟩) k2n k2cap, k2n, k2x⟩ fors2 chk2).cells) := b7
      have o2 := o2.grow G (Nat.le_refl _)
      have hL7 : h5.sz < h7.sz := by omega
      clear G g g7 f7 b7
      repeat first | refine qN ?_ | refine qM rfl ?_ | refine qA rfl ?_ | refine qS rfl ?_ | refine qL H b1 rfl ?_ | refine qL H b2 rfl ?_ | refine qL H b3 rfl ?_ | refine qL H b4 rfl ?_ | refine qL H b5 rfl ?_ | refine qT rfl ?_ | refine qF rfl ?_ | refine qI i (by omega) rfl ?_ | refine qI io (by omega) rfl ?_ | refine qP rfl ?_ | refine wQ ?_ | refine wR ?_ | refine wD ?_ | refine wN rfl ?_ | refine wS ?_
      refine SpB.callK Tryz.T1OK H (by omega) (hnames h7 H hle' fcl (hfoi.1.mono hle') i1 hf20) rfl rfl rfl rfl rfl ?_
      rintro w1 h8 ⟨xs, hxl, hxo, o3⟩ g
      have hr20 : 20 ≤ reachBytes := by decide
      obtain ⟨H8, hle8, hav8⟩ := H.new rfl g
      obtain ⟨la, hlav, hlan, hlas⟩ := own_new_strs (rd := rd') H8.n o3 hxl hxo (Nat.le_trans hf20 hr20)
      obtain ⟨wa, wcap, hw, _⟩ := o3.shape
      subst hw
      have b1 := g.keep (by omega) b1
      have b2 := g.keep (by omega) b2
      have b3 := g.keep (by omega) b3
      have b4 := g.keep (by omega) b4
      have b5 := g.keep (by omega) b5
      have avs8 := avs.new (lim := 0) o2 H.n rfl hav8
      have o2 := o2.grow g (Nat.le_refl _)
      have av3 := hav8 _ (by omega) av3
      have av0 := hav8 _ (by omega) av0
      have l8 := g.le
      clear g o3 H
      have H := H8
      repeat first | refine qN ?_ | refine qM rfl ?_ | refine qA rfl ?_ | refine qS rfl ?_ | refine qL H b1 rfl ?_ | refine qL H b2 rfl ?_ | refine qL H b3 rfl ?_ | refine qL H b4 rfl ?_ | refine qL H b5 rfl ?_ | refine qT rfl ?_ | refine qF rfl ?_ | refine qI i (by omega) rfl ?_ | refine qI io (by omega) rfl ?_ | refine qP rfl ?_ | refine wQ ?_ | refine wR ?_ | refine wD ?_ | refine wN rfl ?_ | refine wS ?_
      refine SpB.indexN hk rfl rfl rfl rfl rfl rfl rfl rfl rfl ?_
      refine SpB.loadRC H8 (hle8 _ _ _ _ hck) rfl rfl rfl rfl rfl rfl rfl ?_
      refine SpB.callK Tryz.T1OK H8 (by omega) (names_ok (Tb.mk nm2 cols2 ⟨.slice (some ⟨b3', off3', none⟩) k2n k2cap, k2n, k2x⟩ fors2 chk2) (k2x k) h8 H8 (hatj.mono (hle'.trans hle8)) (hkk.mono (hle'.trans hle8)) hIk2 hk20) rfl rfl rfl rfl rfl ?_
      rintro w2 h9 ⟨ys, hyl, hyo, o3⟩ g
      obtain ⟨H9, hle9, hav9⟩ := H8.new rfl g
      obtain ⟨lb, hlbv, hlbn, hlbs⟩ := own_new_strs (rd := rdNew N h7.sz h8 rd') H9.n o3 hyl hyo (Nat.le_trans hk20 hr20)
      obtain ⟨wb, wbcap, hwb, _⟩ := o3.shape
      subst hwb
      have b1 := g.keep (by omega) b1
      have b2 := g.keep (by omega) b2
      have b3 := g.keep (by omega) b3
      have avs9 := avs8.new (lim := 0) o2 H8.n rfl hav9
      have o2 := o2.grow g (Nat.le_refl _)
      have av3 := hav9 _ (by omega) av3
      have av0 := hav9 _ (by omega) av0
      have l9 := g.le
      clear g o3 avs avs8 b4 b5
      repeat first | refine qN ?_ | refine qM rfl ?_ | refine qA rfl ?_ | refine qS rfl ?_ | refine qL H b1 rfl ?_ | refine qT rfl ?_ | refine qF rfl ?_ | refine qI i (by omega) rfl ?_ | refine qI io (by omega) rfl ?_ | refine qP rfl ?_ | refine wQ ?_ | refine wR ?_ | refine wD ?_ | refine wN rfl ?_ | refine wS ?_
      refine SpB.newS H9 rfl rfl rfl rfl rfl fun h10 g10 s10 b10 => ?_
      have H10 := g10.hp H9
      have b1 := g10.keep (by omega) b1
      have b2 := g10.keep (by omega) b2
      have b3 := g10.keep (by omega) b3
      have o2 := o2.grow g10 (Nat.le_refl _)
      have o9 : Own h10 h9.sz 3 (.slice (some ⟨N + h9.sz, 0, none⟩) 1 1) 1 [.slice wa fcl.n wcap, .string nm2, .slice wb (k2x k).n wbcap] := .inr ⟨h9.sz, 1, Nat.le_refl _, by omega, by rw [H10.n], b10, rfl, .inr ⟨rfl, by decide⟩⟩
      refine SpB.appendA (st := 38) (xt := 38) H10 o2 avs9 o9.src rfl (by omega) (by omega) (show (i + 1) * 64 ≤ 70368744177664 by omega) rfl rfl rfl rfl rfl rfl rfl rfl rfl rfl rfl rfl rfl rfl ?_
      intro v3 h11 acc o3 g11 H11 avs11
      have l11 := g11.le
      have b1 := g11.keepL (by omega) (by omega) b1
      have b2 := g11.keepL (by omega) (by omega) b2
      have b3 := g11.keepL (by omega) (by omega) b3
      obtain ⟨xa, xcap, hv3, _⟩ := o3.shape
      subst hv3
      repeat first | refine qN ?_ | refine qM rfl ?_ | refine qA rfl ?_ | refine qS rfl ?_ | refine qL H b1 rfl ?_ | refine qT rfl ?_ | refine qF rfl ?_ | refine qI i (by omega) rfl ?_ | refine qI io (by omega) rfl ?_ | refine qP rfl ?_ | refine wQ ?_ | refine wR ?_ | refine wD ?_ | refine wN rfl ?_ | refine wS ?_
      refine SpB.storeO H11 b3 (by omega) (by omega) rfl rfl rfl rfl rfl rfl rfl rfl rfl fun h12 g12 s12 b12 f12 => ?_
      refine SpB.nil ?_
      refine draw_intro (ws := [false, false, false, false, false, false, false, false, false, false, false, false, false, false, false, false, false, false, false, true, false, false, true]) (by repeat first | exact quiets.nil | refine quiets.q rfl (fun h => by cases h) ?_ | refine quiets.w ?_) (by kernel_rfl) ?_
      have H12 := (H11.put g12 f12 av3).wide (L := h12.sz) (by omega) (Nat.le_refl _)
      have hle12 := hle8.trans hle9
      repeat first | refine qN ?_ | refine qM rfl ?_ | refine qA rfl ?_ | refine qS rfl ?_ | refine qL H b1 rfl ?_ | refine qT rfl ?_ | refine qF rfl ?_ | refine qI i (by omega) rfl ?_ | refine qI io (by omega) rfl ?_ | refine qP rfl ?_ | refine wQ ?_ | refine wR ?_ | refine wD ?_ | refine wN rfl ?_ | refine wS ?_
      refine ⟨hlt, (by repeat first | exact sub_nil | refine sub_cons rfl ?_), ⟨_, _, fs ++ [⟨la, nm2, lb⟩], hle'.trans hle12, (hold'.trans rdNew_oldR (by omega)).trans rdNew_oldR (by omega), H12, av3, av0, (f12 _ (by omega)).trans b1, (f12 _ (by omega)).trans b2, b12, by omega, hkeys.mono hle12 (fun _ h => h.mono hle12), by simp [hfl], fun w hw => ?_, ?_, avs11⟩, rfl⟩
      · rcases List.mem_append.1 hw with hw | hw
        · exact ⟨(hfs w hw).1.mono hle12, (hfs w hw).2⟩
        · simp only [List.mem_singleton] at hw
          rw [hw]
          exact ⟨⟨hlas.mono hle9, hatj.nm, hlbs⟩, by rw [hlan]; exact hf20, by rw [hlbn]; exact hk20⟩
      · have := o3.put g12 f12 (Nat.lt_succ_self _)
        simpa [Rf.cells, hlav, hlbv] using this
    · refine WpB.exit ?_
      have hge : ¬ i < fn := by simpa using ht
      obtain rfl : i = fn := by omega
      obtain ⟨xa, xcap, hw, _⟩ := o2.shape
      subst hw
      subst hfl
      obtain ⟨rd5, hle5, H5, hfors, hold5⟩ := own_keep (ok := fun r x => Rf.At r x) H o2 avs (fun _ _ => rfl) (by omega) (fun f hf => (hfs f hf).1) (fun r r' hr x hx => hx.mono hr)
      have av0 : Av rd5 (N + h0.sz) := av0.old hold5 (by omega)
      repeat first | refine qN ?_ | refine qM rfl ?_ | refine qA rfl ?_ | refine qS rfl ?_ | refine qL H b1 rfl ?_ | refine qL H b2 rfl ?_ | refine qL H b3 rfl ?_ | refine qT rfl ?_ | refine qF rfl ?_ | refine qI i (by omega) rfl ?_ | refine qI io (by omega) rfl ?_ | refine qP rfl ?_ | refine wQ ?_ | refine wR ?_ | refine wD ?_ | refine wN rfl ?_ | refine wS ?_
      refine SpB.storeO H5 b1 l1 (Nat.le_refl _) rfl rfl rfl rfl rfl rfl rfl rfl rfl fun h11 g11 s11 b11 f11 => ?_
      have H11 := H5.put g11 f11 av0
      refine SpB.nil ?_
      have hr20 : 20 ≤ reachBytes := by decide
      have hr5 : rd5.le (rdNew N h0.sz h11 rd) := le_rdNew (lim := h.sz) H11 (hold'.trans hold5 (by omega))
      have hall := hle5.trans hr5
      have hgf : ∀ j, j < fs.length → fs.getD j default ∈ fs := fun j hj => by
        have hj' : j < fs.length := by omega
        have : fs.getD j default = fs[j] := by simp [List.getD, hj']
        rw [this]
        exact List.getElem_mem hj'
      have hrl := hle'.trans hall
      refine WpB.ret ⟨_, resCell rfl (partO (off := 0) (v := .agg ⟨defC nm (.slice ca cn ccap) (.slice va kn vcap) (.slice xa fs.length xcap) (.slice ea en ecap)⟩) H11.n b11 rfl) rfl, ⟨⟨1, nm, ⟨.slice ca cn ccap, cn, cx⟩, ⟨.slice va kn vcap, kn, fun i => ws.getD i default⟩, ⟨.slice xa fs.length xcap, fs.length, fun i => fs.getD i default⟩, ⟨.slice ea en ecap, en, ex⟩, .slice none 0 0, [.slice none 0 0, .slice none 0 0, .slice none 0 0, .int .i64 0, .string ⟨#[]⟩, .string ⟨#[]⟩, .int .i64 0, .int .i64 0, .int .i64 0, .string ⟨#[]⟩, .slice none 0 0, .slice none 0 0, .slice none 0 0, .int .i64 0, .string ⟨#[]⟩]⟩, rfl, ?_, t1, t2, t3, hkl, fun j hj => (hfs _ (hgf j hj)).2.1, fun j hj => (hfs _ (hgf j hj)).2.2, rfl⟩, Nat.le_refl _⟩
      exact ⟨hat.nm, hcols.mono hrl (fun _ h => h), hkeys.mono hall (fun _ h => h.mono hall),
        hfors.mono hr5 (fun _ hx => hx.mono hr5), hchk.mono hrl (fun _ hx => E.At.mono hrl hx)⟩

end Go.Proofs.YtkjkcoemloakhaaGreat
end

section
set_option linter.unusedVariables false
namespace Go.Proofs.YtkjkcoemloakhaaGreat
open Go Go.Vae
set_option maxRecDepth 100000

def zeroTb : Tb := ⟨⟨#[]⟩, ⟨.slice none 0 0, 0, fun _ => default⟩, ⟨.slice none 0 0, 0, fun _ => default⟩, ⟨.slice none 0 0, 0, fun _ => default⟩, ⟨.slice none 0 0, 0, fun _ => default⟩⟩

def intsV (ws : List (Sl Int)) : List Value := ws.flatMap slC

theorem nilAt {α : Type} {rd : RO} {size : Nat} {cells : α → List Value} {ok : α → Prop} {x : Nat → α} : Sl.At rd size cells ok ⟨.slice none 0 0, 0, x⟩ :=
  ⟨Nat.zero_le _, ⟨none, 0, rfl, Nat.le_refl _, .inl (by decide), fun i hi => absurd hi (Nat.not_lt_zero _)⟩, fun i hi => absurd hi (Nat.not_lt_zero _)⟩

theorem zeroTb_at (rd : RO) : zeroTb.At rd := ⟨Nat.zero_le _, nilAt, nilAt, nilAt, nilAt⟩

theorem numbers_res {N lim cn n : Nat} {rd : RO} {h h' : AH} {v : Value} {b : Bool} (H : Hp N lim rd h) (g : Grow h h.sz h') (hm : (b = false ∧ v = .slice none 0 0) ∨ (b = true ∧ ∃ xs : List Int, xs.length = n ∧ (∀ x ∈ xs, 0 ≤ x ∧ x < (cn : Int)) ∧ Own h' h.sz 1 v n (numsV xs))) (hcn : cn ≤ reachBytes) (hn : n ≤ 20) :
    ∃ (rd2 : RO) (l : Sl Int), rd.le rd2 ∧ rd.old rd2 (N + h.sz) ∧ Hp N h'.sz rd2 h' ∧ v = l.v ∧ l.ints rd2 ∧ (b = true → l.n = n ∧ insideP cn l) := by
  obtain ⟨H2, hle2, _⟩ := H.new rfl g
  refine ⟨rdNew N h.sz h' rd, ?_⟩
  have hreach : reachBytes < 2 ^ 47 := by decide
  rcases hm with ⟨rfl, rfl⟩ | ⟨rfl, xs, hxl, hxo, o⟩
  · exact ⟨⟨.slice none 0 0, 0, fun _ => default⟩, hle2, rdNew_oldR, H2, rfl, nilAt, fun h => by cases h⟩
  · obtain ⟨l, h1, h2, h3, h4⟩ := own_new_ints (rd := rd) H2.n o hxl (fun y hy => by have := hxo y hy; unfold w64; omega) (by have := million_reach; omega)
    exact ⟨l, hle2, rdNew_oldR, H2, h1.symm, h3, fun _ => ⟨h2, fun i hi => hxo _ (h4 i (by omega))⟩⟩

set_option maxHeartbeats 6400000 in
theorem table_ok {N lim lo : Nat} {rd : RO} (sv : Value) (ts : List Tb) (x : Stm) (h0 : AH) (H : Hp N lim rd h0) (hs : Own h0 lo 5 sv ts.length (ts.flatMap Tb.cells)) (hts : ∀ t ∈ ts, t.At rd) (hx : x.At rd) (hxs : StS x) (hn : ts.length ≤ 100) (hlen : ∀ i, i < x.fors.n → (x.fors.x i).cols.n = (x.fors.x i).tgt.n) :
    Kp TT 91 [sv, .agg ⟨x.cells⟩] h0 fun v h' => ∃ (t : Tb) (e : Int), v = .tuple #[.agg ⟨t.cells⟩, .int .i64 e] ∧ t.At (rdNew N h0.sz h' rd) := by
  obtain ⟨kd, nm, cols, ⟨kv, kn, kx⟩, ⟨fv, fn, fx⟩, chk, r0, rest⟩ := x
  have hcols := hx.cols
  have hchk := hx.chk
  have hnm := hx.nm
  obtain ⟨hn2, ⟨ka, kcap, hkv, _, _, hkx⟩, hko⟩ := hx.keys
  obtain ⟨hn3, ⟨fa, fcap, hfv, _, _, hfx⟩, hfo⟩ := hx.fors
  obtain ⟨t1, t2, t3, t4, t5, t6, _⟩ := hxs
  simp only at hkv hkx hko hfv hfx hfo hn2 hn3 t1 t2 t3 t4 t5 t6 hcols hchk hnm hlen
  subst hkv hfv
  obtain ⟨cv, cn, cx⟩ := cols
  obtain ⟨cha, chcap, hchv, _⟩ := hchk.2.1
  obtain ⟨chv, chn, chx⟩ := chk
  simp only at hchv
  subst hchv
  obtain ⟨cva, cvcap, hcv, _⟩ := hcols.2.1
  simp only at hcv
  subst hcv
  simp only at t1
  clear hx
  refine Kp.of (fi := Tryz.fi91) rfl rfl rfl ?_
  have H0 := H
  refine WpB.seq (WpB.region ?_)
  refine SpB.box H rfl rfl rfl rfl rfl rfl fun h g s1 b1 => ?_
  have hle := H.le
  have H := g.hp H
  have l1 : h0.sz < h.sz := by omega
  have G := g
  clear g s1
  refine SpB.alloc H rfl rfl rfl rfl rfl fun h2 g s2 b2 => ?_
  have l2 : h.sz < h2.sz := by omega
  have G := G.more g (by omega)
  have H := g.hp H
  have b1 := g.keep l1 b1
  have l1 := g.lt l1
  repeat first | refine qN ?_ | refine qM rfl ?_ | refine qA rfl ?_ | refine qS rfl ?_ | refine qL H b1 rfl ?_ | refine qL H b2 rfl ?_ | refine qT rfl ?_ | refine qF rfl ?_ | refine qI i (by omega) rfl ?_ | refine qI io (by omega) rfl ?_ | refine qP rfl ?_ | refine wQ ?_ | refine wR ?_ | refine wD ?_ | refine wN rfl ?_ | refine wS ?_
  refine SpB.alloc H rfl rfl rfl rfl rfl fun h3 g s3 b3 => ?_
  have l3 : h2.sz < h3.sz := by omega
  have G := G.more g (by omega)
  have H := g.hp H
  have b1 := g.keep l1 b1
  have l1 := g.lt l1
  have b2 := g.keep l2 b2
  have l2 := g.lt l2
  refine SpB.storeO H b3 (by omega) (by omega) rfl rfl rfl rfl rfl rfl rfl rfl rfl fun h4 g4 s4 b4 f4 => ?_
  have G := G.more g4 (by omega)
  have H := g4.hpL (by omega) H
  have b1 := (f4 h0.sz (by omega)).trans b1
  have b2 := (f4 h.sz (by omega)).trans b2
  have b3 : h4.blk h2.sz = some (.cells [.string nm, .slice cva cn cvcap, .slice none 0 0, .slice none 0 0, .slice cha chn chcap]) := b4
  have l1 : h0.sz < h4.sz := by omega
  have l2 : h.sz < h4.sz := by omega
  have l3 : h2.sz < h4.sz := by omega
  clear g4 f4 b4
  have H := H.wide (L := h4.sz) (by omega) (Nat.le_refl _)
  have hz2 : Av rd (N + h.sz) := H0.av (by omega)
  have hz3 : Av rd (N + h2.sz) := H0.av (by omega)
  have l01 : h0.sz < h.sz := by omega
  have l13 : h.sz < h2.sz := by omega
  clear g s2 s3 s4
  repeat first | refine qN ?_ | refine qM rfl ?_ | refine qA rfl ?_ | refine qS rfl ?_ | refine qL H b1 rfl ?_ | refine qT rfl ?_ | refine qF rfl ?_ | refine qI i (by omega) rfl ?_ | refine qI io (by omega) rfl ?_ | refine qP rfl ?_ | refine wQ ?_ | refine wR ?_ | refine wD ?_ | refine wN rfl ?_ | refine wS ?_
  refine WpB.cut1 [(0, sv), (3, .pointer (some ⟨N + h0.sz, 0, none⟩)), (4, .pointer (some ⟨N + h.sz, 0, none⟩)), (6, .pointer (some ⟨N + h2.sz, 0, none⟩))] (fun h' => ∃ rd' v ws, rd.le rd' ∧ rd.old rd' (N + (h2.sz + 1)) ∧ Hp N h'.sz rd' h' ∧ Grow h0 h0.sz h' ∧ h2.sz < h'.sz ∧
      h'.blk h0.sz = some (.cells (Stm.mk kd nm ⟨.slice cva cn cvcap, cn, cx⟩ ⟨.slice ka kn kcap, kn, kx⟩ ⟨.slice fa fn fcap, fn, fx⟩ ⟨.slice cha chn chcap, chn, chx⟩ r0 rest).cells) ∧ h'.blk h.sz = some (.cells zeroTb.cells) ∧
      h'.blk h2.sz = some (.cells [.string nm, .slice cva cn cvcap, v, .slice none 0 0, .slice cha chn chcap]) ∧
      ws.length = kn ∧ (∀ w ∈ ws, Sl.ints rd' w) ∧ Own h' (h2.sz + 1) 1 v kn (intsV ws) ∧ AvS rd' v) ?_ ?_
  · refine WpB.block ?_
    refine WpB.loopC kn (fun i => [(7, .int .i64 (i : Int)), (0, sv), (3, .pointer (some ⟨N + h0.sz, 0, none⟩)), (4, .pointer (some ⟨N + h.sz, 0, none⟩)), (6, .pointer (some ⟨N + h2.sz, 0, none⟩))]) (fun i h' => ∃ rd' v ws, rd.le rd' ∧ rd.old rd' (N + (h2.sz + 1)) ∧ Hp N h'.sz rd' h' ∧ Grow h0 h0.sz h' ∧ h2.sz < h'.sz ∧
      h'.blk h0.sz = some (.cells (Stm.mk kd nm ⟨.slice cva cn cvcap, cn, cx⟩ ⟨.slice ka kn kcap, kn, kx⟩ ⟨.slice fa fn fcap, fn, fx⟩ ⟨.slice cha chn chcap, chn, chx⟩ r0 rest).cells) ∧ h'.blk h.sz = some (.cells zeroTb.cells) ∧
      h'.blk h2.sz = some (.cells [.string nm, .slice cva cn cvcap, v, .slice none 0 0, .slice cha chn chcap]) ∧
      ws.length = i ∧ (∀ w ∈ ws, Sl.ints rd' w) ∧ Own h' (h2.sz + 1) 1 v i (intsV ws) ∧ AvS rd' v)
      ⟨rd, .slice none 0 0, [], RO.le.refl rd, RO.old.refl _ _, H, G, l3, b1, b2, b3, rfl, fun w hw => by simp at hw, Own.nil _ _ _, AvS.nil rd⟩ (by repeat first | exact sub_nil | refine sub_cons rfl ?_) ?_
    clear H b1 b2 b3 l1 l2 l3 G
    rintro i h5 hi ⟨rd', v, ws, hle', ho', H, G, l3, b1, b2, b3, hwl, hws, o1, avs⟩
    have l1 : h0.sz < h5.sz := by omega
    have l2 : h.sz < h5.sz := by omega
    repeat first | refine qN ?_ | refine qM rfl ?_ | refine qA rfl ?_ | refine qS rfl ?_ | refine qL H b1 rfl ?_ | refine qT rfl ?_ | refine qF rfl ?_ | refine qI i (by omega) rfl ?_ | refine qI io (by omega) rfl ?_ | refine qP rfl ?_ | refine wQ ?_ | refine wR ?_ | refine wD ?_ | refine wN rfl ?_ | refine wS ?_
    refine WpB.cond rfl (fun ht => ?_) fun ht => ?_
    · have hlt : i < kn := by simpa using ht
      obtain ⟨b', off', rfl, hck⟩ := hkx i hlt
      have hck := hle' _ _ _ _ hck
      obtain ⟨av, acap, hav, _⟩ := o1.shape
      subst hav
      have o1' : Own h5 (h2.sz + 1) 1 (.slice av i acap) ws.length (intsV ws) := by rw [hwl]; exact o1
      have hall := H.le_all
      have hat : Tb.At (rdAll h5) ⟨nm, ⟨.slice cva cn cvcap, cn, cx⟩, Sl.of (.slice av i acap) ws, ⟨.slice none 0 0, 0, fun _ => default⟩, ⟨.slice cha chn chcap, chn, chx⟩⟩ :=
        ⟨hnm, hcols.mono (hle'.trans hall) (fun _ h => h), own_At o1' (fun _ _ => rfl) (by omega) (fun w hw => (hws w hw).mono hall), nilAt, hchk.mono (hle'.trans hall) (fun _ hx => E.At.mono (hle'.trans hall) hx)⟩
      refine WpB.skip ?_
      refine WpB.seq (WpB.block ?_)
      repeat first | refine qN ?_ | refine qM rfl ?_ | refine qA rfl ?_ | refine qS rfl ?_ | refine qL H b1 rfl ?_ | refine qL H b2 rfl ?_ | refine qL H b3 rfl ?_ | refine qT rfl ?_ | refine qF rfl ?_ | refine qI i (by omega) rfl ?_ | refine qI io (by omega) rfl ?_ | refine qP rfl ?_ | refine wQ ?_ | refine wR ?_ | refine wD ?_ | refine wN rfl ?_ | refine wS ?_
      refine SpB.indexN hlt rfl rfl rfl rfl rfl rfl rfl rfl rfl ?_
      refine SpB.loadRC H hck rfl rfl rfl rfl rfl rfl rfl ?_
      refine SpB.callK Tryz.T1OK H (by omega) (numbers_ok _ (kx i) h5 H.all hat ((hko i hlt).mono (hle'.trans hall)) (by have := t4 i hlt; omega)) rfl rfl rfl rfl rfl ?_
      rintro r h6 ⟨v2, ok, rfl, hm⟩ g
      have hsz := g.le
      have G := G.more g (by omega)
      have l3' := g.lt l3
      have b1 := g.keep l1 b1
      have b2 := g.keep l2 b2
      have b3 := g.keep l3 b3
      have o1 := o1.grow g (Nat.le_refl _)
      repeat first | refine qN ?_ | refine qM rfl ?_ | refine qA rfl ?_ | refine qS rfl ?_ | refine qL H b1 rfl ?_ | refine qT rfl ?_ | refine qF rfl ?_ | refine qI i (by omega) rfl ?_ | refine qI io (by omega) rfl ?_ | refine qP rfl ?_ | refine wQ ?_ | refine wR ?_ | refine wD ?_ | refine wN rfl ?_ | refine wS ?_
      rcases hm with ⟨rfl, rfl⟩ | ⟨rfl, xs, hxl, hxo, o2⟩
      · have H := g.hp H
        repeat first | refine qN ?_ | refine qM rfl ?_ | refine qA rfl ?_ | refine qS rfl ?_ | refine qL H b1 rfl ?_ | refine qT rfl ?_ | refine qF rfl ?_ | refine qI i (by omega) rfl ?_ | refine qI io (by omega) rfl ?_ | refine qP rfl ?_ | refine wQ ?_ | refine wR ?_ | refine wD ?_ | refine wN rfl ?_ | refine wS ?_ | refine wT rfl ?_ | refine wF rfl ?_
        refine SpB.storeO H b2 (by omega) (by omega) rfl rfl rfl rfl rfl rfl rfl rfl rfl fun h7 g7 s7 b7 f7 => ?_
        repeat first | refine qN ?_ | refine qM rfl ?_ | refine qA rfl ?_ | refine qS rfl ?_ | refine qL H b1 rfl ?_ | refine qT rfl ?_ | refine qF rfl ?_ | refine qI i (by omega) rfl ?_ | refine qI io (by omega) rfl ?_ | refine qP rfl ?_ | refine wQ ?_ | refine wR ?_ | refine wD ?_ | refine wN rfl ?_ | refine wS ?_ | refine wT rfl ?_ | refine wF rfl ?_
        exact WpB.ret ⟨_, resC1 rfl (partO (off := 0) (v := .agg ⟨zeroTb.cells⟩) (g7.n.trans H.n) b7 rfl) rfl rfl rfl, ⟨zeroTb, 4, rfl, zeroTb_at _⟩, by omega⟩
      · obtain ⟨H6, hle6, _⟩ := H.new rfl g
        have hold6 : rd'.old (rdNew N h5.sz h6 rd') (N + h5.sz) := rdNew_oldR
        have hx64 : ∀ y ∈ xs, w64 y := fun y hy => by have := hxo y hy; simp only at this; unfold w64; omega
        obtain ⟨l, hlv, hln, hls, _⟩ := own_new_ints (rd := rd') H6.n o2 hxl hx64 (by have := t4 i hlt; have := million_reach; omega)
        obtain ⟨wa, wcap, hw, _⟩ := o2.shape
        subst hw
        have avs6 := avs.old o1' H.n hold6 (Nat.le_refl _)
        clear g o2
        have H := H6
        repeat first | refine qN ?_ | refine qM rfl ?_ | refine qA rfl ?_ | refine qS rfl ?_ | refine qL H b1 rfl ?_ | refine qL H b2 rfl ?_ | refine qL H b3 rfl ?_ | refine qT rfl ?_ | refine qF rfl ?_ | refine qI i (by omega) rfl ?_ | refine qI io (by omega) rfl ?_ | refine qP rfl ?_ | refine wQ ?_ | refine wR ?_ | refine wD ?_ | refine wN rfl ?_ | refine wS ?_ | refine wT rfl ?_ | refine wF rfl ?_
        refine SpB.newS H rfl rfl rfl rfl rfl fun h9 g9 s9 b9 => ?_
        have H9 := g9.hp H
        have G := G.more g9 (by omega)
        have b1 := g9.keep (by omega) b1
        have b2 := g9.keep (by omega) b2
        have b3 := g9.keep (by omega) b3
        have o1 := o1.grow g9 (Nat.le_refl _)
        have o9 : Own h9 h6.sz 1 (.slice (some ⟨N + h6.sz, 0, none⟩) 1 1) 1 [.slice wa (kx i).n wcap] := .inr ⟨h6.sz, 1, Nat.le_refl _, by omega, by rw [H9.n], b9, rfl, .inr ⟨rfl, by decide⟩⟩
        refine SpB.appendA (st := 72) (xt := 72) H9 o1 avs6 o9.src rfl (by omega) (by omega) (show (i + 1) * 24 ≤ 70368744177664 by omega) rfl rfl rfl rfl rfl rfl rfl rfl rfl rfl rfl rfl rfl rfl ?_
        intro v3 h10 acc o3 g10 H10 avs10
        have l10 := g10.le
        have G := G.more g10 (by omega)
        have b1 := g10.keepL (by omega) (by omega) b1
        have b2 := g10.keepL (by omega) (by omega) b2
        have b3 := g10.keepL (by omega) (by omega) b3
        obtain ⟨va, vcap, hv3, _⟩ := o3.shape
        subst hv3
        repeat first | refine qN ?_ | refine qM rfl ?_ | refine qA rfl ?_ | refine qS rfl ?_ | refine qL H b1 rfl ?_ | refine qT rfl ?_ | refine qF rfl ?_ | refine qI i (by omega) rfl ?_ | refine qI io (by omega) rfl ?_ | refine qP rfl ?_ | refine wQ ?_ | refine wR ?_ | refine wD ?_ | refine wN rfl ?_ | refine wS ?_
        refine SpB.storeO H10 b3 (by omega) (by omega) rfl rfl rfl rfl rfl rfl rfl rfl rfl fun h11 g11 s11 b11 f11 => ?_
        have hav3 : Av (rdNew N h5.sz h6 rd') (N + h2.sz) := (hz3.old ho' (by omega)).old hold6 (by omega)
        have H11 := (H10.put g11 f11 hav3).wide (L := h11.sz) (by omega) (Nat.le_refl _)
        have G := G.more g11 (by omega)
        repeat first | refine qN ?_ | refine qM rfl ?_ | refine qA rfl ?_ | refine qS rfl ?_ | refine qL H b1 rfl ?_ | refine qT rfl ?_ | refine qF rfl ?_ | refine qI i (by omega) rfl ?_ | refine qI io (by omega) rfl ?_ | refine qP rfl ?_ | refine wQ ?_ | refine wR ?_ | refine wD ?_ | refine wN rfl ?_ | refine wS ?_
        refine ⟨hlt, (by repeat first | exact sub_nil | refine sub_cons rfl ?_), ⟨_, _, ws ++ [l], hle'.trans hle6, ho'.trans hold6 (by omega), H11, G, by omega, (f11 _ (by omega)).trans b1, (f11 _ (by omega)).trans b2, b11, by simp [hwl], fun w hw => ?_, ?_, avs10⟩, rfl⟩
        · rcases List.mem_append.1 hw with hw | hw
          · exact (hws w hw).mono hle6
          · simp only [List.mem_singleton] at hw
            rw [hw]
            exact hls
        · have := o3.put g11 f11 (Nat.lt_succ_self _)
          simpa [intsV, slC, hlv] using this
    · refine WpB.exit ?_
      have hge : ¬ i < kn := by simpa using ht
      obtain rfl : i = kn := by omega
      exact ⟨(by repeat first | exact sub_nil | refine sub_cons rfl ?_), ⟨rd', v, ws, hle', ho', H, G, l3, b1, b2, b3, hwl, hws, o1, avs⟩, rfl⟩
  clear H b1 b2 b3 l1 l2 l3 G
  rintro h5 ⟨rd1, v, ws, hle1, ho1, H, G, l3, b1, b2, b3, hwl, hws, o1, avs⟩
  subst hwl
  have l1 : h0.sz < h5.sz := by omega
  have l2 : h.sz < h5.sz := by omega
  obtain ⟨rd2, hle2, H, hkeys, ho2⟩ := own_keep (ok := fun r x => Sl.ints r x) H o1 avs (fun _ _ => rfl) (by omega) hws (fun r r' hr x hx => hx.mono hr)
  obtain ⟨va, vcap, hv, _⟩ := o1.shape
  subst hv
  clear o1 avs hws
  have hle2 := hle1.trans hle2
  have ho2 := ho1.trans ho2 (Nat.le_refl _)
  clear hle1 ho1
  repeat first | refine qN ?_ | refine qM rfl ?_ | refine qA rfl ?_ | refine qS rfl ?_ | refine qL H b1 rfl ?_ | refine qT rfl ?_ | refine qF rfl ?_ | refine qI i (by omega) rfl ?_ | refine qI io (by omega) rfl ?_ | refine qP rfl ?_ | refine wQ ?_ | refine wR ?_ | refine wD ?_ | refine wN rfl ?_ | refine wS ?_
  refine SpB.newS H rfl rfl rfl rfl rfl fun h6 g6 s6 b6 => ?_
  have H6 := g6.hp H
  have G := G.more g6 (by omega)
  have b1 := g6.keep l1 b1
  have b2 := g6.keep l2 b2
  have b3 := g6.keep l3 b3
  have hs6 := hs.grow G (Nat.le_refl _)
  have o6 : Own h6 h5.sz 5 (.slice (some ⟨N + h5.sz, 0, none⟩) 0 0) 0 [] := .inr ⟨h5.sz, 0, Nat.le_refl _, by omega, by rw [H6.n], b6, rfl, .inr ⟨rfl, by decide⟩⟩
  have hlenT : (ts.flatMap Tb.cells).length = ts.length * 5 := flat_len fun _ _ => rfl
  repeat first | refine qN ?_ | refine qM rfl ?_ | refine qA rfl ?_ | refine qS rfl ?_ | refine qL H b1 rfl ?_ | refine qT rfl ?_ | refine qF rfl ?_ | refine qI i (by omega) rfl ?_ | refine qI io (by omega) rfl ?_ | refine qP rfl ?_ | refine wQ ?_ | refine wR ?_ | refine wD ?_ | refine wN rfl ?_ | refine wS ?_
  refine SpB.appendX (st := 23) (xt := 23) (lo := h5.sz) (k := h5.sz) (n := 0) (cs := []) H6 (Nat.le_refl _) (by omega) b6 rfl (by decide) hs6.src hlenT (by omega) (by omega) (show (0 + ts.length) * 112 ≤ 70368744177664 by omega) rfl rfl rfl rfl rfl rfl rfl rfl rfl rfl rfl rfl rfl rfl ?_
  intro v7 h7 acc o7 g7
  have H := g7.hp H6
  have avs7 := o7.avs H (Nat.le_refl _)
  have l7 := g7.le
  have G := G.more g7 (by omega)
  have b1 := g7.keep (by omega) b1
  have b2 := g7.keep (by omega) b2
  have b3 := g7.keep (by omega) b3
  repeat first | refine qN ?_ | refine qM rfl ?_ | refine qA rfl ?_ | refine qS rfl ?_ | refine qL H b1 rfl ?_ | refine qL H b2 rfl ?_ | refine qL H b3 rfl ?_ | refine qT rfl ?_ | refine qF rfl ?_ | refine qI i (by omega) rfl ?_ | refine qI io (by omega) rfl ?_ | refine qP rfl ?_ | refine wQ ?_ | refine wR ?_ | refine wD ?_ | refine wN rfl ?_ | refine wS ?_
  refine SpB.newS H rfl rfl rfl rfl rfl fun h8 g8 s8 b8 => ?_
  have H8 := g8.hp H
  have G := G.more g8 (by omega)
  have b1 := g8.keep (by omega) b1
  have b2 := g8.keep (by omega) b2
  have b3 := g8.keep (by omega) b3
  have o7 := o7.grow g8 (Nat.le_refl _)
  have o8 : Own h8 h7.sz 5 (.slice (some ⟨N + h7.sz, 0, none⟩) 1 1) 1 [.string nm, .slice cva cn cvcap, .slice va ws.length vcap, .slice none 0 0, .slice cha chn chcap] := .inr ⟨h7.sz, 1, Nat.le_refl _, by omega, by rw [H8.n], b8, rfl, .inr ⟨rfl, by decide⟩⟩
  refine SpB.appendA (st := 23) (xt := 23) H8 o7 avs7 o8.src rfl (by omega) (by omega) (show (0 + ts.length + 1) * 112 ≤ 70368744177664 by omega) rfl rfl rfl rfl rfl rfl rfl rfl rfl rfl rfl rfl rfl rfl ?_
  intro v9 h9 acc2 o9 g9 H avs9
  have l9 := g9.le
  have G := G.more g9 (by omega)
  have b1 := g9.keepL (by omega) (by omega) b1
  have b2 := g9.keepL (by omega) (by omega) b2
  have b3 := g9.keepL (by omega) (by omega) b3
  repeat first | refine SpB.assign rfl rfl rfl rfl rfl ?_
  refine SpB.nil ?_
  refine draw_intro (ws := [false, false, false, false, false, true, false]) (by repeat first | exact quiets.nil | refine quiets.q rfl (fun h => by cases h) ?_ | refine quiets.w ?_) (by kernel_rfl) ?_
  have hat9 : ∀ r : RO, rd2.le r → Tb.At r ⟨nm, ⟨.slice cva cn cvcap, cn, cx⟩, Sl.of (.slice va ws.length vcap) ws, ⟨.slice none 0 0, 0, fun _ => default⟩, ⟨.slice cha chn chcap, chn, chx⟩⟩ := fun r hr =>
    ⟨hnm, hcols.mono (hle2.trans hr) (fun _ h => h), hkeys.mono hr (fun _ hx => hx.mono hr), nilAt, hchk.mono (hle2.trans hr) (fun _ hx => E.At.mono (hle2.trans hr) hx)⟩
  let tn : Tb := ⟨nm, ⟨.slice cva cn cvcap, cn, cx⟩, Sl.of (.slice va ws.length vcap) ws, ⟨.slice none 0 0, 0, fun _ => default⟩, ⟨.slice cha chn chcap, chn, chx⟩⟩
  have o9 : Own h9 h5.sz 5 v9 (ts ++ [tn]).length ((ts ++ [tn]).flatMap Tb.cells) := by
    simpa [tn, Tb.cells, Sl.of] using o9
  generalize hus : ts ++ [tn] = us at o9
  have husat : ∀ t ∈ us, Tb.At rd2 t := fun t ht => by
    rw [← hus] at ht
    rcases List.mem_append.1 ht with ht | ht
    · exact (hts t ht).mono hle2
    · simp only [List.mem_singleton] at ht
      rw [ht]
      exact hat9 rd2 (RO.le.refl _)
  have husn : us.length ≤ 101 := by rw [← hus]; simp; omega
  clear hus hat9 tn
  obtain ⟨rd3, hle3, H, hus, ho3⟩ := own_keep (ok := fun r x => Tb.At r x) H o9 avs9 (fun _ _ => rfl) (by omega) husat (fun r r' hr x hx => hx.mono hr)
  obtain ⟨a9, cap9, hv9, _⟩ := o9.shape
  subst hv9
  have ho3 := ho2.trans ho3 (by omega)
  have hkeys := hkeys.mono hle3 (fun _ hx => hx.mono hle3)
  have hle3 := hle2.trans hle3
  clear o9 avs9 husat hle2 ho2
  have l3 : h2.sz < h9.sz := by omega
  repeat first | refine qN ?_ | refine qM rfl ?_ | refine qA rfl ?_ | refine qS rfl ?_ | refine qL H b1 rfl ?_ | refine qT rfl ?_ | refine qF rfl ?_ | refine qI i (by omega) rfl ?_ | refine qI io (by omega) rfl ?_ | refine qP rfl ?_ | refine wQ ?_ | refine wR ?_ | refine wD ?_ | refine wN rfl ?_ | refine wS ?_
  refine WpB.block ?_
  refine WpB.loopS (σ := Nat × Int) (fun s => fn - s.1) (fun s => [(12, .int .i64 (s.1 : Int)), (11, .int .i64 s.2), (10, .slice a9 us.length cap9), (3, .pointer (some ⟨N + h0.sz, 0, none⟩)), (4, .pointer (some ⟨N + h.sz, 0, none⟩)), (6, .pointer (some ⟨N + h2.sz, 0, none⟩))]) (fun s h' => ∃ rd' w fs, rd3.le rd' ∧ rd3.old rd' (N + (h2.sz + 1)) ∧ Hp N h'.sz rd' h' ∧ Grow h0 h0.sz h' ∧ h2.sz < h'.sz ∧
      h'.blk h0.sz = some (.cells (Stm.mk kd nm ⟨.slice cva cn cvcap, cn, cx⟩ ⟨.slice ka ws.length kcap, ws.length, kx⟩ ⟨.slice fa fn fcap, fn, fx⟩ ⟨.slice cha chn chcap, chn, chx⟩ r0 rest).cells) ∧ h'.blk h.sz = some (.cells zeroTb.cells) ∧
      h'.blk h2.sz = some (.cells [.string nm, .slice cva cn cvcap, .slice va ws.length vcap, w, .slice cha chn chcap]) ∧ s.1 ≤ fn ∧
      fs.length = s.1 ∧ (∀ f ∈ fs, Fo.At rd' f) ∧ Own h' (h2.sz + 1) 3 w s.1 (fs.flatMap Fo.cells) ∧ AvS rd' w) (0, 0)
    ⟨rd3, .slice none 0 0, [], RO.le.refl rd3, RO.old.refl _ _, H, G, l3, b1, b2, b3, Nat.zero_le _, rfl, fun f hf => by simp at hf, Own.nil _ _ _, AvS.nil rd3⟩ (by repeat first | exact sub_nil | refine sub_cons rfl ?_) ?_
  clear H b1 b2 b3 G l3
  rintro ⟨i, er⟩ hh ⟨rd4, w, fs, hle4, ho4, H, G, l3, b1, b2, b3, hi, hfl, hfs, o1, avs⟩
  simp only at hi hfl o1
  have l1 : h0.sz < hh.sz := by omega
  have l2 : h.sz < hh.sz := by omega
  have hz2 : Av rd4 (N + h.sz) := (hz2.old ho3 (by omega)).old ho4 (by omega)
  have hz3 : Av rd4 (N + h2.sz) := (hz3.old ho3 (by omega)).old ho4 (by omega)
  have hT6 : ∀ (hx : AH) (lim' : Nat) (rdx : RO), Hp N lim' rdx hx → rd4.le rdx → Own hx (h2.sz + 1) 3 w i (fs.flatMap Fo.cells) → Tb.At (rdAll hx) ⟨nm, ⟨.slice cva cn cvcap, cn, cx⟩, Sl.of (.slice va ws.length vcap) ws, Sl.of w fs, ⟨.slice cha chn chcap, chn, chx⟩⟩ := fun hx lim' rdx Hx hr ox => by
    have hall := hr.trans Hx.le_all
    have hall3 := hle4.trans hall
    have hall0 := hle3.trans hall3
    rw [← hfl] at ox
    exact ⟨hnm, hcols.mono hall0 (fun _ h => h), hkeys.mono hall3 (fun _ hx => hx.mono hall3), own_At ox (fun _ _ => rfl) (by omega) (fun f hf => (hfs f hf).mono hall), hchk.mono hall0 (fun _ hx => E.At.mono hall0 hx)⟩
  repeat first | refine qN ?_ | refine qM rfl ?_ | refine qA rfl ?_ | refine qS rfl ?_ | refine qL H b1 rfl ?_ | refine qT rfl ?_ | refine qF rfl ?_ | refine qI i (by omega) rfl ?_ | refine qI io (by omega) rfl ?_ | refine qP rfl ?_ | refine wQ ?_ | refine wR ?_ | refine wD ?_ | refine wN rfl ?_ | refine wS ?_
  refine WpB.cond rfl (fun ht => ?_) fun ht => ?_
  · have hlt : i < fn := by simpa using ht
    obtain ⟨b', off', rfl, hck⟩ := hfx i hlt
    have hf20 := t5 i hlt
    have hg20 := t6 i hlt
    have hfoi := hfo i hlt
    have heq := hlen i hlt
    cases hfi : fx i with
    | mk fcl ftb ftg =>
    rw [hfi] at hck hf20 hg20 hfoi heq
    simp only at hf20 hg20 heq
    obtain ⟨hf1, hf2, hf3⟩ := hfoi
    obtain ⟨aa, acap, hfv, _⟩ := hf1.2.1
    obtain ⟨gsa, gcap, hgv, _⟩ := hf3.2.1
    obtain ⟨fv', fn', fx'⟩ := fcl
    obtain ⟨gv, gn, gx⟩ := ftg
    simp only at hfv hgv hf1 hf2 hf3 hf20 hg20 heq
    subst hfv hgv
    have hck := hle4 _ _ _ _ (hle3 _ _ _ _ hck)
    refine WpB.skip ?_
    refine WpB.seq (WpB.block ?_)
    repeat first | refine qN ?_ | refine qM rfl ?_ | refine qA rfl ?_ | refine qS rfl ?_ | refine qL H b1 rfl ?_ | refine qT rfl ?_ | refine qF rfl ?_ | refine qI i (by omega) rfl ?_ | refine qI io (by omega) rfl ?_ | refine qP rfl ?_ | refine wQ ?_ | refine wR ?_ | refine wD ?_ | refine wN rfl ?_ | refine wS ?_
    refine SpB.indexN hlt rfl rfl rfl rfl rfl rfl rfl rfl rfl ?_
    refine SpB.loadR H hck rfl rfl rfl rfl rfl rfl rfl ?_
    refine SpB.alloc H rfl rfl rfl rfl rfl fun ha ga sa ba => ?_
    refine SpB.storeO (ga.hp H) ba (by omega) (by omega) rfl rfl rfl rfl rfl rfl rfl rfl rfl fun hb gb sb bb fb => ?_
    have GA : Grow hh hh.sz hb := ga.more gb (Nat.le_refl _)
    have HA := (GA.hp H).wide (L := hb.sz) (by omega) (Nat.le_refl _)
    have b4 : hb.blk hh.sz = some (.cells (Rf.mk ⟨.slice aa fn' acap, fn', fx'⟩ ftb ⟨.slice gsa gn gcap, gn, gx⟩).cells) := bb
    have G := G.more GA (by omega)
    have b1 := GA.keep l1 b1
    have b2 := GA.keep l2 b2
    have b3 := GA.keep l3 b3
    have o1 := o1.grow GA (Nat.le_refl _)
    have l4 : hh.sz < hb.sz := by omega
    clear ga gb fb bb GA H
    have H := HA
    repeat first | refine qN ?_ | refine qM rfl ?_ | refine qA rfl ?_ | refine qS rfl ?_ | refine qL H b1 rfl ?_ | refine qL H b2 rfl ?_ | refine qL H b3 rfl ?_ | refine qL H b4 rfl ?_ | refine qT rfl ?_ | refine qF rfl ?_ | refine qI i (by omega) rfl ?_ | refine qI io (by omega) rfl ?_ | refine qP rfl ?_ | refine wQ ?_ | refine wR ?_ | refine wD ?_ | refine wN rfl ?_ | refine wS ?_
    refine SpB.callK Tryz.T1OK H (by omega) (numbers_ok _ ⟨.slice aa fn' acap, fn', fx'⟩ hb H.all (hT6 hb _ rd4 H (RO.le.refl _) o1) (hf1.mono (hle3.trans (hle4.trans H.le_all))) (by show fn' ≤ _; omega)) rfl rfl rfl rfl rfl ?_
    rintro r hc ⟨v14, b14, rfl, hm⟩ g
    obtain ⟨rd5, l14, hle5, ho5, H5, hv14, hl14, hi14⟩ := numbers_res H g hm hcols.1 hf20
    obtain ⟨a14, c14, hs14, _⟩ := hl14.2.1
    rw [hs14] at hv14
    subst hv14
    have avs5 := avs.old o1 H.n ho5 (Nat.le_refl _)
    have G := G.more g (by omega)
    have b1 := g.keep (by omega) b1
    have b2 := g.keep (by omega) b2
    have b3 := g.keep (by omega) b3
    have b4 := g.keep (by omega) b4
    have o1 := o1.grow g (Nat.le_refl _)
    have l5 := g.le
    clear g H hm
    have H := H5
    repeat first | refine qN ?_ | refine qM rfl ?_ | refine qA rfl ?_ | refine qS rfl ?_ | refine qL H b1 rfl ?_ | refine qL H b2 rfl ?_ | refine qL H b3 rfl ?_ | refine qL H b4 rfl ?_ | refine qT rfl ?_ | refine qF rfl ?_ | refine qI i (by omega) rfl ?_ | refine qI io (by omega) rfl ?_ | refine qP rfl ?_ | refine wQ ?_ | refine wR ?_ | refine wD ?_ | refine wN rfl ?_ | refine wS ?_
    refine SpB.callK Tryz.T1OK H (by omega) (find_ok (Sl.of (.slice a9 us.length cap9) us) ftb hc H (Sl.sch.mono (hle4.trans hle5) hus)) rfl rfl rfl rfl rfl ?_
    rintro r hd ⟨m, b17, rfl, hm17⟩ g
    have H := g.hp H
    have G := G.more g (by omega)
    have b1 := g.keep (by omega) b1
    have b2 := g.keep (by omega) b2
    have b3 := g.keep (by omega) b3
    have b4 := g.keep (by omega) b4
    have o1 := o1.grow g (Nat.le_refl _)
    have l6 := g.le
    clear g H5
    repeat first | refine qN ?_ | refine qM rfl ?_ | refine qA rfl ?_ | refine qS rfl ?_ | refine qL H b1 rfl ?_ | refine qL H b2 rfl ?_ | refine qL H b3 rfl ?_ | refine qL H b4 rfl ?_ | refine qT rfl ?_ | refine qF rfl ?_ | refine qI i (by omega) rfl ?_ | refine qI io (by omega) rfl ?_ | refine qP rfl ?_ | refine wQ ?_ | refine wR ?_ | refine wD ?_ | refine wN rfl ?_ | refine wS ?_
    cases b14 with
    | false =>
      repeat first | refine qN ?_ | refine qM rfl ?_ | refine qA rfl ?_ | refine qS rfl ?_ | refine qL H b1 rfl ?_ | refine qT rfl ?_ | refine qF rfl ?_ | refine qI i (by omega) rfl ?_ | refine qI io (by omega) rfl ?_ | refine qP rfl ?_ | refine wQ ?_ | refine wR ?_ | refine wD ?_ | refine wN rfl ?_ | refine wS ?_ | refine wT rfl ?_ | refine wF rfl ?_
      refine SpB.storeO H b2 (by omega) (by omega) rfl rfl rfl rfl rfl rfl rfl rfl rfl fun h7 g7 s7 b7 f7 => ?_
      repeat first | refine qN ?_ | refine qM rfl ?_ | refine qA rfl ?_ | refine qS rfl ?_ | refine qL H b1 rfl ?_ | refine qT rfl ?_ | refine qF rfl ?_ | refine qI i (by omega) rfl ?_ | refine qI io (by omega) rfl ?_ | refine qP rfl ?_ | refine wQ ?_ | refine wR ?_ | refine wD ?_ | refine wN rfl ?_ | refine wS ?_ | refine wT rfl ?_ | refine wF rfl ?_
      exact WpB.ret ⟨_, resC1 rfl (partO (off := 0) (v := .agg ⟨zeroTb.cells⟩) (g7.n.trans H.n) b7 rfl) rfl rfl rfl, ⟨zeroTb, 4, rfl, zeroTb_at _⟩, by omega⟩
    | true =>
    cases b17 with
    | false =>
      repeat first | refine qN ?_ | refine qM rfl ?_ | refine qA rfl ?_ | refine qS rfl ?_ | refine qL H b1 rfl ?_ | refine qT rfl ?_ | refine qF rfl ?_ | refine qI i (by omega) rfl ?_ | refine qI io (by omega) rfl ?_ | refine qP rfl ?_ | refine wQ ?_ | refine wR ?_ | refine wD ?_ | refine wN rfl ?_ | refine wS ?_ | refine wT rfl ?_ | refine wF rfl ?_
      refine SpB.storeO H b2 (by omega) (by omega) rfl rfl rfl rfl rfl rfl rfl rfl rfl fun h7 g7 s7 b7 f7 => ?_
      repeat first | refine qN ?_ | refine qM rfl ?_ | refine qA rfl ?_ | refine qS rfl ?_ | refine qL H b1 rfl ?_ | refine qT rfl ?_ | refine qF rfl ?_ | refine qI i (by omega) rfl ?_ | refine qI io (by omega) rfl ?_ | refine qP rfl ?_ | refine wQ ?_ | refine wR ?_ | refine wD ?_ | refine wN rfl ?_ | refine wS ?_ | refine wT rfl ?_ | refine wF rfl ?_
      exact WpB.ret ⟨_, resC1 rfl (partO (off := 0) (v := .agg ⟨zeroTb.cells⟩) (g7.n.trans H.n) b7 rfl) rfl rfl rfl, ⟨zeroTb, 4, rfl, zeroTb_at _⟩, by omega⟩
    | true =>
    have hm17 := hm17 rfl
    obtain ⟨hn14, hi14⟩ := hi14 rfl
    obtain ⟨_, ⟨sa, scap, hsv, _, _, husx⟩, huso⟩ := hus
    obtain ⟨b9, off9, hsa, hc9⟩ := husx m hm17
    have husm := huso m hm17
    simp only [Sl.of] at hsv hc9 husm
    injection hsv with hsv1 hsv2 hsv3
    subst hsv1
    subst hsa
    have hc9 := hle5 _ _ _ _ (hle4 _ _ _ _ hc9)
    have husm := husm.mono (hle4.trans hle5)
    cases htm : us.getD m default with
    | mk nm2 cols2 keys2 fors2 chk2 =>
    rw [htm] at hc9 husm
    obtain ⟨hk2, ⟨k2a, k2cap, hk2v, _, _, hk2x⟩, hk2o⟩ := husm.keys
    obtain ⟨k2v, k2n, k2x⟩ := keys2
    simp only at hk2v hk2x hk2o hk2
    subst hk2v
    repeat first | refine qN ?_ | refine qM rfl ?_ | refine qA rfl ?_ | refine qS rfl ?_ | refine qL H b1 rfl ?_ | refine qL H b2 rfl ?_ | refine qL H b3 rfl ?_ | refine qL H b4 rfl ?_ | refine qT rfl ?_ | refine qF rfl ?_ | refine qI i (by omega) rfl ?_ | refine qI io (by omega) rfl ?_ | refine qP rfl ?_ | refine wQ ?_ | refine wR ?_ | refine wD ?_ | refine wN rfl ?_ | refine wS ?_ | refine wT rfl ?_ | refine wF rfl ?_
    refine SpB.indexN hm17 rfl rfl rfl rfl rfl rfl rfl rfl rfl ?_
    refine SpB.loadR H hc9 rfl rfl rfl rfl rfl rfl rfl ?_
    repeat first | refine qN ?_ | refine qM rfl ?_ | refine qA rfl ?_ | refine qS rfl ?_ | refine qL H b1 rfl ?_ | refine qL H b2 rfl ?_ | refine qL H b3 rfl ?_ | refine qL H b4 rfl ?_ | refine qT rfl ?_ | refine qF rfl ?_ | refine qI i (by omega) rfl ?_ | refine qI io (by omega) rfl ?_ | refine qP rfl ?_ | refine wQ ?_ | refine wR ?_ | refine wD ?_ | refine wN rfl ?_ | refine wS ?_
    refine SpB.callK Tryz.T1OK H (by omega) (numbers_ok ⟨nm2, cols2, ⟨.slice k2a k2n k2cap, k2n, k2x⟩, fors2, chk2⟩ ⟨.slice gsa gn gcap, gn, gx⟩ hd H husm (hf3.mono (hle3.trans (hle4.trans hle5))) (by show gn ≤ _; omega)) rfl rfl rfl rfl rfl ?_
    rintro r he ⟨v18, b18, rfl, hm⟩ g
    obtain ⟨rd6, l18, hle6, ho6, H6, hv18, hl18, hi18⟩ := numbers_res (H.wide (L := hd.sz) (by omega) (Nat.le_refl _)) g hm husm.cols.1 hg20
    obtain ⟨a18, c18, hs18, _⟩ := hl18.2.1
    rw [hs18] at hv18
    subst hv18
    have avs6 := avs5.old o1 H.n ho6 (Nat.le_refl _)
    have G := G.more g (by omega)
    have b1 := g.keep (by omega) b1
    have b2 := g.keep (by omega) b2
    have b3 := g.keep (by omega) b3
    have b4 := g.keep (by omega) b4
    have o1 := o1.grow g (Nat.le_refl _)
    have l7 := g.le
    clear g H hm
    have H := H6
    have hc9 := hle6 _ _ _ _ hc9
    have hl14 := hl14.mono hle6
    have husm := husm.mono hle6
    have hk2o : ∀ j, j < k2n → Sl.ints rd6 (k2x j) := fun j hj => (hk2o j hj).mono hle6
    have hr5 := hle4.trans (hle5.trans hle6)
    clear H6
    repeat first | refine qN ?_ | refine qM rfl ?_ | refine qA rfl ?_ | refine qS rfl ?_ | refine qL H b1 rfl ?_ | refine qL H b2 rfl ?_ | refine qL H b3 rfl ?_ | refine qL H b4 rfl ?_ | refine qT rfl ?_ | refine qF rfl ?_ | refine qI i (by omega) rfl ?_ | refine qI io (by omega) rfl ?_ | refine qP rfl ?_ | refine wQ ?_ | refine wR ?_ | refine wD ?_ | refine wN rfl ?_ | refine wS ?_
    refine WpB.block ?_
    refine WpB.loopS (σ := Nat × Int) (fun s => k2n - s.1) (fun s => [(21, .int .i64 (s.1 : Int)), (20, .int .i64 s.2), (19, .bool b18), (18, .slice a18 l18.n c18), (16, .int .i64 (m : Int)), (14, .slice a14 l14.n c14), (12, .int .i64 (i : Int)), (11, .int .i64 er), (10, .slice (some ⟨b9, off9, none⟩) us.length cap9), (3, .pointer (some ⟨N + h0.sz, 0, none⟩)), (4, .pointer (some ⟨N + h.sz, 0, none⟩)), (6, .pointer (some ⟨N + h2.sz, 0, none⟩))])
      (fun s h' => Grow he he.sz h' ∧ s.1 ≤ k2n ∧ (s.2 = -1 ∨ (b18 = true ∧ 0 ≤ s.2 ∧ s.2 < (k2n : Int)))) (0, -1) ⟨Grow.refl H.wf _, Nat.zero_le _, .inl rfl⟩ (by repeat first | exact sub_nil | refine sub_cons rfl ?_) ?_
    rintro ⟨io, kk⟩ hg ⟨g, hj, hkk⟩
    simp only at hj hkk
    have H := g.hp H
    have hgle := g.le
    have hreach : reachBytes < 2 ^ 47 := by decide
    have hH := (H.ext _ _ _ _ hc9).2
    repeat first | refine qN ?_ | refine qM rfl ?_ | refine qA rfl ?_ | refine qS rfl ?_ | refine qL H b1 rfl ?_ | refine qT rfl ?_ | refine qF rfl ?_ | refine qI i (by omega) rfl ?_ | refine qI io (by omega) rfl ?_ | refine qP rfl ?_ | refine wQ ?_ | refine wR ?_ | refine wD ?_ | refine wN rfl ?_ | refine wS ?_
    refine SpB.indexN hm17 rfl rfl rfl rfl rfl rfl rfl rfl rfl ?_
    repeat first | refine qN ?_ | refine qM rfl ?_ | refine qA rfl ?_ | refine qS rfl ?_ | refine qL H b1 rfl ?_ | refine qT rfl ?_ | refine qF rfl ?_ | refine qI i (by omega) rfl ?_ | refine qI io (by omega) rfl ?_ | refine qP rfl ?_ | refine wQ ?_ | refine wR ?_ | refine wD ?_ | refine wN rfl ?_ | refine wS ?_
    refine SpB.load (v := .slice k2a k2n k2cap) rfl rfl rfl (loadT_cell rfl rfl (cell_at hH (j := 2) rfl)) rfl rfl ?_
    repeat first | refine qN ?_ | refine qM rfl ?_ | refine qA rfl ?_ | refine qS rfl ?_ | refine qL H b1 rfl ?_ | refine qT rfl ?_ | refine qF rfl ?_ | refine qI i (by omega) rfl ?_ | refine qI io (by omega) rfl ?_ | refine qP rfl ?_ | refine wQ ?_ | refine wR ?_ | refine wD ?_ | refine wN rfl ?_ | refine wS ?_
    refine WpB.cond rfl (fun ht => ?_) fun ht => ?_
    · have hlj : io < k2n := by simpa using ht
      obtain ⟨b2k, off2k, hk2a, hck2⟩ := hk2x io hlj
      subst hk2a
      have hck2 := hle6 _ _ _ _ hck2
      refine WpB.skip ?_
      refine WpB.seq (WpB.block ?_)
      cases b18 with
      | false =>
        repeat first | refine qN ?_ | refine qM rfl ?_ | refine qA rfl ?_ | refine qS rfl ?_ | refine qL H b1 rfl ?_ | refine qT rfl ?_ | refine qF rfl ?_ | refine qI i (by omega) rfl ?_ | refine qI io (by omega) rfl ?_ | refine qP rfl ?_ | refine wQ ?_ | refine wR ?_ | refine wD ?_ | refine wN rfl ?_ | refine wS ?_ | refine wT rfl ?_ | refine wF rfl ?_
        refine ⟨(io + 1, kk), by show k2n - (io + 1) < k2n - io; omega, (by repeat first | exact sub_nil | refine sub_cons rfl ?_), ⟨g, hlj, hkk⟩, rfl⟩
      | true =>
        repeat first | refine qN ?_ | refine qM rfl ?_ | refine qA rfl ?_ | refine qS rfl ?_ | refine qL H b1 rfl ?_ | refine qT rfl ?_ | refine qF rfl ?_ | refine qI i (by omega) rfl ?_ | refine qI io (by omega) rfl ?_ | refine qP rfl ?_ | refine wQ ?_ | refine wR ?_ | refine wD ?_ | refine wN rfl ?_ | refine wS ?_
        refine SpB.indexN hm17 rfl rfl rfl rfl rfl rfl rfl rfl rfl ?_
        repeat first | refine qN ?_ | refine qM rfl ?_ | refine qA rfl ?_ | refine qS rfl ?_ | refine qL H b1 rfl ?_ | refine qT rfl ?_ | refine qF rfl ?_ | refine qI i (by omega) rfl ?_ | refine qI io (by omega) rfl ?_ | refine qP rfl ?_ | refine wQ ?_ | refine wR ?_ | refine wD ?_ | refine wN rfl ?_ | refine wS ?_
        refine SpB.load (v := .slice (some ⟨b2k, off2k, none⟩) k2n k2cap) rfl rfl rfl (loadT_cell rfl rfl (cell_at hH (j := 2) rfl)) rfl rfl ?_
        repeat first | refine qN ?_ | refine qM rfl ?_ | refine qA rfl ?_ | refine qS rfl ?_ | refine qL H b1 rfl ?_ | refine qT rfl ?_ | refine qF rfl ?_ | refine qI i (by omega) rfl ?_ | refine qI io (by omega) rfl ?_ | refine qP rfl ?_ | refine wQ ?_ | refine wR ?_ | refine wD ?_ | refine wN rfl ?_ | refine wS ?_
        refine SpB.indexN hlj rfl rfl rfl rfl rfl rfl rfl rfl rfl ?_
        refine SpB.loadRC H hck2 rfl rfl rfl rfl rfl rfl rfl ?_
        repeat first | refine qN ?_ | refine qM rfl ?_ | refine qA rfl ?_ | refine qS rfl ?_ | refine qL H b1 rfl ?_ | refine qT rfl ?_ | refine qF rfl ?_ | refine qI i (by omega) rfl ?_ | refine qI io (by omega) rfl ?_ | refine qP rfl ?_ | refine wQ ?_ | refine wR ?_ | refine wD ?_ | refine wN rfl ?_ | refine wS ?_
        have hI := ints_ok (k2x io) l18 hg H (hk2o io hlj) hl18
        rw [hs18] at hI
        refine SpB.callK Tryz.T1OK H (by omega) hI rfl rfl rfl rfl rfl ?_
        rintro r hg2 ⟨bq, rfl⟩ g2
        have g := g.more g2 (by omega)
        clear hI
        repeat first | refine qN ?_ | refine qM rfl ?_ | refine qA rfl ?_ | refine qS rfl ?_ | refine qL H b1 rfl ?_ | refine qT rfl ?_ | refine qF rfl ?_ | refine qI i (by omega) rfl ?_ | refine qI io (by omega) rfl ?_ | refine qP rfl ?_ | refine wQ ?_ | refine wR ?_ | refine wD ?_ | refine wN rfl ?_ | refine wS ?_
        refine WpB.cond rfl (fun ht => ?_) fun ht => ?_
        · repeat first | refine qN ?_ | refine qM rfl ?_ | refine qA rfl ?_ | refine qS rfl ?_ | refine qL H b1 rfl ?_ | refine qT rfl ?_ | refine qF rfl ?_ | refine qI i (by omega) rfl ?_ | refine qI io (by omega) rfl ?_ | refine qP rfl ?_ | refine wQ ?_ | refine wR ?_ | refine wD ?_ | refine wN rfl ?_ | refine wS ?_
          exact ⟨(io + 1, (io : Int)), by show k2n - (io + 1) < k2n - io; omega, (by repeat first | exact sub_nil | refine sub_cons rfl ?_), ⟨g, hlj, .inr ⟨rfl, by omega, by show (io : Int) < _; omega⟩⟩, rfl⟩
        · repeat first | refine qN ?_ | refine qM rfl ?_ | refine qA rfl ?_ | refine qS rfl ?_ | refine qL H b1 rfl ?_ | refine qT rfl ?_ | refine qF rfl ?_ | refine qI i (by omega) rfl ?_ | refine qI io (by omega) rfl ?_ | refine qP rfl ?_ | refine wQ ?_ | refine wR ?_ | refine wD ?_ | refine wN rfl ?_ | refine wS ?_
          exact ⟨(io + 1, kk), by show k2n - (io + 1) < k2n - io; omega, (by repeat first | exact sub_nil | refine sub_cons rfl ?_), ⟨g, hlj, hkk⟩, rfl⟩
    · refine WpB.exit ?_
      have hsz := g.le
      have G := G.more g (by omega)
      have b1 := g.keep (by omega) b1
      have b2 := g.keep (by omega) b2
      have b3 := g.keep (by omega) b3
      have o1 := o1.grow g (Nat.le_refl _)
      repeat first | refine qN ?_ | refine qM rfl ?_ | refine qA rfl ?_ | refine qS rfl ?_ | refine qL H b1 rfl ?_ | refine qT rfl ?_ | refine qF rfl ?_ | refine qI i (by omega) rfl ?_ | refine qI io (by omega) rfl ?_ | refine qP rfl ?_ | refine wQ ?_ | refine wR ?_ | refine wD ?_ | refine wN rfl ?_ | refine wS ?_
      refine WpB.cond rfl (fun ht => ?_) fun ht => ?_
      · repeat first | refine qN ?_ | refine qM rfl ?_ | refine qA rfl ?_ | refine qS rfl ?_ | refine qL H b1 rfl ?_ | refine qT rfl ?_ | refine qF rfl ?_ | refine qI i (by omega) rfl ?_ | refine qI io (by omega) rfl ?_ | refine qP rfl ?_ | refine wQ ?_ | refine wR ?_ | refine wD ?_ | refine wN rfl ?_ | refine wS ?_
        refine SpB.storeO H b2 (by omega) (by omega) rfl rfl rfl rfl rfl rfl rfl rfl rfl fun h7 g7 s7 b7 f7 => ?_
        repeat first | refine qN ?_ | refine qM rfl ?_ | refine qA rfl ?_ | refine qS rfl ?_ | refine qL H b1 rfl ?_ | refine qT rfl ?_ | refine qF rfl ?_ | refine qI i (by omega) rfl ?_ | refine qI io (by omega) rfl ?_ | refine qP rfl ?_ | refine wQ ?_ | refine wR ?_ | refine wD ?_ | refine wN rfl ?_ | refine wS ?_ | refine wT rfl ?_ | refine wF rfl ?_
        exact WpB.ret ⟨_, resC1 rfl (partO (off := 0) (v := .agg ⟨zeroTb.cells⟩) (g7.n.trans H.n) b7 rfl) rfl rfl rfl, ⟨zeroTb, 4, rfl, zeroTb_at _⟩, by omega⟩
      have hkk0 : ¬ kk < 0 := of_decide_eq_false ht
      obtain ⟨rfl, hk0, hk1⟩ := hkk.resolve_left (by omega)
      obtain ⟨hn18, hi18⟩ := hi18 rfl
      simp only at hn14 hn18
      have hall := H.le_all
      have hT := types_ok _ ⟨nm2, cols2, ⟨.slice k2a k2n k2cap, k2n, k2x⟩, fors2, chk2⟩ l14 l18 hg H.all (hT6 hg _ rd6 H (hle5.trans hle6) o1) (husm.mono hall) (hl14.mono hall) (hl18.mono hall) (by omega) hi14 hi18
      rw [hs14, hs18] at hT
      repeat first | refine qN ?_ | refine qM rfl ?_ | refine qA rfl ?_ | refine qS rfl ?_ | refine qL H b1 rfl ?_ | refine qL H b2 rfl ?_ | refine qL H b3 rfl ?_ | refine qT rfl ?_ | refine qF rfl ?_ | refine qI i (by omega) rfl ?_ | refine qI io (by omega) rfl ?_ | refine qP rfl ?_ | refine wQ ?_ | refine wR ?_ | refine wD ?_ | refine wN rfl ?_ | refine wS ?_
      refine SpB.indexN hm17 rfl rfl rfl rfl rfl rfl rfl rfl rfl ?_
      refine SpB.loadR H hc9 rfl rfl rfl rfl rfl rfl rfl ?_
      repeat first | refine qN ?_ | refine qM rfl ?_ | refine qA rfl ?_ | refine qS rfl ?_ | refine qL H b1 rfl ?_ | refine qT rfl ?_ | refine qF rfl ?_ | refine qI i (by omega) rfl ?_ | refine qI io (by omega) rfl ?_ | refine qP rfl ?_ | refine wQ ?_ | refine wR ?_ | refine wD ?_ | refine wN rfl ?_ | refine wS ?_
      refine SpB.callK Tryz.T1OK H (by omega) hT rfl rfl rfl rfl rfl ?_
      rintro r hk ⟨bt, rfl⟩ g2
      have H := g2.hp H
      have hszk := g2.le
      have G := G.more g2 (by omega)
      have b1 := g2.keep (by omega) b1
      have b2 := g2.keep (by omega) b2
      have b3 := g2.keep (by omega) b3
      have o1 := o1.grow g2 (Nat.le_refl _)
      have avs7 := avs6
      clear hT g g2
      repeat first | refine qN ?_ | refine qM rfl ?_ | refine qA rfl ?_ | refine qS rfl ?_ | refine qL H b1 rfl ?_ | refine qT rfl ?_ | refine qF rfl ?_ | refine qI i (by omega) rfl ?_ | refine qI io (by omega) rfl ?_ | refine qP rfl ?_ | refine wQ ?_ | refine wR ?_ | refine wD ?_ | refine wN rfl ?_ | refine wS ?_
      refine WpB.cond rfl (fun ht => ?_) fun ht => ?_
      all_goals
        repeat first | refine qN ?_ | refine qM rfl ?_ | refine qA rfl ?_ | refine qS rfl ?_ | refine qL H b1 rfl ?_ | refine qL H b2 rfl ?_ | refine qL H b3 rfl ?_ | refine qT rfl ?_ | refine qF rfl ?_ | refine qI i (by omega) rfl ?_ | refine qI io (by omega) rfl ?_ | refine qP rfl ?_ | refine wQ ?_ | refine wR ?_ | refine wD ?_ | refine wN rfl ?_ | refine wS ?_
        refine SpB.newS H rfl rfl rfl rfl rfl fun h9 g9 s9 b9 => ?_
        have H9 := g9.hp H
        have G := G.more g9 (by omega)
        have b1 := g9.keep (by omega) b1
        have b2 := g9.keep (by omega) b2
        have b3 := g9.keep (by omega) b3
        have o1 := o1.grow g9 (Nat.le_refl _)
        have o9 : Own h9 hk.sz 3 (.slice (some ⟨N + hk.sz, 0, none⟩) 1 1) 1 [.slice a14 l14.n c14, .int .i64 (m : Int), .int .i64 kk] := .inr ⟨hk.sz, 1, Nat.le_refl _, by omega, by rw [H9.n], b9, rfl, .inr ⟨rfl, by decide⟩⟩
        refine SpB.appendA (st := 73) (xt := 73) H9 o1 avs7 o9.src rfl (by omega) (by omega) (show (i + 1) * 40 ≤ 70368744177664 by omega) rfl rfl rfl rfl rfl rfl rfl rfl rfl rfl rfl rfl rfl rfl ?_
        intro v3 h10 acc o3 g10 H10 avs10
        have l10 := g10.le
        have G := G.more g10 (by omega)
        have b1 := g10.keepL (by omega) (by omega) b1
        have b2 := g10.keepL (by omega) (by omega) b2
        have b3 := g10.keepL (by omega) (by omega) b3
        obtain ⟨va3, vcap3, hv3, _⟩ := o3.shape
        subst hv3
        repeat first | refine qN ?_ | refine qM rfl ?_ | refine qA rfl ?_ | refine qS rfl ?_ | refine qL H b1 rfl ?_ | refine qT rfl ?_ | refine qF rfl ?_ | refine qI i (by omega) rfl ?_ | refine qI io (by omega) rfl ?_ | refine qP rfl ?_ | refine wQ ?_ | refine wR ?_ | refine wD ?_ | refine wN rfl ?_ | refine wS ?_
        refine SpB.storeO H10 b3 (by omega) (by omega) rfl rfl rfl rfl rfl rfl rfl rfl rfl fun h11 g11 s11 b11 f11 => ?_
        have hav3 : Av rd6 (N + h2.sz) := (hz3.old ho5 (by omega)).old ho6 (by omega)
        have H11 := (H10.put g11 f11 hav3).wide (L := h11.sz) (by omega) (Nat.le_refl _)
        have G := G.more g11 (by omega)
        repeat first | refine qN ?_ | refine qM rfl ?_ | refine qA rfl ?_ | refine qS rfl ?_ | refine qL H b1 rfl ?_ | refine qT rfl ?_ | refine qF rfl ?_ | refine qI i (by omega) rfl ?_ | refine qI io (by omega) rfl ?_ | refine qP rfl ?_ | refine wQ ?_ | refine wR ?_ | refine wD ?_ | refine wN rfl ?_ | refine wS ?_
        have hfin : ∃ (rd' : RO) (w : Value) (fs : List Fo), rd3.le rd' ∧ rd3.old rd' (N + (h2.sz + 1)) ∧ Hp N h11.sz rd' h11 ∧ Grow h0 h0.sz h11 ∧ h2.sz < h11.sz ∧
            h11.blk h0.sz = some (.cells (Stm.mk kd nm ⟨.slice cva cn cvcap, cn, cx⟩ ⟨.slice ka ws.length kcap, ws.length, kx⟩ ⟨.slice (some ⟨b', off', none⟩) fn fcap, fn, fx⟩ ⟨.slice cha chn chcap, chn, chx⟩ r0 rest).cells) ∧ h11.blk h.sz = some (.cells zeroTb.cells) ∧
            h11.blk h2.sz = some (.cells [.string nm, .slice cva cn cvcap, .slice va ws.length vcap, w, .slice cha chn chcap]) ∧ i + 1 ≤ fn ∧
            fs.length = i + 1 ∧ (∀ f ∈ fs, Fo.At rd' f) ∧ Own h11 (h2.sz + 1) 3 w (i + 1) (fs.flatMap Fo.cells) ∧ AvS rd' w :=
          ⟨rd6, _, fs ++ [⟨l14, (m : Int), kk⟩], hr5, ho4.trans (ho5.trans ho6 (by omega)) (by omega), H11, G, by omega, (f11 _ (by omega)).trans b1, (f11 _ (by omega)).trans b2, b11, hlt, by simp [hfl], fun f hf => by
            rcases List.mem_append.1 hf with hf | hf
            · exact (hfs f hf).mono (hle5.trans hle6)
            · simp only [List.mem_singleton] at hf
              rw [hf]
              refine ⟨hl14, ?_, ?_⟩
              · have := husn; have : m < us.length := hm17; show -9223372036854775808 ≤ (m : Int) ∧ (m : Int) ≤ 9223372036854775807; omega
              · have hreach : reachBytes < 2 ^ 47 := by decide
                show -9223372036854775808 ≤ kk ∧ kk ≤ 9223372036854775807; omega,
            by
              have := o3.put g11 f11 (Nat.lt_succ_self _)
              simpa [Fo.cells, hs14] using this, avs10⟩
        exact ⟨(i + 1, bif !bt then 6 else er), by show fn - (i + 1) < fn - i; omega, by (rw [ht]; repeat first | exact sub_nil | refine sub_cons rfl ?_), hfin, rfl⟩
  · refine WpB.exit ?_
    have hge : ¬ i < fn := by simpa using ht
    obtain rfl : i = fn := by omega
    repeat first | refine qN ?_ | refine qM rfl ?_ | refine qA rfl ?_ | refine qS rfl ?_ | refine qL H b1 rfl ?_ | refine qT rfl ?_ | refine qF rfl ?_ | refine qI i (by omega) rfl ?_ | refine qI io (by omega) rfl ?_ | refine qP rfl ?_ | refine wQ ?_ | refine wR ?_ | refine wD ?_ | refine wN rfl ?_ | refine wS ?_
    refine WpB.cond rfl (fun ht => ?_) fun ht => ?_
    · repeat first | refine qN ?_ | refine qM rfl ?_ | refine qA rfl ?_ | refine qS rfl ?_ | refine qL H b1 rfl ?_ | refine qT rfl ?_ | refine qF rfl ?_ | refine qI i (by omega) rfl ?_ | refine qI io (by omega) rfl ?_ | refine qP rfl ?_ | refine wQ ?_ | refine wR ?_ | refine wD ?_ | refine wN rfl ?_ | refine wS ?_
      refine SpB.storeO H b2 (by omega) (by omega) rfl rfl rfl rfl rfl rfl rfl rfl rfl fun h7 g7 s7 b7 f7 => ?_
      repeat first | refine qN ?_ | refine qM rfl ?_ | refine qA rfl ?_ | refine qS rfl ?_ | refine qL H b1 rfl ?_ | refine qT rfl ?_ | refine qF rfl ?_ | refine qI i (by omega) rfl ?_ | refine qI io (by omega) rfl ?_ | refine qP rfl ?_ | refine wQ ?_ | refine wR ?_ | refine wD ?_ | refine wN rfl ?_ | refine wS ?_ | refine wT rfl ?_ | refine wF rfl ?_
      exact WpB.ret ⟨_, resC1 rfl (partO (off := 0) (v := .agg ⟨zeroTb.cells⟩) (g7.n.trans H.n) b7 rfl) rfl rfl rfl, ⟨zeroTb, er, rfl, zeroTb_at _⟩, by omega⟩
    · subst hfl
      obtain ⟨rd5, hle5, H5, hfors, ho5⟩ := own_keep (ok := fun r x => Fo.At r x) H o1 avs (fun _ _ => rfl) (by omega) hfs (fun r r' hr x hx => hx.mono hr)
      have hz2 : Av rd5 (N + h.sz) := hz2.old ho5 (by omega)
      repeat first | refine qN ?_ | refine qM rfl ?_ | refine qA rfl ?_ | refine qS rfl ?_ | refine qL H b1 rfl ?_ | refine qL H b2 rfl ?_ | refine qL H b3 rfl ?_ | refine qT rfl ?_ | refine qF rfl ?_ | refine qI i (by omega) rfl ?_ | refine qI io (by omega) rfl ?_ | refine qP rfl ?_ | refine wQ ?_ | refine wR ?_ | refine wD ?_ | refine wN rfl ?_ | refine wS ?_
      refine SpB.storeO H5 b2 (by omega) (by omega) rfl rfl rfl rfl rfl rfl rfl rfl rfl fun h7 g7 s7 b7 f7 => ?_
      have H7 := H5.put g7 f7 hz2
      have hr : rd5.le (rdNew N h0.sz h7 rd) := le_rdNew (lim := hh.sz) H7 (((ho3.low (by omega)).trans (ho4.low (B := N + h0.sz) (by omega)) (Nat.le_refl _)).trans (ho5.low (by omega)) (Nat.le_refl _))
      have hr4 := hle4.trans (hle5.trans hr)
      have hr3 := hle3.trans hr4
      repeat first | refine qN ?_ | refine qM rfl ?_ | refine qA rfl ?_ | refine qS rfl ?_ | refine qL H b1 rfl ?_ | refine qT rfl ?_ | refine qF rfl ?_ | refine qI i (by omega) rfl ?_ | refine qI io (by omega) rfl ?_ | refine qP rfl ?_ | refine wQ ?_ | refine wR ?_ | refine wD ?_ | refine wN rfl ?_ | refine wS ?_ | refine wT rfl ?_ | refine wF rfl ?_
      exact WpB.ret ⟨_, resC1 rfl (partO (off := 0) (v := .agg ⟨(Tb.mk nm ⟨.slice cva cn cvcap, cn, cx⟩ (Sl.of (.slice va ws.length vcap) ws) (Sl.of w fs) ⟨.slice cha chn chcap, chn, chx⟩).cells⟩) (g7.n.trans H.n) b7 rfl) rfl rfl rfl, ⟨_, 0, rfl, ⟨hnm, hcols.mono hr3 (fun _ h => h), hkeys.mono hr4 (fun _ hx => hx.mono hr4), hfors.mono hr (fun _ hx => hx.mono hr), hchk.mono hr3 (fun _ hx => E.At.mono hr3 hx)⟩⟩, by omega⟩

end Go.Proofs.YtkjkcoemloakhaaGreat
end

section
set_option linter.unusedVariables false
set_option linter.unusedSimpArgs false
namespace Go.Vae
open Go

theorem lcut_of {α : Type} : ∀ (l : List α) (i n : Nat) (r : List α), r.length = n → i + n ≤ l.length → (∀ j, j < n → r[j]? = l[i + j]?) → lcut l i n = some r
  | l, 0, 0, r, h1, _, _ => by
    obtain rfl := List.eq_nil_of_length_eq_zero h1
    cases l <;> rfl
  | [], 0, n + 1, r, _, h2, _ => by simp at h2
  | x :: xs, 0, n + 1, r, h1, h2, h3 => by
    cases r with
    | nil => simp at h1
    | cons y r =>
      have h0 := h3 0 (by omega)
      simp at h0
      subst h0
      rw [lcut, lcut_of xs 0 n r (by simpa using h1) (by simp at h2; omega) (fun j hj => by
        have := h3 (j + 1) (by omega)
        rw [List.getElem?_cons_succ, show 0 + (j + 1) = (0 + j) + 1 by omega, List.getElem?_cons_succ] at this
        exact this)]
      rfl
  | [], i + 1, n, r, h1, h2, h3 => by simp at h2
  | x :: xs, i + 1, n, r, h1, h2, h3 => by
    rw [lcut]
    exact lcut_of xs i n r h1 (by simp at h2; omega) fun j hj => by
      have := h3 j hj
      rwa [show i + 1 + j = (i + j) + 1 by omega, List.getElem?_cons_succ] at this

theorem lcut_lcut {α : Type} {l r s : List α} {i n j k : Nat} (h1 : lcut l i n = some r) (h2 : lcut r j k = some s) : lcut l (i + j) k = some s := by
  obtain ⟨a1, a2, a3⟩ := lcut_spec _ _ _ _ h1
  obtain ⟨b1, b2, b3⟩ := lcut_spec _ _ _ _ h2
  exact lcut_of _ _ _ _ b1 (by omega) fun x hx => by
    rw [b3 x hx, a3 (j + x) (by omega), Nat.add_assoc]

theorem cut_at {h : AH} {b off m : Nat} {cs : List Value} (hc : h.cut b off m = some cs) {j k : Nat} {ds : List Value} (hd : lcut cs j k = some ds) : h.cut b (off + j) k = some ds := by
  obtain ⟨d1, d2, d3⟩ := lcut_spec _ _ _ _ hd
  unfold AH.cut at hc ⊢
  cases hb : Nat.blt b h.n with
  | true =>
    rw [hb] at hc
    simp only [cond] at hc ⊢
    obtain ⟨c1, c2⟩ := roCells_spec _ _ _ _ hc
    have := roCells_of (ro := h.ro b) ds (off + j) fun x v hv => by
      have hx : x < ds.length := (List.getElem?_eq_some_iff.1 hv).1
      rw [Nat.add_assoc]
      exact c2 (j + x) v (by rw [← d3 x (by omega)]; exact hv)
    rwa [d1] at this
  | false =>
    rw [hb] at hc
    simp only [cond] at hc ⊢
    split at hc
    · rename_i row hrow
      try simp only [hrow]
      exact lcut_lcut hc hd
    · cases hc

/-- A struct inside a known piece. -/
theorem loadT_part {T : Tabs} {h : AH} {t : TypeId} {ti : TI} {b off m : Nat} {cs : List Value} (hc : h.cut b off m = some cs) {j : Nat} {ds : List Value} (ht : T.ty t = some ti) (ha : ti.agg = true) (hd : lcut cs j ti.size = some ds) : loadT T h t b (off + j) = some (.agg ⟨ds⟩) :=
  loadT_cut ht ha (cut_at hc hd)

/-- A cell inside a known piece. -/
theorem loadT_one {T : Tabs} {h : AH} {t : TypeId} {ti : TI} {b off m : Nat} {cs : List Value} (hc : h.cut b off m = some cs) {j : Nat} {v : Value} (ht : T.ty t = some ti) (ha : ti.agg = false) (hv : cs[j]? = some v) : loadT T h t b (off + j) = some v :=
  loadT_cell ht ha (cell_at hc hv)

end Go.Vae
end

section
set_option linter.unusedVariables false
namespace Go.Proofs.YtkjkcoemloakhaaGreat
open Go Go.Vae
set_option maxRecDepth 100000

def buildR : Value → AH → Prop := fun v _ => ∃ (a : Value) (b c : Int), v = .tuple #[a, .int .i64 b, .int .i64 c]

set_option maxHeartbeats 1600000 in
theorem build_ok {N lim : Nat} {rd : RO} (l : Sl Stm) (h0 : AH) (H : Hp N lim rd h0) (hl : l.At rd 22 Stm.cells (fun x => x.At rd ∧ StS x)) (hn : l.n ≤ 100) : Kp TT 54 [l.v] h0 buildR := by
  obtain ⟨lv, ln, lx⟩ := l
  obtain ⟨_, ⟨la, lcap, hlv, _, _, hlx⟩, hlo⟩ := hl
  simp only at hlv hlx hlo hn
  subst hlv
  refine Kp.of (fi := Tryz.fi54) rfl rfl rfl ?_
  have hle0 := H.le
  repeat first | refine qN ?_ | refine qM rfl ?_ | refine qA rfl ?_ | refine qS rfl ?_ | refine qL H b1 rfl ?_ | refine qT rfl ?_ | refine qF rfl ?_ | refine qI i (by omega) rfl ?_ | refine qI io (by omega) rfl ?_ | refine qP rfl ?_ | refine wQ ?_ | refine wR ?_ | refine wD ?_ | refine wN rfl ?_ | refine wS ?_
  refine WpB.block ?_
  refine WpB.loopS (σ := Nat × Value) (fun s => ln - s.1) (fun s => [(6, .int .i64 (s.1 : Int)), (5, s.2), (0, .slice la ln lcap)]) (fun s h => s.1 ≤ ln ∧ Grow h0 h0.sz h ∧ ∃ (rd' : RO) (ts : List Tb), rd.le rd' ∧ Hp N h.sz rd' h ∧ Own h h0.sz 5 s.2 ts.length (ts.flatMap Tb.cells) ∧ AvS rd' s.2 ∧ (∀ t ∈ ts, t.At rd') ∧ ts.length = s.1) (0, .slice none 0 0)
    ⟨Nat.zero_le _, Grow.refl H.wf _, rd, [], RO.le.refl rd, H.wide H.le (Nat.le_refl _), Own.nil _ _ _, AvS.nil rd, fun t ht => by simp at ht, rfl⟩ (by repeat first | exact sub_nil | refine sub_cons rfl ?_) ?_
  clear H
  rintro ⟨i, sv⟩ h ⟨hi, G, rd', ts, hle, H, o, avs, hts, htl⟩
  simp only at hi o avs htl
  have hGle := G.le
  obtain ⟨sa, scap, hsv, _⟩ := o.shape
  repeat first | refine qN ?_ | refine qM rfl ?_ | refine qA rfl ?_ | refine qS rfl ?_ | refine qL H b1 rfl ?_ | refine qT rfl ?_ | refine qF rfl ?_ | refine qI i (by omega) rfl ?_ | refine qI io (by omega) rfl ?_ | refine qP rfl ?_ | refine wQ ?_ | refine wR ?_ | refine wD ?_ | refine wN rfl ?_ | refine wS ?_
  refine WpB.cond rfl (fun ht => ?_) fun ht => ?_
  · have hlt : i < ln := by simpa using ht
    obtain ⟨b, off, rfl, hc⟩ := hlx i hlt
    have hc := hle _ _ _ _ hc
    obtain ⟨hxa, hxs⟩ := hlo i hlt
    have hxa := hxa.mono hle
    cases hxi : lx i with
    | mk kd nm cols keys fors chk r0 rest =>
    rw [hxi] at hc hxa hxs
    obtain ⟨cva, cvcap, hcv, _⟩ := hxa.cols.2.1
    obtain ⟨kva, kvcap, hkv, _⟩ := hxa.keys.2.1
    obtain ⟨fva, fvcap, hfv, _⟩ := hxa.fors.2.1
    obtain ⟨eva, evcap, hev, _⟩ := hxa.chk.2.1
    obtain ⟨cv, cn, cx⟩ := cols
    obtain ⟨kv, kn, kx⟩ := keys
    obtain ⟨fv, fn, fx⟩ := fors
    obtain ⟨ev, en, ex⟩ := chk
    simp only at hcv hkv hfv hev
    subst hcv hkv hfv hev
    refine WpB.skip ?_
    refine WpB.seq (WpB.block ?_)
    repeat first | refine qN ?_ | refine qM rfl ?_ | refine qA rfl ?_ | refine qS rfl ?_ | refine qL H b1 rfl ?_ | refine qT rfl ?_ | refine qF rfl ?_ | refine qI i (by omega) rfl ?_ | refine qI io (by omega) rfl ?_ | refine qP rfl ?_ | refine wQ ?_ | refine wR ?_ | refine wD ?_ | refine wN rfl ?_ | refine wS ?_
    refine SpB.indexN hlt rfl rfl rfl rfl rfl rfl rfl rfl rfl ?_
    repeat first | refine qN ?_ | refine qM rfl ?_ | refine qA rfl ?_ | refine qS rfl ?_ | refine qL H b1 rfl ?_ | refine qT rfl ?_ | refine qF rfl ?_ | refine qI i (by omega) rfl ?_ | refine qI io (by omega) rfl ?_ | refine qP rfl ?_ | refine wQ ?_ | refine wR ?_ | refine wD ?_ | refine wN rfl ?_ | refine wS ?_
    refine SpB.load (v := .agg ⟨[.slice cva cn cvcap, .slice kva kn kvcap, .slice fva fn fvcap, .slice eva en evcap]⟩) rfl rfl rfl (loadT_part (H.ext _ _ _ _ hc).2 (j := 2) rfl rfl rfl) rfl rfl ?_
    refine SpB.alloc H rfl rfl rfl rfl rfl fun h1 g1 s1 b1 => ?_
    refine SpB.storeO (g1.hp H) b1 (by omega) (by omega) rfl rfl rfl rfl rfl rfl rfl rfl rfl fun h2 g2 s2 b2 f2 => ?_
    have GA : Grow h h.sz h2 := g1.more g2 (Nat.le_refl _)
    have H := (GA.hp H).wide (L := h2.sz) (by omega) (Nat.le_refl _)
    have b1 : h2.blk h.sz = some (.cells [.slice cva cn cvcap, .slice kva kn kvcap, .slice fva fn fvcap, .slice eva en evcap]) := b2
    have o := o.grow GA (Nat.le_refl _)
    have l1 : h.sz < h2.sz := by omega
    have G := G.more GA (by omega)
    clear g1 g2 f2 b2 GA
    repeat first | refine qN ?_ | refine qM rfl ?_ | refine qA rfl ?_ | refine qS rfl ?_ | refine qL H b1 rfl ?_ | refine qT rfl ?_ | refine qF rfl ?_ | refine qI i (by omega) rfl ?_ | refine qI io (by omega) rfl ?_ | refine qP rfl ?_ | refine wQ ?_ | refine wR ?_ | refine wD ?_ | refine wN rfl ?_ | refine wS ?_
    refine WpB.block ?_
    repeat first | refine qN ?_ | refine qM rfl ?_ | refine qA rfl ?_ | refine qS rfl ?_ | refine qL H b1 rfl ?_ | refine qT rfl ?_ | refine qF rfl ?_ | refine qI i (by omega) rfl ?_ | refine qI io (by omega) rfl ?_ | refine qP rfl ?_ | refine wQ ?_ | refine wR ?_ | refine wD ?_ | refine wN rfl ?_ | refine wS ?_
    refine SpB.indexN hlt rfl rfl rfl rfl rfl rfl rfl rfl rfl ?_
    repeat first | refine qN ?_ | refine qM rfl ?_ | refine qA rfl ?_ | refine qS rfl ?_ | refine qL H b1 rfl ?_ | refine qT rfl ?_ | refine qF rfl ?_ | refine qI i (by omega) rfl ?_ | refine qI io (by omega) rfl ?_ | refine qP rfl ?_ | refine wQ ?_ | refine wR ?_ | refine wD ?_ | refine wN rfl ?_ | refine wS ?_
    refine SpB.load (v := .int .i64 kd) rfl rfl rfl (loadT_one (H.ext _ _ _ _ hc).2 (j := 0) rfl rfl rfl) rfl rfl ?_
    repeat first | refine qN ?_ | refine qM rfl ?_ | refine qA rfl ?_ | refine qS rfl ?_ | refine qL H b1 rfl ?_ | refine qT rfl ?_ | refine qF rfl ?_ | refine qI i (by omega) rfl ?_ | refine qI io (by omega) rfl ?_ | refine qP rfl ?_ | refine wQ ?_ | refine wR ?_ | refine wD ?_ | refine wN rfl ?_ | refine wS ?_
    refine WpB.cond rfl (fun ht => ?_) fun ht => ?_
    · repeat first | refine qN ?_ | refine qM rfl ?_ | refine qA rfl ?_ | refine qS rfl ?_ | refine qL H b1 rfl ?_ | refine qT rfl ?_ | refine qF rfl ?_ | refine qI i (by omega) rfl ?_ | refine qI io (by omega) rfl ?_ | refine qP rfl ?_ | refine wQ ?_ | refine wR ?_ | refine wD ?_ | refine wN rfl ?_ | refine wS ?_ | refine wT rfl ?_ | refine wF rfl ?_
      exact WpB.ret ⟨_, res3 rfl rfl rfl rfl rfl rfl, ⟨_, _, _, rfl⟩, by omega⟩
    repeat' first | refine qN ?_ | refine qM rfl ?_ | refine qA rfl ?_ | refine qS rfl ?_ | refine qL H b1 rfl ?_ | refine qT rfl ?_ | refine qF rfl ?_ | refine qB rfl (fun ht => ?_) fun ht => ?_ | refine qI i (by omega) rfl ?_ | refine qI io (by omega) rfl ?_ | refine qP rfl ?_ | refine wQ ?_ | refine wR ?_ | refine wD ?_ | refine wN rfl ?_ | refine wS ?_ | refine wT rfl ?_ | refine wF rfl ?_ | refine WpB.cond rfl (fun ht => ?_) fun ht => ?_
    any_goals exact WpB.ret ⟨_, res3 rfl rfl rfl rfl rfl rfl, ⟨_, _, _, rfl⟩, by omega⟩
    refine SpB.indexN hlt rfl rfl rfl rfl rfl rfl rfl rfl rfl ?_
    refine SpB.loadR H hc rfl rfl rfl rfl rfl rfl rfl ?_
    refine SpB.callK Tryz.T1OK H (by omega) (invalid_ok ⟨kd, nm, ⟨.slice cva cn cvcap, cn, cx⟩, ⟨.slice kva kn kvcap, kn, kx⟩, ⟨.slice fva fn fvcap, fn, fx⟩, ⟨.slice eva en evcap, en, ex⟩, r0, rest⟩ h2 H hxa) rfl rfl rfl rfl rfl ?_
    rintro r h3 ⟨bi, rfl, hinv⟩ g
    have H := g.hp H
    have hs3 := g.le
    have o := o.grow g (Nat.le_refl _)
    have G := G.more g (by omega)
    clear g b1
    repeat first | refine qN ?_ | refine qM rfl ?_ | refine qA rfl ?_ | refine qS rfl ?_ | refine qL H b1 rfl ?_ | refine qT rfl ?_ | refine qF rfl ?_ | refine qI i (by omega) rfl ?_ | refine qI io (by omega) rfl ?_ | refine qP rfl ?_ | refine wQ ?_ | refine wR ?_ | refine wD ?_ | refine wN rfl ?_ | refine wS ?_
    refine WpB.cond rfl (fun ht => ?_) fun ht => ?_
    · repeat first | refine qN ?_ | refine qM rfl ?_ | refine qA rfl ?_ | refine qS rfl ?_ | refine qL H b1 rfl ?_ | refine qT rfl ?_ | refine qF rfl ?_ | refine qI i (by omega) rfl ?_ | refine qI io (by omega) rfl ?_ | refine qP rfl ?_ | refine wQ ?_ | refine wR ?_ | refine wD ?_ | refine wN rfl ?_ | refine wS ?_ | refine wT rfl ?_ | refine wF rfl ?_
      exact WpB.ret ⟨_, res3 rfl rfl rfl rfl rfl rfl, ⟨_, _, _, rfl⟩, by omega⟩
    subst ht
    have hinv := hinv rfl
    have hcn := hxs.cols
    simp only at hcn
    have hall := H.le_all
    have hsch : Sl.sch (rdAll h3) (Sl.of sv ts) := own_At o (fun _ _ => rfl) (by omega) (fun t ht => (hts t ht).mono hall)
    repeat first | refine qN ?_ | refine qM rfl ?_ | refine qA rfl ?_ | refine qS rfl ?_ | refine qL H b1 rfl ?_ | refine qT rfl ?_ | refine qF rfl ?_ | refine qI i (by omega) rfl ?_ | refine qI io (by omega) rfl ?_ | refine qP rfl ?_ | refine wQ ?_ | refine wR ?_ | refine wD ?_ | refine wN rfl ?_ | refine wS ?_
    refine SpB.indexN hlt rfl rfl rfl rfl rfl rfl rfl rfl rfl ?_
    refine SpB.loadR H hc rfl rfl rfl rfl rfl rfl rfl ?_
    refine SpB.callK Tryz.T1OK H (by omega) (exists_ok (Sl.of sv ts) ⟨kd, nm, ⟨.slice cva cn cvcap, cn, cx⟩, ⟨.slice kva kn kvcap, kn, kx⟩, ⟨.slice fva fn fvcap, fn, fx⟩, ⟨.slice eva en evcap, en, ex⟩, r0, rest⟩ h3 H.all hsch (hxa.mono hall) (by show cn ≤ _; omega)) rfl rfl rfl rfl rfl ?_
    rintro r h4 ⟨bi, rfl⟩ g
    have H := (g.hp H).wide (L := h4.sz) (by have := g.le; omega) (Nat.le_refl _)
    have hs4 := g.le
    have o := o.grow g (Nat.le_refl _)
    have G := G.more g (by omega)
    clear g hall hsch
    repeat first | refine qN ?_ | refine qM rfl ?_ | refine qA rfl ?_ | refine qS rfl ?_ | refine qL H b1 rfl ?_ | refine qT rfl ?_ | refine qF rfl ?_ | refine qI i (by omega) rfl ?_ | refine qI io (by omega) rfl ?_ | refine qP rfl ?_ | refine wQ ?_ | refine wR ?_ | refine wD ?_ | refine wN rfl ?_ | refine wS ?_
    refine WpB.cond rfl (fun ht => ?_) fun ht => ?_
    · repeat first | refine qN ?_ | refine qM rfl ?_ | refine qA rfl ?_ | refine qS rfl ?_ | refine qL H b1 rfl ?_ | refine qT rfl ?_ | refine qF rfl ?_ | refine qI i (by omega) rfl ?_ | refine qI io (by omega) rfl ?_ | refine qP rfl ?_ | refine wQ ?_ | refine wR ?_ | refine wD ?_ | refine wN rfl ?_ | refine wS ?_ | refine wT rfl ?_ | refine wF rfl ?_
      exact WpB.ret ⟨_, res3 rfl rfl rfl rfl rfl rfl, ⟨_, _, _, rfl⟩, by omega⟩
    repeat first | refine qN ?_ | refine qM rfl ?_ | refine qA rfl ?_ | refine qS rfl ?_ | refine qL H b1 rfl ?_ | refine qT rfl ?_ | refine qF rfl ?_ | refine qI i (by omega) rfl ?_ | refine qI io (by omega) rfl ?_ | refine qP rfl ?_ | refine wQ ?_ | refine wR ?_ | refine wD ?_ | refine wN rfl ?_ | refine wS ?_ | refine wT rfl ?_ | refine wF rfl ?_
    refine SpB.indexN hlt rfl rfl rfl rfl rfl rfl rfl rfl rfl ?_
    refine SpB.loadR H hc rfl rfl rfl rfl rfl rfl rfl ?_
    refine SpB.callK Tryz.T1OK H (by omega) (table_ok sv ts ⟨kd, nm, ⟨.slice cva cn cvcap, cn, cx⟩, ⟨.slice kva kn kvcap, kn, kx⟩, ⟨.slice fva fn fvcap, fn, fx⟩, ⟨.slice eva en evcap, en, ex⟩, r0, rest⟩ h4 H o hts hxa hxs (by omega) hinv) rfl rfl rfl rfl rfl ?_
    rintro r h5 ⟨t, e, rfl, hat⟩ g
    obtain ⟨H5, hle5, _⟩ := H.new rfl g
    have avs5 : AvS (rdNew N h4.sz h5 rd') sv := avs.old o H.n rdNew_oldR (Nat.le_refl _)
    have hs5 := g.le
    have o := o.grow g (Nat.le_refl _)
    have G := G.more g (by omega)
    clear g H
    repeat first | refine qN ?_ | refine qM rfl ?_ | refine qA rfl ?_ | refine qS rfl ?_ | refine qL H b1 rfl ?_ | refine qT rfl ?_ | refine qF rfl ?_ | refine qI i (by omega) rfl ?_ | refine qI io (by omega) rfl ?_ | refine qP rfl ?_ | refine wQ ?_ | refine wR ?_ | refine wD ?_ | refine wN rfl ?_ | refine wS ?_
    refine SpB.alloc H5 rfl rfl rfl rfl rfl fun h6 g6 s6 b6 => ?_
    refine SpB.storeO (g6.hp H5) b6 (by omega) (by omega) rfl rfl rfl rfl rfl rfl rfl rfl rfl fun h7 g7 s7 b7 f7 => ?_
    have GA : Grow h5 h5.sz h7 := g6.more g7 (Nat.le_refl _)
    have H := GA.hp H5
    have b1 : h7.blk h5.sz = some (.cells t.cells) := b7
    have o := o.grow GA (Nat.le_refl _)
    have G := G.more GA (by omega)
    clear g6 g7 f7 b7 GA
    repeat first | refine qN ?_ | refine qM rfl ?_ | refine qA rfl ?_ | refine qS rfl ?_ | refine qL H b1 rfl ?_ | refine qT rfl ?_ | refine qF rfl ?_ | refine qI i (by omega) rfl ?_ | refine qI io (by omega) rfl ?_ | refine qP rfl ?_ | refine wQ ?_ | refine wR ?_ | refine wD ?_ | refine wN rfl ?_ | refine wS ?_
    refine WpB.cond rfl (fun ht => ?_) fun ht => ?_
    · repeat first | refine qN ?_ | refine qM rfl ?_ | refine qA rfl ?_ | refine qS rfl ?_ | refine qL H b1 rfl ?_ | refine qT rfl ?_ | refine qF rfl ?_ | refine qI i (by omega) rfl ?_ | refine qI io (by omega) rfl ?_ | refine qP rfl ?_ | refine wQ ?_ | refine wR ?_ | refine wD ?_ | refine wN rfl ?_ | refine wS ?_ | refine wT rfl ?_ | refine wF rfl ?_
      exact WpB.ret ⟨_, res3 rfl rfl rfl rfl rfl rfl, ⟨_, _, _, rfl⟩, by omega⟩
    repeat first | refine qN ?_ | refine qM rfl ?_ | refine qA rfl ?_ | refine qS rfl ?_ | refine qL H b1 rfl ?_ | refine qT rfl ?_ | refine qF rfl ?_ | refine qI i (by omega) rfl ?_ | refine qI io (by omega) rfl ?_ | refine qP rfl ?_ | refine wQ ?_ | refine wR ?_ | refine wD ?_ | refine wN rfl ?_ | refine wS ?_
    refine SpB.newS H rfl rfl rfl rfl rfl fun h9 g9 s9 b9 => ?_
    have H9 := g9.hp H
    have G := G.more g9 (by omega)
    have o := o.grow g9 (Nat.le_refl _)
    have o9 : Own h9 h7.sz 5 (.slice (some ⟨N + h7.sz, 0, none⟩) 1 1) 1 t.cells := .inr ⟨h7.sz, 1, Nat.le_refl _, by omega, by rw [H9.n], b9, rfl, .inr ⟨rfl, by decide⟩⟩
    refine SpB.appendA (st := 23) (xt := 23) H9 o avs5 o9.src rfl (by omega) (by omega) (show (ts.length + 1) * 112 ≤ 70368744177664 by omega) rfl rfl rfl rfl rfl rfl rfl rfl rfl rfl rfl rfl rfl rfl ?_
    intro v3 h10 acc o3 g10 H10 avs10
    have l10 := g10.le
    have G := G.more g10 (Nat.le_refl _)
    repeat first | refine qN ?_ | refine qM rfl ?_ | refine qA rfl ?_ | refine qS rfl ?_ | refine qL H b1 rfl ?_ | refine qT rfl ?_ | refine qF rfl ?_ | refine qI i (by omega) rfl ?_ | refine qI io (by omega) rfl ?_ | refine qP rfl ?_ | refine wQ ?_ | refine wR ?_ | refine wD ?_ | refine wN rfl ?_ | refine wS ?_
    exact ⟨(i + 1, v3), by show ln - (i + 1) < ln - i; omega, (by repeat first | exact sub_nil | refine sub_cons rfl ?_), ⟨hlt, G, _, ts ++ [t], hle.trans hle5, H10.wide (by omega) (Nat.le_refl _), by simpa using o3, avs10, fun x hx => by
      rcases List.mem_append.1 hx with hx | hx
      · exact (hts x hx).mono hle5
      · simp only [List.mem_singleton] at hx
        rw [hx]
        exact hat, by simp [htl]⟩, rfl⟩
  · refine WpB.exit ?_
    repeat first | refine qN ?_ | refine qM rfl ?_ | refine qA rfl ?_ | refine qS rfl ?_ | refine qL H b1 rfl ?_ | refine qT rfl ?_ | refine qF rfl ?_ | refine qI i (by omega) rfl ?_ | refine qI io (by omega) rfl ?_ | refine qP rfl ?_ | refine wQ ?_ | refine wR ?_ | refine wD ?_ | refine wN rfl ?_ | refine wS ?_
    subst hsv
    exact WpB.ret ⟨_, res3 rfl rfl rfl rfl rfl rfl, ⟨_, _, _, rfl⟩, by omega⟩

end Go.Proofs.YtkjkcoemloakhaaGreat
end


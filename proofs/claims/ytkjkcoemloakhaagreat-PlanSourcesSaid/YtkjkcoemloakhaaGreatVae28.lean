/- Rules for walks with a growing memory: boxes, calls, appends, loops over a state. -/
import Derived.Test.YtkjkcoemloakhaaGreatVae27
set_option linter.unusedVariables false
set_option linter.unusedSimpArgs false
namespace Go.Vae
open Go Go.RowKit

variable {P : Program} {T : Tabs}

/-- A memory of this run: where the caller's ends, and what it holds. -/
structure Hp (N : Nat) (rd : RO) (h : AH) : Prop where
  wf : h.wf
  n : h.n = N
  rd : h.rd = rd

theorem Grow.hp {h h' : AH} {l N : Nat} {rd : RO} (g : Grow h l h') (H : Hp N rd h) : Hp N rd h' := ⟨g.wf, g.n.trans H.n, g.rd.trans H.rd⟩

theorem Grow.keep {h h' : AH} {k : Nat} {x : Option AO} (g : Grow h h.sz h') (hk : k < h.sz) (b : h.blk k = x) : h'.blk k = x := (g.frame k hk hk).trans b

theorem Grow.keepL {h h' : AH} {l k : Nat} {x : Option AO} (g : Grow h l h') (hk : k < h.sz) (hl : k < l) (b : h.blk k = x) : h'.blk k = x := (g.frame k hk hl).trans b

theorem Grow.lt {h h' : AH} {l k : Nat} (g : Grow h l h') (hk : k < h.sz) : k < h'.sz := Nat.lt_of_lt_of_le hk g.le

/-- A call that answers so and leaves what was there. -/
def Kp (T : Tabs) (f : FuncId) (args : List Value) (h : AH) (R : Value → AH → Prop) : Prop := Fp T f args h fun v h' low => R v h' ∧ h.sz ≤ low

theorem Kp.of {f : FuncId} {args : List Value} {h : AH} {R : Value → AH → Prop} {fi : FI} (hkn : T.known f = none) (hf : T.fn f = some fi) (hl : Nat.ble args.length fi.nt = true)
    (hw : WpB T fi.nt fi.code (bsOf 0 args []) h h.sz (endB T fi fun v h' low => R v h' ∧ h.sz ≤ low)) : Kp T f args h R := FpB.of hkn hf hl hw

theorem Kp.known {f : FuncId} {h : AH} {R : Value → AH → Prop} {v : Value} (hk : T.known f = some v) (hq : R v h) : Kp T f [] h R := Fp.known hk ⟨hq, Nat.le_refl _⟩

theorem Kp.mono {f : FuncId} {args : List Value} {h : AH} {R R' : Value → AH → Prop} (hf : Kp T f args h R) (hr : ∀ v h', R v h' → R' v h') : Kp T f args h R' := Fp.mono hf fun v h' low ⟨h1, h2⟩ => ⟨hr v h' h1, h2⟩

def isB (b : Bool) : Value → AH → Prop := fun v _ => v = .bool b

theorem partO {N k off : Nat} {h : AH} {cs : List Value} {t : TypeId} {v : Value} (hn : h.n = N) (hb : h.blk k = some (.cells cs)) (hp : partT T t cs off = some v) : loadT T h t (N + k) off = some v := by
  have h1 : Nat.blt (N + k) h.n = false := by
    cases hq : Nat.blt (N + k) h.n
    · rfl
    · have := blt_true hq; omega
  unfold partT at hp
  unfold loadT
  split at hp
  · rename_i ti ht
    try rw [ht]
    try simp only
    simp only [AH.cut, AH.cell, h1, show N + k - h.n = k by omega, hb, cond]
    exact hp
  · cases hp

section
variable {nt : Nat} {ops l : List Oper} {o : Oper} {bs : Bs} {h : AH} {low : Nat} {Q : Bs → AH → Nat → List Acc → Prop} {N : Nat} {rd0 : RO}

/-- From a block of this run. -/
theorem SpB.loadO {t : TypeId} {x : Operand} {k off : Nat} {cs : List Value} {v : Value} {d : Nat} (H : Hp N rd0 h) (hb : h.blk k = some (.cells cs)) (ho : o.op = .load t x) (hw : wantedB ops bs o = some true) (he : evB bs h x = some (.pointer (some ⟨N + k, off, none⟩)))
    (hp : partT T t cs off = some v) (hd : o.dst = some d) (hlt : Nat.blt d nt = true)
    (h2 : SpB T nt ops l ((d, v) :: bs) h low fun b' h' l' acs => Q b' h' l' (⟨rdOf h (N + k), [], h.sz, h.sz, none⟩ :: acs)) : SpB T nt ops (o :: l) bs h low Q :=
  SpB.load ho hw he (partO H.n hb hp) hd hlt h2

/-- From the caller's memory: a struct. -/
theorem SpB.loadR {t : TypeId} {ti : TI} {x : Operand} {b off : Nat} {cs : List Value} {d : Nat} (H : Hp N rd0 h) (hc : rd0 b off ti.size = some cs) (ho : o.op = .load t x) (hw : wantedB ops bs o = some true) (he : evB bs h x = some (.pointer (some ⟨b, off, none⟩)))
    (ht : T.ty t = some ti) (ha : ti.agg = true) (hd : o.dst = some d) (hlt : Nat.blt d nt = true)
    (h2 : SpB T nt ops l ((d, .agg ⟨cs⟩) :: bs) h low fun b' h' l' acs => Q b' h' l' (⟨rdOf h b, [], h.sz, h.sz, none⟩ :: acs)) : SpB T nt ops (o :: l) bs h low Q :=
  SpB.loadA ho hw he ht ha (by rw [H.rd]; exact hc) hd hlt h2

/-- From the caller's memory: a cell. -/
theorem SpB.loadRC {t : TypeId} {ti : TI} {x : Operand} {b off : Nat} {v : Value} {d : Nat} (H : Hp N rd0 h) (hc : rd0 b off 1 = some [v]) (ho : o.op = .load t x) (hw : wantedB ops bs o = some true) (he : evB bs h x = some (.pointer (some ⟨b, off, none⟩)))
    (ht : T.ty t = some ti) (ha : ti.agg = false) (hd : o.dst = some d) (hlt : Nat.blt d nt = true)
    (h2 : SpB T nt ops l ((d, v) :: bs) h low fun b' h' l' acs => Q b' h' l' (⟨rdOf h b, [], h.sz, h.sz, none⟩ :: acs)) : SpB T nt ops (o :: l) bs h low Q :=
  SpB.loadC ho hw he ht ha (by rw [H.rd]; exact hc) hd hlt h2

theorem new_facts (hwf : h.wf) (cs : List Value) : Grow h h.sz (h.app (.new cs)) ∧ (h.app (.new cs)).sz = h.sz + 1 ∧ (h.app (.new cs)).blk h.sz = some (.cells cs) := by
  have hw : ∀ k, k ∈ (Eff.new cs).wr → (h.blk k).isSome = true := fun k hk => by simp [Eff.wr] at hk
  exact ⟨Grow.app hwf hw h.sz, rfl, Tr.get_set_eq _ _ _⟩

theorem SpB.newV {v u : Value} {cs : List Value} {rd : List Nat} {d : Nat} (H : Hp N rd0 h) (hw : wantedB ops bs o = some true) (hall : allB bs h o.op.operands.toList = true) (ha : aop T h (rho bs h) o = some (.val v (.new cs) rd)) (hv : v = u) (hd : o.dst = some d) (hlt : Nat.blt d nt = true)
    (h2 : ∀ h', Grow h h.sz h' → h'.sz = h.sz + 1 → h'.blk h.sz = some (.cells cs) → SpB T nt ops l ((d, u) :: bs) h' low fun b' h'' l' acs => Q b' h'' l' (⟨rd, [], h.sz, h'.sz, none⟩ :: acs)) : SpB T nt ops (o :: l) bs h low Q :=
  SpB.eff hw hall ha hd hlt (by
    subst hv
    obtain ⟨g1, g2, g3⟩ := new_facts H.wf cs
    have := h2 _ g1 g2 g3
    rw [show Nat.min low (Eff.lowD low (.new cs)) = low from Nat.min_self low]
    exact this)

/-- A parameter laid into memory. -/
theorem SpB.box {t : TypeId} {x : Operand} {v : Value} {cs : List Value} {d : Nat} (H : Hp N rd0 h) (ho : o.op = .box t x) (hw : wantedB ops bs o = some true) (he : evB bs h x = some v) (hv : vcells v = some cs) (hd : o.dst = some d) (hlt : Nat.blt d nt = true)
    (h2 : ∀ h', Grow h h.sz h' → h'.sz = h.sz + 1 → h'.blk h.sz = some (.cells cs) → SpB T nt ops l ((d, .pointer (some ⟨N + h.sz, 0, none⟩)) :: bs) h' low fun b' h'' l' acs => Q b' h'' l' (⟨[], [], h.sz, h'.sz, none⟩ :: acs)) : SpB T nt ops (o :: l) bs h low Q :=
  SpB.newV (v := h.fresh) (cs := cs) H hw (by rw [ho]; simp [Op.operands, allB, he]) (by simp only [aop, ho, rho_some he, hv]) (by simp only [AH.fresh, H.n]) hd hlt h2

theorem SpB.alloc {t : TypeId} {ti : TI} {d : Nat} (H : Hp N rd0 h) (ho : o.op = .alloc t) (hw : wantedB ops bs o = some true) (ht : T.ty t = some ti) (hd : o.dst = some d) (hlt : Nat.blt d nt = true)
    (h2 : ∀ h', Grow h h.sz h' → h'.sz = h.sz + 1 → h'.blk h.sz = some (.cells ti.zero) → SpB T nt ops l ((d, .pointer (some ⟨N + h.sz, 0, none⟩)) :: bs) h' low fun b' h'' l' acs => Q b' h'' l' (⟨[], [], h.sz, h'.sz, none⟩ :: acs)) : SpB T nt ops (o :: l) bs h low Q :=
  SpB.newV (v := h.fresh) (cs := ti.zero) H hw (by rw [ho]; simp [Op.operands, allB]) (by simp only [aop, ho, ht]) (by simp only [AH.fresh, H.n]) hd hlt h2

/-- A new slice. -/
theorem SpB.newS {n c : Nat} {cs : List Value} {rd : List Nat} {d : Nat} (H : Hp N rd0 h) (hw : wantedB ops bs o = some true) (hall : allB bs h o.op.operands.toList = true) (ha : aop T h (rho bs h) o = some (.val (.slice (some ⟨h.n + h.sz, 0, none⟩) n c) (.new cs) rd)) (hd : o.dst = some d) (hlt : Nat.blt d nt = true)
    (h2 : ∀ h', Grow h h.sz h' → h'.sz = h.sz + 1 → h'.blk h.sz = some (.cells cs) → SpB T nt ops l ((d, .slice (some ⟨N + h.sz, 0, none⟩) n c) :: bs) h' low fun b' h'' l' acs => Q b' h'' l' (⟨rd, [], h.sz, h'.sz, none⟩ :: acs)) : SpB T nt ops (o :: l) bs h low Q :=
  SpB.newV H hw hall ha (by rw [H.n]) hd hlt h2

/-- Into a block of this run. -/
theorem SpB.storeO {t : TypeId} {ti : TI} {a x : Operand} {k off : Nat} {u : Value} {cs vs cs' : List Value} (H : Hp N rd0 h) (hb : h.blk k = some (.cells cs)) (hk : k < h.sz) (hlow : low ≤ k) (ho : o.op = .store t a x) (hw : wantedB ops bs o = some true) (ha : evB bs h a = some (.pointer (some ⟨N + k, off, none⟩))) (hx : evB bs h x = some u)
    (hv : vcells u = some vs) (ht : T.ty t = some ti) (hl : Nat.beq vs.length ti.size = true) (hp : lput cs off vs = some cs') (hd : o.dst = none)
    (h2 : ∀ h', Grow h k h' → h'.sz = h.sz → h'.blk k = some (.cells cs') → (∀ j, j ≠ k → h'.blk j = h.blk j) → SpB T nt ops l bs h' low fun b' h'' l' acs => Q b' h'' l' (⟨[], [k], h.sz, h'.sz, none⟩ :: acs)) : SpB T nt ops (o :: l) bs h low Q :=
  SpB.done (v := undef) (e := .set k cs') (rd := []) hw (by rw [ho]; simp [Op.operands, allB, ha, hx]) (by
    have h1 : Nat.blt (N + k) h.n = false := by
      cases hq : Nat.blt (N + k) h.n
      · rfl
      · have := blt_true hq; have := H.n; omega
    have h3 : N + k - h.n = k := by have := H.n; omega
    simp only [aop, ho, rho_some ha, rho_some hx, astore, hv, ht, h1, cond, h3, hb, hl, hp]) hd (by
    have hw : ∀ j, j ∈ (Eff.set k cs').wr → (h.blk j).isSome = true := fun j hj => by
      simp only [Eff.wr, List.mem_singleton] at hj
      subst hj
      simp [hb]
    have g := Grow.app H.wf hw k
    have := h2 (h.app (.set k cs')) g rfl (Tr.get_set_eq _ _ _) (fun j hj => Tr.get_set_ne _ _ hj)
    rw [show Nat.min low (Eff.lowD low (.set k cs')) = low from Nat.min_eq_left hlow]
    exact this)

/-- A call. -/
theorem SpB.callK {f : FuncId} {args : List Value} {R : Value → AH → Prop} {d : Nat} (ht : TabsOK P T) (H : Hp N rd0 h) (hlow : low ≤ h.sz) (hf : Kp T f args h R) (hw : wantedB ops bs o = some true) (hall : allB bs h o.op.operands.toList = true) (ha : aop T h (rho bs h) o = some (.go f args)) (hd : o.dst = some d) (hlt : Nat.blt d nt = true)
    (h2 : ∀ v h', R v h' → Grow h h.sz h' → SpB T nt ops l ((d, v) :: bs) h' low fun b h'' l' acs => Q b h'' l' (⟨[], [], h.sz, h'.sz, some false⟩ :: acs)) : SpB T nt ops (o :: l) bs h low Q :=
  SpB.call hw hall ha (hf.grow ht H.wf) hd hlt (by
    rintro v h' low' ⟨⟨h3, h4⟩, h5⟩
    have := h2 v h' h3 (h5.mono h4)
    rw [show Nat.min low low' = low from Nat.min_eq_left (by omega)]
    have hb : Nat.blt low' h.sz = false := by
      cases hq : Nat.blt low' h.sz
      · rfl
      · have := blt_true hq; omega
    rw [hb]
    exact this)
end

section
variable {nt : Nat} {bs : Bs} {h : AH} {low : Nat} {Q : Ex → Bs → AH → Nat → Prop}

/-- A loop over a state. -/
theorem WpB.loopS {σ : Type} {c : Code} (m : σ → Nat) (B : σ → Bs) (J : σ → AH → Prop) (s0 : σ) (h0 : J s0 h) (hs : ∀ t v, look (B s0) t = some v → look bs t = some v)
    (hr : ∀ s h, J s h → WpB T nt c (B s) h low (thenB (fun bs' h' l' => ∃ s', m s' < m s ∧ (∀ t v, look (B s') t = some v → look bs' t = some v) ∧ J s' h' ∧ l' = low) Q)) : WpB T nt (.loop c) bs h low Q :=
  WpB.loop (fun n bs' h' l' => ∃ s, m s = n ∧ bs' = B s ∧ J s h' ∧ l' = low) (fun n bs' h' l' ⟨s, e0, e1, hJ, e2⟩ => by
    subst e0 e1 e2
    refine (hr s h' hJ).mono fun ex b h' l' hq => ?_
    cases ex with
    | normal =>
      obtain ⟨s', h1, h2, h3, h4⟩ := hq
      exact ⟨m s', B s', h1, h2, s', rfl, rfl, h3, h4⟩
    | exit id => exact hq
    | ret => exact hq) (n := m s0) (b0 := B s0) ⟨s0, rfl, rfl, h0, rfl⟩ hs

/-- A loop that counts from 0 to at most n. -/
theorem WpB.loopC {c : Code} (n : Nat) (B : Nat → Bs) (J : Nat → AH → Prop) (h0 : J 0 h) (hs : ∀ t v, look (B 0) t = some v → look bs t = some v)
    (hr : ∀ i h, i ≤ n → J i h → WpB T nt c (B i) h low (thenB (fun bs' h' l' => i < n ∧ (∀ t v, look (B (i + 1)) t = some v → look bs' t = some v) ∧ J (i + 1) h' ∧ l' = low) Q)) : WpB T nt (.loop c) bs h low Q :=
  WpB.loopS (fun i => n - i) B (fun i h => i ≤ n ∧ J i h) 0 ⟨Nat.zero_le _, h0⟩ hs fun i h ⟨hi, hJ⟩ => (hr i h hi hJ).mono fun ex b h' l' hq => by
    cases ex with
    | normal =>
      obtain ⟨h1, h2, h3, h4⟩ := hq
      exact ⟨i + 1, (by show n - (i + 1) < n - i; omega), h2, ⟨by omega, h3⟩, h4⟩
    | exit id => exact hq
    | ret => exact hq
end

/-! ### slices of this run -/
/-- A slice of n elements of so many cells, of this run, from block number lo on; nobody else holds its block. -/
def Own (h : AH) (lo size : Nat) (v : Value) (n : Nat) (cs : List Value) : Prop :=
  (v = .slice none 0 0 ∧ n = 0 ∧ cs = []) ∨
  ∃ k cap, lo ≤ k ∧ k < h.sz ∧ v = .slice (some ⟨h.n + k, 0, none⟩) n cap ∧ h.blk k = some (.cells cs) ∧ cs.length = n * size ∧ (cap = unk + size ∨ (cap = n ∧ n < unk))

theorem Own.nil (h : AH) (lo size : Nat) : Own h lo size (.slice none 0 0) 0 [] := .inl ⟨rfl, rfl, rfl⟩

theorem Own.grow {h h' : AH} {lo size n l : Nat} {v : Value} {cs : List Value} (o : Own h lo size v n cs) (g : Grow h l h') (hl : h.sz ≤ l) : Own h' lo size v n cs := by
  rcases o with o | ⟨k, cap, h1, h2, h3, h4, h5⟩
  · exact .inl o
  · exact .inr ⟨k, cap, h1, g.lt h2, by rw [g.n]; exact h3, g.keepL h2 (by omega) h4, h5⟩

theorem Own.low {h : AH} {lo lo' size n : Nat} {v : Value} {cs : List Value} (o : Own h lo size v n cs) (hl : lo' ≤ lo) : Own h lo' size v n cs := by
  rcases o with o | ⟨k, cap, h1, h⟩
  · exact .inl o
  · exact .inr ⟨k, cap, by omega, h⟩

theorem lcut_all {α : Type} : ∀ (l : List α), lcut l 0 l.length = some l
  | [] => rfl
  | x :: xs => by simp only [List.length_cons, lcut, lcut_all xs]; rfl

theorem own_cut {h : AH} {k : Nat} {cs : List Value} (hb : h.blk k = some (.cells cs)) : h.cut (h.n + k) 0 cs.length = some cs := by
  have h1 : Nat.blt (h.n + k) h.n = false := by
    cases hq : Nat.blt (h.n + k) h.n
    · rfl
    · have := blt_true hq; omega
  simp only [AH.cut, h1, show h.n + k - h.n = k by omega, hb, cond]
  exact lcut_all cs

theorem Own.src {h : AH} {lo size n : Nat} {v : Value} {cs : List Value} (o : Own h lo size v n cs) : (∃ r, srcCells h size v n = some (cs, r)) ∧ lenV v = some n := by
  rcases o with ⟨rfl, rfl, rfl⟩ | ⟨k, cap, h1, h2, rfl, h4, h5, h6⟩
  · exact ⟨⟨[], rfl⟩, rfl⟩
  · refine ⟨⟨rdOf h (h.n + k), ?_⟩, rfl⟩
    simp only [srcCells, ← h5, own_cut h4]

theorem beqs (n : Nat) : Nat.beq n n = true := by simp [Nat.beq_eq]

/-- Elements are appended to a slice of this run. -/
theorem append_own {h : AH} (hwf : h.wf) {lo size n m st xt e : Nat} {s x : Value} {cs news : List Value} {ti ei xi : TI} (hs : Own h lo size s n cs) (hx : ∃ r, srcCells h size x m = some (news, r)) (hl : lenV x = some m) (hnl : news.length = m * size)
    (h1 : T.ty st = some ti) (h2 : ti.k = .slice e) (h3 : T.ty e = some ei) (h4 : ei.size = size) (h5 : 1 ≤ size) (h6 : 1 ≤ ei.bytes) (h7 : T.ty xt = some xi) (h8 : isInt xi.k = false) (h9 : isSeq xi.k = true) (hb : (n + m) * ei.bytes ≤ 70368744177664) (hlo : lo ≤ h.sz) :
    ∃ v ef rd, aappend T h st xt s x = some (.val v ef rd) ∧ Own (h.app ef) lo size v (n + m) (cs ++ news) ∧ Grow h lo (h.app ef) ∧ (∀ low, low ≤ lo → Nat.min low (ef.lowD low) = low) := by
  subst h4
  obtain ⟨r, hr⟩ := hx
  have hb2 : n + m ≤ 70368744177664 := Nat.le_trans (Nat.le_mul_of_pos_right _ h6) hb
  have hu : (70368744177664 : Nat) < unk := by decide
  have start : ∀ base sCap, aappend T h st xt (.slice base n sCap) x = aappendTo h ei base n sCap m news r := fun base sCap => by
    simp only [aappend, h1, h7, h2, h3, Nat.ble_eq_true_of_le h5, Nat.ble_eq_true_of_le h6, Bool.and_self, cond, h8, h9, hl, hr]
  have bounds : (Nat.ble ((n + m) * ei.bytes) 70368744177664 && Nat.ble (n + m) 70368744177664) = true := by
    rw [Nat.ble_eq_true_of_le hb, Nat.ble_eq_true_of_le hb2]; rfl
  by_cases hm : m = 0
  · subst hm
    have hn0 : news = [] := List.eq_nil_of_length_eq_zero (by simpa using hnl)
    subst hn0
    have ok : ∀ base sCap, n ≤ sCap → aappendTo h ei base n sCap 0 [] r = some (.val (.slice base n sCap) .nil r) := fun base sCap hc => by
      simp [aappendTo, Nat.ble_eq_true_of_le hc]
    have g : Grow h lo (h.app .nil) := Grow.refl hwf lo
    rcases hs with ⟨rfl, rfl, rfl⟩ | ⟨k, cap, a1, a2, rfl, a4, a5, a6⟩
    · exact ⟨_, .nil, r, (start none 0).trans (ok none 0 (Nat.le_refl _)), .inl ⟨rfl, rfl, rfl⟩, g, fun low _ => Nat.min_self low⟩
    · refine ⟨_, .nil, r, (start _ cap).trans (ok _ cap ?_), ?_, g, fun low _ => Nat.min_self low⟩
      · rcases a6 with a6 | ⟨a6, _⟩ <;> omega
      · rw [List.append_nil]
        exact .inr ⟨k, cap, a1, a2, rfl, a4, a5, a6⟩
  · have hm0 : Nat.beq m 0 = false := by
      cases hq : Nat.beq m 0
      · rfl
      · exact absurd (by simpa [Nat.beq_eq] using hq) hm
    have fresh : ∀ old, old.length = n * ei.size → Own (h.app (.new (old ++ news))) lo ei.size (.slice (some ⟨h.n + h.sz, 0, none⟩) (n + m) (unk + ei.size)) (n + m) (old ++ news) := fun old ho =>
      .inr ⟨h.sz, unk + ei.size, hlo, Nat.lt_succ_self _, rfl, Tr.get_set_eq _ _ _, by rw [List.length_append, ho, hnl, Nat.add_mul], .inl rfl⟩
    have gnew : ∀ c, Grow h lo (h.app (.new c)) := fun c => (new_facts hwf c).1.mono hlo
    rcases hs with ⟨rfl, rfl, rfl⟩ | ⟨k, cap, a1, a2, rfl, a4, a5, a6⟩
    · refine ⟨_, .new ([] ++ news), [] ++ r, (start none 0).trans ?_, fresh [] (by simp), gnew _, fun low _ => Nat.min_self low⟩
      have hc : Nat.ble (0 + m) 0 = false := by
        cases hq : Nat.ble (0 + m) 0
        · rfl
        · have := Nat.le_of_ble_eq_true hq; omega
      simp only [aappendTo, hm0, cond, show Nat.ble unk 0 = false from rfl, hc, srcCells, beqs, bounds]
    · rcases a6 with rfl | ⟨a8, a7⟩
      · refine ⟨.slice (some ⟨h.n + h.sz, 0, none⟩) (n + m) (unk + ei.size), .grow k (cs ++ news), r, (start _ _).trans ?_, ?_, ?_, fun low hl => Nat.min_eq_left (Nat.le_trans hl a1)⟩
        · have hq : Nat.blt (h.n + k) h.n = false := by
            cases hq : Nat.blt (h.n + k) h.n
            · rfl
            · have := blt_true hq; omega
          have hcut := own_cut a4
          rw [a5] at hcut
          simp only [aappendTo, hm0, cond, Nat.ble_eq_true_of_le (Nat.le_add_right unk ei.size), hq, hcut, bounds, beqs, Bool.and_self, Nat.add_sub_cancel_left]
        · exact .inr ⟨h.sz, unk + ei.size, hlo, Nat.lt_succ_self _, rfl, Tr.get_set_eq _ _ _, by rw [List.length_append, a5, hnl, Nat.add_mul], .inl rfl⟩
        · have hw : ∀ j, j ∈ (Eff.grow k (cs ++ news)).wr → (h.blk j).isSome = true := fun j hj => by
            simp only [Eff.wr, List.mem_singleton] at hj
            subst hj
            simp [a4]
          exact (Grow.app hwf hw k).mono a1
      · have a8 := a8.symm
        subst a8
        refine ⟨_, .new (cs ++ news), rdOf h (h.n + k) ++ r, (start _ _).trans ?_, fresh cs a5, gnew _, fun low _ => Nat.min_self low⟩
        have hc : Nat.ble (n + m) n = false := by
          cases hq : Nat.ble (n + m) n
          · rfl
          · have := Nat.le_of_ble_eq_true hq; omega
        have hc2 : Nat.ble unk n = false := by
          cases hq : Nat.ble unk n
          · rfl
          · have := Nat.le_of_ble_eq_true hq; omega
        have hcut := own_cut a4
        rw [a5] at hcut
        simp only [aappendTo, hm0, cond, hc, hc2, srcCells, hcut, bounds]

section
variable {nt : Nat} {ops l : List Oper} {o : Oper} {bs : Bs} {h : AH} {low : Nat} {Q : Bs → AH → Nat → List Acc → Prop} {N : Nat} {rd0 : RO}

theorem SpB.append {lo size n m st xt e d : Nat} {s x : Value} {cs news : List Value} {ti ei xi : TI} (H : Hp N rd0 h) (hs : Own h lo size s n cs) (hx : (∃ r, srcCells h size x m = some (news, r)) ∧ lenV x = some m) (hnl : news.length = m * size) (hlo : lo ≤ h.sz) (hlow : low ≤ lo) (hb : (n + m) * ei.bytes ≤ 70368744177664)
    (hw : wantedB ops bs o = some true) (hall : allB bs h o.op.operands.toList = true) (ha : aop T h (rho bs h) o = aappend T h st xt s x)
    (h1 : T.ty st = some ti) (h2 : ti.k = .slice e) (h3 : T.ty e = some ei) (h4 : ei.size = size) (h5 : Nat.ble 1 size = true) (h6 : Nat.ble 1 ei.bytes = true) (h7 : T.ty xt = some xi) (h8 : isInt xi.k = false) (h9 : isSeq xi.k = true) (hd : o.dst = some d) (hlt : Nat.blt d nt = true)
    (hk : ∀ v h' acc, Own h' lo size v (n + m) (cs ++ news) → Grow h lo h' → SpB T nt ops l ((d, v) :: bs) h' low fun b h'' l' acs => Q b h'' l' (acc :: acs)) : SpB T nt ops (o :: l) bs h low Q := by
  obtain ⟨v, ef, rd, g1, g2, g3, g4⟩ := append_own H.wf hs hx.1 hx.2 hnl h1 h2 h3 h4 (Nat.le_of_ble_eq_true h5) (Nat.le_of_ble_eq_true h6) h7 h8 h9 hb hlo
  refine SpB.eff hw hall (ha.trans g1) hd hlt ?_
  rw [g4 low hlow]
  exact hk v _ _ g2 g3
end

/-- Is an operation guarded further on? -/
def guardsIn : List Oper → Bool
  | [] => false
  | o :: l => o.guard.isSome || guardsIn l

/-- A truth value on which something hangs in this region: both ways. -/
theorem SpB.boolN {nt : Nat} {ops l : List Oper} {o : Oper} {bs : Bs} {h : AH} {low : Nat} {Q : Bs → AH → Nat → List Acc → Prop} {b : Bool} {rd : List Nat} {d : Nat} (hg : guardsIn l = true) (hw : wantedB ops bs o = some true) (hall : allB bs h o.op.operands.toList = true) (ha : aop T h (rho bs h) o = some (.val (.bool b) .nil rd)) (hd : o.dst = some d) (hlt : Nat.blt d nt = true)
    (h2 : b = true → SpB T nt ops l ((d, .bool true) :: bs) h low fun b h' l' acs => Q b h' l' (⟨rd, [], h.sz, h.sz, none⟩ :: acs))
    (h3 : b = false → SpB T nt ops l ((d, .bool false) :: bs) h low fun b h' l' acs => Q b h' l' (⟨rd, [], h.sz, h.sz, none⟩ :: acs)) : SpB T nt ops (o :: l) bs h low Q :=
  SpB.bool hw hall ha hd hlt h2 h3

/-- An element of a slice, by a number from 0 on. -/
theorem SpB.indexN {nt : Nat} {ops l : List Oper} {o : Oper} {bs : Bs} {h : AH} {low : Nat} {Q : Bs → AH → Nat → List Acc → Prop} {t e : TypeId} {x i : Operand} {b off len cap : Nat} {k : IntKind} {n : Nat} {ti ei : TI} {d : Nat} (h1 : n < len) (ho : o.op = .indexAddr t x i) (hw : wantedB ops bs o = some true) (hx : evB bs h x = some (.slice (some ⟨b, off, none⟩) len cap))
    (hi : evB bs h i = some (.int k n)) (ht : T.ty t = some ti) (hk : ti.k = .slice e) (hte : T.ty e = some ei) (hd : o.dst = some d) (hlt : Nat.blt d nt = true)
    (h2 : SpB T nt ops l ((d, .pointer (some ⟨b, off + n * ei.size, none⟩)) :: bs) h low fun b' h' l' acs => Q b' h' l' (⟨[], [], h.sz, h.sz, none⟩ :: acs)) : SpB T nt ops (o :: l) bs h low Q :=
  SpB.indexS ho hw hx hi ht hk hte (Int.natCast_nonneg n) (by omega) hd hlt h2

/-- A statement after which only these temporaries count. -/
theorem WpB.cut {nt : Nat} {bs : Bs} {h : AH} {low : Nat} {Q : Ex → Bs → AH → Nat → Prop} {a b : Code} (b0 : Bs) (J : AH → Prop) (ha : WpB T nt a bs h low (thenB (fun bs' h' l' => (∀ t v, look b0 t = some v → look bs' t = some v) ∧ J h' ∧ l' = low) Q))
    (hb : ∀ h', J h' → WpB T nt b b0 h' low Q) : WpB T nt (.seq a b) bs h low Q :=
  WpB.seq (ha.mono fun ex b h' l' hq => by
    cases ex with
    | normal =>
      obtain ⟨h1, h2, h3⟩ := hq
      subst h3
      exact (hb h' h2).sub h1
    | exit id => exact hq
    | ret => exact hq)

/-- One more. -/
theorem SpB.inc {nt : Nat} {ops l : List Oper} {o : Oper} {bs : Bs} {h : AH} {low : Nat} {Q : Bs → AH → Nat → List Acc → Prop} {t u : TypeId} {x : Operand} {i d : Nat} (hs : i < 9223372036854775807) (ho : o.op = .binOp .add t x (.const (.int .i64 1)) u) (hw : wantedB ops bs o = some true) (hx : evB bs h x = some (.int .i64 (i : Int)))
    (hd : o.dst = some d) (hlt : Nat.blt d nt = true)
    (h2 : SpB T nt ops l ((d, .int .i64 ((i + 1 : Nat) : Int)) :: bs) h low fun b' h' l' acs => Q b' h' l' (⟨[], [], h.sz, h.sz, none⟩ :: acs)) : SpB T nt ops (o :: l) bs h low Q :=
  SpB.pure hw (by
    have h4 : evB bs h (.const (.int .i64 1)) = some (.int .i64 1) := rfl
    rw [ho]
    simp [Op.operands, allB, hx, h4]) (by
    have h1 : rho bs h (.const (.int .i64 1)) = .int .i64 1 := rfl
    have h3 : abin T .add t (.int .i64 (i : Int)) (.int .i64 1) = some (.int .i64 (IntKind.i64.wrap ((i : Int) + 1))) := rfl
    simp only [aop, ho, rho_some hx, h1, h3, nat_wrap hs, okO]) hd hlt h2

def isBoolV : Value → Bool
  | .bool _ => true
  | _ => false

/-- An operation without effect, but for a truth value on which something hangs in this region. -/
theorem SpB.pureS {nt : Nat} {ops l : List Oper} {o : Oper} {bs : Bs} {h : AH} {low : Nat} {Q : Bs → AH → Nat → List Acc → Prop} {v : Value} {rd : List Nat} {d : Nat} (hw : wantedB ops bs o = some true) (hall : allB bs h o.op.operands.toList = true) (ha : aop T h (rho bs h) o = some (.val v .nil rd)) (hg : (guardsIn l && isBoolV v) = false) (hd : o.dst = some d) (hlt : Nat.blt d nt = true)
    (h2 : SpB T nt ops l ((d, v) :: bs) h low fun b h' l' acs => Q b h' l' (⟨rd, [], h.sz, h.sz, none⟩ :: acs)) : SpB T nt ops (o :: l) bs h low Q :=
  SpB.pure hw hall ha hd hlt h2

/-- .. where the statement is already at hand. -/
theorem WpB.cut1 {nt : Nat} {bs : Bs} {h : AH} {low : Nat} {Q : Ex → Bs → AH → Nat → Prop} {a b : Code} (b0 : Bs) (J : AH → Prop) (ha : WpB T nt a bs h low (thenB (fun bs' h' l' => (∀ t v, look b0 t = some v → look bs' t = some v) ∧ J h' ∧ l' = low) Q))
    (hb : ∀ h', J h' → WpB T nt b b0 h' low Q) : WpB T nt a bs h low (thenB (fun bs' h' l' => WpB T nt b bs' h' l' Q) Q) :=
  ha.mono fun ex b h' l' hq => by
    cases ex with
    | normal =>
      obtain ⟨h1, h2, h3⟩ := hq
      subst h3
      exact (hb h' h2).sub h1
    | exit id => exact hq
    | ret => exact hq

theorem res1 {h : AH} {bs : Bs} {t : Nat} {v : Value} (hl : look bs t = some v) (h1 : isOne v = true) : resAllB T h bs [.tmp t] = some v := by
  simp [resAllB, resVsB, resVB, hl, h1]

theorem Own.one {h : AH} {lo size n : Nat} {v : Value} {cs : List Value} (o : Own h lo size v n cs) : isOne v = true := by
  rcases o with ⟨rfl, _⟩ | ⟨k, cap, _, _, rfl, _⟩ <;> rfl

theorem Own.shape {h : AH} {lo size n : Nat} {v : Value} {cs : List Value} (o : Own h lo size v n cs) : ∃ a cap, v = .slice a n cap ∧ ∀ i, i < n → ∃ k, k < h.sz ∧ lo ≤ k ∧ a = some ⟨h.n + k, 0, none⟩ ∧ h.blk k = some (.cells cs) := by
  rcases o with ⟨rfl, rfl, _⟩ | ⟨k, cap, h1, h2, rfl, h4, _⟩
  · exact ⟨none, 0, rfl, fun i hi => absurd hi (Nat.not_lt_zero _)⟩
  · exact ⟨_, cap, rfl, fun i _ => ⟨k, h2, h1, rfl, h4⟩⟩

end Go.Vae

/- Rules for walks: truth values are split at once; loads of a known piece; counting loops; calls that only look. -/
import Derived.Test.YtkjkcoemloakhaaGreatVae24
set_option linter.unusedVariables false
set_option linter.unusedSimpArgs false
namespace Go.Vae
open Go Go.RowKit

variable {P : Program} {T : Tabs}

/-! ### the caller's memory -/
abbrev RO := Nat → Nat → Nat → Option (List Value)

def roRd (n : Nat) (ro : Nat → Nat → Option Value) : RO := fun b off m => bif Nat.blt b n then roCells (ro b) off m else none

def AH.rd (h : AH) : RO := roRd h.n h.ro

theorem AH.rd_cut {h : AH} {b off m : Nat} {cs : List Value} (hr : h.rd b off m = some cs) : h.cut b off m = some cs := by
  unfold AH.rd roRd at hr
  unfold AH.cut
  cases hb : Nat.blt b h.n <;> rw [hb] at hr
  · cases hr
  · exact hr

theorem AH.rd_cell {h : AH} {b off : Nat} {v : Value} (hr : h.rd b off 1 = some [v]) : h.cell b off = some v := by
  unfold AH.rd roRd at hr
  unfold AH.cell
  cases hb : Nat.blt b h.n <;> rw [hb] at hr
  · cases hr
  · simp only [cond, roCells] at hr ⊢
    split at hr
    · rename_i u hu
      simp at hr
      rw [hu, hr]
    · cases hr

theorem AH.rd_blt {h : AH} {b off m : Nat} {cs : List Value} (hr : h.rd b off m = some cs) : Nat.blt b h.n = true := by
  unfold AH.rd roRd at hr
  cases hb : Nat.blt b h.n <;> rw [hb] at hr
  · cases hr

theorem Grow.rd {h h' : AH} {l : Nat} (g : Grow h l h') : h'.rd = h.rd := by unfold AH.rd; rw [g.n, g.ro]

/-! ### what a call leaves, for nothing -/
theorem Fp.grow (ht : TabsOK P T) {f : FuncId} {args : List Value} {h : AH} (hwf : h.wf) {Q : Value → AH → Nat → Prop} (hf : Fp T f args h Q) : Fp T f args h fun v h' low => Q v h' low ∧ Grow h low h' := by
  obtain ⟨v, h', low, ⟨k, hk⟩, hq⟩ := hf
  exact ⟨v, h', low, ⟨k, hk⟩, hq, (runF_ok ht k f args h v h' low hk hwf).1⟩

/-- A call that looks and answers. -/
def Rp (T : Tabs) (f : FuncId) (args : List Value) (h : AH) (v : Value) : Prop := Fp T f args h fun v' h' low => v' = v ∧ h' = h ∧ low = h.sz

theorem Rp.of {f : FuncId} {args : List Value} {h : AH} {v : Value} {fi : FI} (hkn : T.known f = none) (hf : T.fn f = some fi) (hl : Nat.ble args.length fi.nt = true)
    (hw : WpB T fi.nt fi.code (bsOf 0 args []) h h.sz (endB T fi fun v' h' low => v' = v ∧ h' = h ∧ low = h.sz)) : Rp T f args h v := FpB.of hkn hf hl hw

section
variable {nt : Nat} {ops l : List Oper} {o : Oper} {bs : Bs} {h : AH} {low : Nat} {Q : Bs → AH → Nat → List Acc → Prop}

/-- A truth value: both ways. -/
theorem SpB.bool {b : Bool} {rd : List Nat} {d : Nat} (hw : wantedB ops bs o = some true) (hall : allB bs h o.op.operands.toList = true) (ha : aop T h (rho bs h) o = some (.val (.bool b) .nil rd)) (hd : o.dst = some d) (hlt : Nat.blt d nt = true)
    (h2 : b = true → SpB T nt ops l ((d, .bool true) :: bs) h low fun b h' l' acs => Q b h' l' (⟨rd, [], h.sz, h.sz, none⟩ :: acs))
    (h3 : b = false → SpB T nt ops l ((d, .bool false) :: bs) h low fun b h' l' acs => Q b h' l' (⟨rd, [], h.sz, h.sz, none⟩ :: acs)) : SpB T nt ops (o :: l) bs h low Q :=
  SpB.pure hw hall ha hd hlt (by cases b with | true => exact h2 rfl | false => exact h3 rfl)

theorem SpB.boolT {b : Bool} {rd : List Nat} {d : Nat} (hb : b = true) (hw : wantedB ops bs o = some true) (hall : allB bs h o.op.operands.toList = true) (ha : aop T h (rho bs h) o = some (.val (.bool b) .nil rd)) (hd : o.dst = some d) (hlt : Nat.blt d nt = true)
    (h2 : SpB T nt ops l ((d, .bool true) :: bs) h low fun b h' l' acs => Q b h' l' (⟨rd, [], h.sz, h.sz, none⟩ :: acs)) : SpB T nt ops (o :: l) bs h low Q :=
  SpB.pure hw hall ha hd hlt (by subst hb; exact h2)

theorem SpB.boolF {b : Bool} {rd : List Nat} {d : Nat} (hb : b = false) (hw : wantedB ops bs o = some true) (hall : allB bs h o.op.operands.toList = true) (ha : aop T h (rho bs h) o = some (.val (.bool b) .nil rd)) (hd : o.dst = some d) (hlt : Nat.blt d nt = true)
    (h2 : SpB T nt ops l ((d, .bool false) :: bs) h low fun b h' l' acs => Q b h' l' (⟨rd, [], h.sz, h.sz, none⟩ :: acs)) : SpB T nt ops (o :: l) bs h low Q :=
  SpB.pure hw hall ha hd hlt (by subst hb; exact h2)

/-- An operation whose answer is told otherwise. -/
theorem SpB.pureEq {u v : Value} {rd : List Nat} {d : Nat} (hw : wantedB ops bs o = some true) (hall : allB bs h o.op.operands.toList = true) (ha : aop T h (rho bs h) o = some (.val u .nil rd)) (hd : o.dst = some d) (hlt : Nat.blt d nt = true) (hv : u = v)
    (h2 : SpB T nt ops l ((d, v) :: bs) h low fun b h' l' acs => Q b h' l' (⟨rd, [], h.sz, h.sz, none⟩ :: acs)) : SpB T nt ops (o :: l) bs h low Q :=
  SpB.pure hw hall ha hd hlt (by subst hv; exact h2)

theorem loadT_cut {t : TypeId} {ti : TI} {b off : Nat} {cs : List Value} (ht : T.ty t = some ti) (ha : ti.agg = true) (hc : h.cut b off ti.size = some cs) : loadT T h t b off = some (mkAgg cs) := by
  simp [loadT, ht, ha, hc]

theorem loadT_cell {t : TypeId} {ti : TI} {b off : Nat} {v : Value} (ht : T.ty t = some ti) (ha : ti.agg = false) (hc : h.cell b off = some v) : loadT T h t b off = some v := by
  simp [loadT, ht, ha, hc]

/-- A struct from the caller's memory. -/
theorem SpB.loadA {t : TypeId} {ti : TI} {x : Operand} {b off : Nat} {cs : List Value} {d : Nat} (ho : o.op = .load t x) (hw : wantedB ops bs o = some true) (he : evB bs h x = some (.pointer (some ⟨b, off, none⟩))) (ht : T.ty t = some ti) (ha : ti.agg = true)
    (hc : h.rd b off ti.size = some cs) (hd : o.dst = some d) (hlt : Nat.blt d nt = true)
    (h2 : SpB T nt ops l ((d, .agg ⟨cs⟩) :: bs) h low fun b' h' l' acs => Q b' h' l' (⟨rdOf h b, [], h.sz, h.sz, none⟩ :: acs)) : SpB T nt ops (o :: l) bs h low Q :=
  SpB.load ho hw he (loadT_cut ht ha (AH.rd_cut hc)) hd hlt h2

/-- A cell of the caller's memory. -/
theorem SpB.loadC {t : TypeId} {ti : TI} {x : Operand} {b off : Nat} {v : Value} {d : Nat} (ho : o.op = .load t x) (hw : wantedB ops bs o = some true) (he : evB bs h x = some (.pointer (some ⟨b, off, none⟩))) (ht : T.ty t = some ti) (ha : ti.agg = false)
    (hc : h.rd b off 1 = some [v]) (hd : o.dst = some d) (hlt : Nat.blt d nt = true)
    (h2 : SpB T nt ops l ((d, v) :: bs) h low fun b' h' l' acs => Q b' h' l' (⟨rdOf h b, [], h.sz, h.sz, none⟩ :: acs)) : SpB T nt ops (o :: l) bs h low Q :=
  SpB.load ho hw he (loadT_cell ht ha (AH.rd_cell hc)) hd hlt h2

/-- A call that looks. -/
theorem SpB.callR {f : FuncId} {args : List Value} {v : Value} {d : Nat} (hw : wantedB ops bs o = some true) (hall : allB bs h o.op.operands.toList = true) (ha : aop T h (rho bs h) o = some (.go f args)) (hf : Rp T f args h v) (hd : o.dst = some d) (hlt : Nat.blt d nt = true) (hlow : low ≤ h.sz)
    (h2 : SpB T nt ops l ((d, v) :: bs) h low fun b h'' l' acs => Q b h'' l' (⟨[], [], h.sz, h.sz, some (Nat.blt h.sz h.sz)⟩ :: acs)) : SpB T nt ops (o :: l) bs h low Q :=
  SpB.call hw hall ha hf hd hlt (by
    rintro v' h' low' ⟨rfl, rfl, rfl⟩
    rw [show Nat.min low h'.sz = low from Nat.min_eq_left hlow]
    exact h2)

/-- A call that looks and answers a truth value: both ways. -/
theorem SpB.callB {f : FuncId} {args : List Value} {b : Bool} {d : Nat} (hw : wantedB ops bs o = some true) (hall : allB bs h o.op.operands.toList = true) (ha : aop T h (rho bs h) o = some (.go f args)) (hf : Rp T f args h (.bool b)) (hd : o.dst = some d) (hlt : Nat.blt d nt = true) (hlow : low ≤ h.sz)
    (h2 : b = true → SpB T nt ops l ((d, .bool true) :: bs) h low fun b h'' l' acs => Q b h'' l' (⟨[], [], h.sz, h.sz, some (Nat.blt h.sz h.sz)⟩ :: acs))
    (h3 : b = false → SpB T nt ops l ((d, .bool false) :: bs) h low fun b h'' l' acs => Q b h'' l' (⟨[], [], h.sz, h.sz, some (Nat.blt h.sz h.sz)⟩ :: acs)) : SpB T nt ops (o :: l) bs h low Q :=
  SpB.callR hw hall ha hf hd hlt hlow (by cases b with | true => exact h2 rfl | false => exact h3 rfl)
end

section
variable {nt : Nat} {bs : Bs} {h : AH} {low : Nat} {Q : Ex → Bs → AH → Nat → Prop}

theorem WpB.condT {c : Operand} {a b : Code} (hc : evB bs h c = some (.bool true)) (ha : WpB T nt a bs h low Q) : WpB T nt (.cond c a b) bs h low Q := WpB.cond hc (fun _ => ha) fun h => by cases h
theorem WpB.condF {c : Operand} {a b : Code} (hc : evB bs h c = some (.bool false)) (ha : WpB T nt b bs h low Q) : WpB T nt (.cond c a b) bs h low Q := WpB.cond hc (fun h => by cases h) fun _ => ha

/-- A loop that counts from 0 to at most N and only looks. -/
theorem WpB.loopR {c : Code} (N : Nat) (B : Nat → Bs) (ok : Nat → Prop) (h0 : ok 0) (hs : ∀ t v, look (B 0) t = some v → look bs t = some v)
    (hr : ∀ i, i ≤ N → ok i → WpB T nt c (B i) h low (thenB (fun bs' h' l' => i < N ∧ ok (i + 1) ∧ (∀ t v, look (B (i + 1)) t = some v → look bs' t = some v) ∧ h' = h ∧ l' = low) Q)) : WpB T nt (.loop c) bs h low Q :=
  WpB.loop (fun m bs' h' l' => ∃ i, m + i = N ∧ bs' = B i ∧ ok i ∧ h' = h ∧ l' = low) (fun m bs' h' l' ⟨i, hi, e1, hok, e2, e3⟩ => by
    subst e1 e2 e3
    refine (hr i (by omega) hok).mono fun ex b h' l' hq => ?_
    cases ex with
    | normal =>
      obtain ⟨h1, h2, h3, h4, h5⟩ := hq
      exact ⟨m - 1, B (i + 1), by omega, h3, i + 1, by omega, rfl, h2, h4, h5⟩
    | exit id => exact hq
    | ret => exact hq) (n := N) (b0 := B 0) ⟨0, by simp, rfl, h0, rfl, rfl⟩ hs

/-- A loop that counts from 0 to at most N; the memory grows. -/
theorem WpB.loopG {c : Code} (N : Nat) (I : Nat → Bs → AH → Nat → Prop) (hr : ∀ i bs h low, i ≤ N → I i bs h low → WpB T nt c bs h low (thenB (fun bs' h' l' => i < N ∧ ∃ b, (∀ t v, look b t = some v → look bs' t = some v) ∧ I (i + 1) b h' l') Q))
    {b0 : Bs} (h0 : I 0 b0 h low) (hs : ∀ t v, look b0 t = some v → look bs t = some v) : WpB T nt (.loop c) bs h low Q :=
  WpB.loop (fun m bs' h' l' => ∃ i, m + i = N ∧ I i bs' h' l') (fun m bs' h' l' ⟨i, hi, hI⟩ => by
    refine (hr i bs' h' l' (by omega) hI).mono fun ex b h' l' hq => ?_
    cases ex with
    | normal =>
      obtain ⟨h1, b2, h2, h3⟩ := hq
      exact ⟨m - 1, b2, by omega, h2, i + 1, by omega, h3⟩
    | exit id => exact hq
    | ret => exact hq) (n := N) (b0 := b0) ⟨0, by simp, h0⟩ hs
end

end Go.Vae

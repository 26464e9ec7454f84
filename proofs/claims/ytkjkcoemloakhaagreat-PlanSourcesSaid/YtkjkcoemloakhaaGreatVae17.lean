/- Single operations from known temporaries; sums that do not overflow. -/
import Derived.Test.YtkjkcoemloakhaaGreatVae16
set_option linter.unusedVariables false
set_option linter.unusedSimpArgs false
namespace Go.Vae
open Go Go.RowKit

variable {T : Tabs}

section
variable {nt : Nat} {ops l : List Oper} {o : Oper} {bs : Bs} {h : AH} {low : Nat} {Q : Bs → AH → Nat → List Acc → Prop}

theorem rho_some {x : Operand} {v : Value} (h1 : evB bs h x = some v) : rho bs h x = v := by simp [rho, h1]

theorem SpB.move {x : Operand} {v : Value} {d : Nat} (ho : o.op = .move x) (hw : wantedB ops bs o = some true) (he : evB bs h x = some v) (hd : o.dst = some d) (hlt : Nat.blt d nt = true)
    (h2 : SpB T nt ops l ((d, v) :: bs) h low fun b h' l' acs => Q b h' l' (⟨[], [], h.sz, h.sz, none⟩ :: acs)) : SpB T nt ops (o :: l) bs h low Q :=
  SpB.pure hw (by rw [ho]; simp [Op.operands, allB, he]) (by simp only [aop, ho]; rw [rho_some he]; rfl) hd hlt h2

theorem SpB.assign {x : Operand} {v : Value} {d : Nat} (ho : o.op = .assign x) (hw : wantedB ops bs o = some true) (he : evB bs h x = some v) (hd : o.dst = some d) (hlt : Nat.blt d nt = true)
    (h2 : SpB T nt ops l ((d, v) :: bs) h low fun b h' l' acs => Q b h' l' (⟨[], [], h.sz, h.sz, none⟩ :: acs)) : SpB T nt ops (o :: l) bs h low Q :=
  SpB.pure hw (by rw [ho]; simp [Op.operands, allB, he]) (by simp only [aop, ho]; rw [rho_some he]; rfl) hd hlt h2

theorem SpB.load {t : TypeId} {x : Operand} {b off : Nat} {v : Value} {d : Nat} (ho : o.op = .load t x) (hw : wantedB ops bs o = some true) (he : evB bs h x = some (.pointer (some ⟨b, off, none⟩))) (hl : loadT T h t b off = some v) (hd : o.dst = some d) (hlt : Nat.blt d nt = true)
    (h2 : SpB T nt ops l ((d, v) :: bs) h low fun b' h' l' acs => Q b' h' l' (⟨rdOf h b, [], h.sz, h.sz, none⟩ :: acs)) : SpB T nt ops (o :: l) bs h low Q :=
  SpB.pure hw (by rw [ho]; simp [Op.operands, allB, he]) (by simp only [aop, ho, rho_some he, aload, hl]) hd hlt h2

/-- The address of an element of a slice. -/
theorem SpB.indexS {t e : TypeId} {x i : Operand} {b off len cap : Nat} {k : IntKind} {n : Int} {ti ei : TI} {d : Nat} (ho : o.op = .indexAddr t x i) (hw : wantedB ops bs o = some true) (hx : evB bs h x = some (.slice (some ⟨b, off, none⟩) len cap))
    (hi : evB bs h i = some (.int k n)) (ht : T.ty t = some ti) (hk : ti.k = .slice e) (hte : T.ty e = some ei) (h0 : 0 ≤ n) (h1 : n < (len : Int)) (hd : o.dst = some d) (hlt : Nat.blt d nt = true)
    (h2 : SpB T nt ops l ((d, .pointer (some ⟨b, off + n.toNat * ei.size, none⟩)) :: bs) h low fun b' h' l' acs => Q b' h' l' (⟨[], [], h.sz, h.sz, none⟩ :: acs)) : SpB T nt ops (o :: l) bs h low Q :=
  SpB.pure hw (by rw [ho]; simp [Op.operands, allB, hx, hi]) (by simp [aop, ho, rho_some hx, rho_some hi, aindexAddr, ht, hk, hte, h0, h1]; rfl) hd hlt h2
end

/-- A shorter list of known temporaries. -/
theorem sub_nil {bs : Bs} : ∀ t v, look [] t = some v → look bs t = some v := fun t v h => by simp [look] at h

theorem sub_cons {bs r : Bs} {t0 : Nat} {v0 : Value} (h0 : look bs t0 = some v0) (h : ∀ t v, look r t = some v → look bs t = some v) : ∀ t v, look ((t0, v0) :: r) t = some v → look bs t = some v := by
  intro t v hv
  simp only [look] at hv
  cases hb : Nat.beq t0 t with
  | true =>
    rw [hb] at hv
    injection hv with hv
    have e : t0 = t := by simpa [Nat.beq_eq] using hb
    rw [← e, ← hv]
    exact h0
  | false => rw [hb] at hv; exact h t v hv

theorem wrap_small {n : Int} (h0 : -9223372036854775808 ≤ n) (h1 : n ≤ 9223372036854775807) : IntKind.i64.wrap n = n := by rw [IntKind.wrap_i64]; omega

theorem nat_wrap {n : Nat} (h : n < 9223372036854775807) : IntKind.i64.wrap ((n : Int) + 1) = ((n + 1 : Nat) : Int) := by rw [wrap_small (by omega) (by omega)]; simp

end Go.Vae

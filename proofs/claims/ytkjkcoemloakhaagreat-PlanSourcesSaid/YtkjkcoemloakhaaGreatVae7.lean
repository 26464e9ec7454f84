/- Each operation of the evaluator is carried out by the machine in the same way: make, slice expressions, the builtins. -/
import Derived.Test.YtkjkcoemloakhaaGreatVae6
set_option linter.unusedVariables false
set_option linter.unusedSimpArgs false
namespace Go.Vae
open Go Go.RowKit

variable {P : Program} {T : Tabs} {x : Cx} {j : Inj} {B : Nat → Option AO} {w : World}

theorem small_ne_unk {n : Nat} (h : n ≤ 70368744177664) : n < unk := by unfold unk; omega

theorem make_ok {hp : AH} (ht : TabsOK P T) (hx : hp.of x) (hng : x.ng ≤ x.n) (r : Rel x j B w) {t : TypeId} {l l' c c' v : Value} {e : Eff} {rd : List Nat} (hn : hp.sz < esz hp.sz e → j (x.n + hp.sz) = none)
    (h : amake T hp t l c = some (.val v e rd)) (hl : VR j l l') (hc : VR j c c') : Out P x j B hp.sz w (nv (Instr.makeSlice t l' c')) v e := by
  unfold amake at h
  split at h
  · rename_i n m ti hti
    obtain rfl := hl.int
    obtain rfl := hc.int
    split at h
    · rename_i el hk
      split at h
      · rename_i ei hei
        cases hb : (decide (n = m) && decide (0 ≤ n) && Nat.ble (ei.bytes * n.toNat) 70368744177664 && Nat.ble n.toNat 70368744177664 && Nat.ble 1 ei.size) with
        | false => rw [hb] at h; cases h
        | true =>
          rw [hb] at h
          simp only [cond] at h
          injection h with h
          injection h with h1 h2 h3
          subst h1 h2
          simp only [Bool.and_eq_true, decide_eq_true_eq] at hb
          obtain ⟨⟨⟨⟨rfl, hb1⟩, hb2⟩, hb3⟩, hb4⟩ := hb
          have hb2 := Nat.le_of_ble_eq_true hb2
          have hb3 := Nat.le_of_ble_eq_true hb3
          have hb4 := Nat.le_of_ble_eq_true hb4
          obtain ⟨k, rfl⟩ := Int.eq_ofNat_of_zero_le hb1
          simp only [Int.toNat_natCast] at hb2 hb3
          have hty := ht.ty el ei hei
          obtain ⟨i, i1, i2, i3, i4⟩ := hty.typeInfo w
          obtain ⟨z, z1, z2⟩ := hty.zeroValue w
          have hzs : z.cells.size = ei.size := by rw [z2]; simpa using hty.zlen
          have hzl : z.cells.toList = ei.zero := by rw [z2]
          have hnb : (i.bytes : Int) * (k : Int) ≤ 281474976710656 := by
            rw [i4, ← Int.natCast_mul]
            exact Int.ofNat_le.2 (Nat.le_trans hb2 (by decide))
          have hrm := range_map z.cells k (by omega)
          rw [hzl, hzs] at hrm
          have hcur : ((Array.range (k * ei.size)).map (z.cells[· % ei.size]!)).toList = reps k ei.zero := hrm
          refine Out.new (cur := (Array.range (k * ei.size)).map (z.cells[· % ei.size]!)) (t := el) (w' := { w with heap := w.heap.push (.cells ((Array.range (k * ei.size)).map (z.cells[· % ei.size]!)) el) }) (v' := .slice (some ⟨w.heap.size, 0, none⟩) k k) r hng (hn (Nat.lt_succ_self _)) (nv_run ?_) same_push rfl (fun q u hu => ?_) ?_
          · obtain ⟨i', z', y1, y2, y3, y4, y5⟩ := hty.info
            rw [i2] at y1
            injection y1 with y1
            subst y1
            have hr := run_make (P := P) w t el i z' (kind_slice ht hti hk) i2 y4 .i64 .i64 k k (by omega) (Int.le_refl _) hnb (by omega)
            simp only [Int.toNat_natCast, i3] at hr
            rw [hr]
            have hzz : z'.cells = z.cells := by rw [y5, z2]
            simp only [World.alloc, madeCells, hzz, hzs]
          · simp only [Int.toNat_natCast] at hu
            rw [← hcur] at hu
            refine ⟨u, by rw [← Array.getElem?_toList]; exact hu, ?_⟩
            rw [hcur] at hu
            exact reps_sr (hty.zsr j) k u (List.mem_of_getElem? hu)
          · rw [hx.2.1]
            simp only [Int.toNat_natCast]
            exact .of (.slice (addr_new _ _ _) (.inl ⟨rfl, small_ne_unk hb3⟩))
      · cases h
    · cases h
  · cases h

inductive OR (j : Inj) : Option Value → Option Value → Prop where
  | none : OR j .none .none
  | some {v v' : Value} (h : VR j v v') : OR j (.some v) (.some v')

theorem abound_spec {o o' : Option Value} {d l : Nat} (h : abound o d = some l) (ho : OR j o o') : (o = none ∧ o' = none ∧ l = d) ∨ ∃ n : Int, o = some (.int .i64 n) ∧ o' = some (.int .i64 n) ∧ 0 ≤ n ∧ l = n.toNat := by
  cases ho with
  | none => simp [abound] at h; exact .inl ⟨rfl, rfl, h.symm⟩
  | some hv =>
    unfold abound at h
    split at h
    · rename_i e; cases e
    · rename_i d' n e
      injection e with e
      subst e
      obtain rfl := hv.int
      cases hb : decide (0 ≤ n) with
      | false => rw [hb] at h; cases h
      | true =>
        rw [hb] at h
        simp only [cond] at h
        injection h with h
        exact .inr ⟨n, rfl, rfl, of_decide_eq_true hb, h.symm⟩
    · cases h

theorem sliceBound_run {n : Int} {y : Nat} (h0 : 0 ≤ n) (h1 : n.toNat ≤ y) (code : BoundsCode) (w : World) : (Instr.sliceBound (.int .i64 n) y code).run P w = .ok n.toNat w := by
  have h2 : n ≤ (y : Int) := by omega
  simp [Instr.sliceBound, asIntOf, h0, h2]

theorem sliceBounds_run {isS : Bool} {len cap l u m : Nat} {lo hi mx lo' hi' mx' : Option Value} (hlo : abound lo 0 = some l) (hhi : abound hi len = some u) (hmx : abound mx cap = some m) (olo : OR j lo lo') (ohi : OR j hi hi') (omx : OR j mx mx')
    (h1 : l ≤ u) (h2 : u ≤ m) (h3 : m ≤ cap) (h4 : mx = none ∨ hi.isSome = true) (w : World) : (Instr.sliceBounds isS len cap lo' hi' mx').run P w = .ok (l, u, m) w := by
  rcases abound_spec hmx omx with ⟨rfl, rfl, rfl⟩ | ⟨nm, rfl, rfl, g1, rfl⟩
  · rcases abound_spec hhi ohi with ⟨rfl, rfl, rfl⟩ | ⟨nh, rfl, rfl, g2, rfl⟩
    · rcases abound_spec hlo olo with ⟨rfl, rfl, rfl⟩ | ⟨nl, rfl, rfl, g3, rfl⟩
      · simp [Instr.sliceBounds]
      · simp [Instr.sliceBounds, sliceBound_run g3 h1]
    · rcases abound_spec hlo olo with ⟨rfl, rfl, rfl⟩ | ⟨nl, rfl, rfl, g3, rfl⟩
      · simp [Instr.sliceBounds, sliceBound_run g2 h2]
      · simp [Instr.sliceBounds, sliceBound_run g2 h2, sliceBound_run g3 h1]
  · rcases abound_spec hhi ohi with ⟨rfl, rfl, rfl⟩ | ⟨nh, rfl, rfl, g2, rfl⟩
    · rcases h4 with h4 | h4 <;> simp at h4
    · rcases abound_spec hlo olo with ⟨rfl, rfl, rfl⟩ | ⟨nl, rfl, rfl, g3, rfl⟩
      · simp [Instr.sliceBounds, sliceBound_run g1 h3, sliceBound_run g2 h2]
      · simp [Instr.sliceBounds, sliceBound_run g1 h3, sliceBound_run g2 h2, sliceBound_run g3 h1]

/-- A larger capacity does as well, where none is asked for. -/
theorem sliceBounds_run' {isS : Bool} {len cap l u : Nat} {lo hi lo' hi' : Option Value} (hlo : abound lo 0 = some l) (hhi : abound hi len = some u) (olo : OR j lo lo') (ohi : OR j hi hi')
    (h1 : l ≤ u) (h2 : u ≤ cap) (w : World) : (Instr.sliceBounds isS len cap lo' hi' none).run P w = .ok (l, u, cap) w :=
  sliceBounds_run (mx := none) hlo hhi rfl olo ohi .none h1 h2 (Nat.le_refl _) (.inl rfl) w

theorem slice_ok {sz : Nat} (ht : TabsOK P T) (r : Rel x j B w) {t : TypeId} {a a' v : Value} {lo hi mx lo' hi' mx' : Option Value} {e : Eff} {rd : List Nat} (h : aslice T t a lo hi mx = some (.val v e rd))
    (ha : VR j a a') (olo : OR j lo lo') (ohi : OR j hi hi') (omx : OR j mx mx') : Out P x j B sz w (nv (Instr.sliceAt t a' lo' hi' mx')) v e := by
  unfold aslice at h
  split at h
  · rename_i s ti hti
    obtain rfl := ha.str
    split at h
    · rename_i hk
      split at h
      · rename_i l u hl hu
        cases hb : (Nat.ble l u && Nat.ble u s.data.toList.length) with
        | false => rw [hb] at h; cases h
        | true =>
          rw [hb] at h
          obtain ⟨rfl, rfl, rfl⟩ := ok_some h
          simp only [Bool.and_eq_true, Nat.ble_eq] at hb
          cases omx
          have hu' := kind_string ht hti hk
          have hrun := sliceBounds_run' (P := P) (isS := false) (len := s.size) (cap := s.size) hl hu olo ohi hb.1 hb.2 w
          refine Out.pure r (nv_run (v := .string (s.extract l u)) ?_) ?_
          · simp [Instr.sliceAt, Instr.slice, run_underlying hu', hrun]
          · have : s.extract l u = ⟨⟨(s.data.toList.take u).drop l⟩⟩ := by
              apply ByteArray.ext
              rw [ByteArray.data_extract]
              apply Array.ext'
              simp [List.drop_take]
            rw [this]
            exact .of (.str _)
      · cases h
    · cases h
  · rename_i ao len cap ti hti
    split at h
    · rename_i el hk
      have hu' := kind_slice ht hti hk
      split at h
      · rename_i ei hei
        have hsz := (ht.ty el ei hei).sizeOf w
        cases hc : Nat.ble unk cap with
        | true =>
          rw [hc] at h
          simp only [cond] at h
          have hcap : unk ≤ cap := Nat.le_of_ble_eq_true hc
          split at h
          · rename_i l u b off hl hu
            cases hb : (Nat.ble l u && Nat.ble u len && (Nat.blt l len || Nat.beq l 0) && Nat.beq cap (unk + ei.size)) with
            | false => rw [hb] at h; cases h
            | true =>
              rw [hb] at h
              obtain ⟨rfl, rfl, rfl⟩ := ok_some h
              simp only [Bool.and_eq_true, Bool.or_eq_true, Nat.ble_eq, Nat.blt_eq, Nat.beq_eq] at hb
              obtain ⟨ad, c', rfl, had, hcc⟩ := ha.slice
              obtain ⟨hle, es, ln, hcc, hln, hrow⟩ : CapR j ad len cap c' := by
                rcases hcc with ⟨h1, h2⟩ | h2
                · omega
                · exact h2
              obtain ⟨⟨⟨hb1, hb2⟩, hb3⟩, hb4⟩ := hb
              obtain rfl : es = ei.size := by omega
              cases omx
              have hrun := sliceBounds_run' (P := P) (isS := true) (len := len) (cap := c') hl hu olo ohi hb1 (by omega) w
              have hsp : ad.spot = none := had.2.1
              have hadd : (ad.add (l * ei.size)).block = ad.block ∧ (ad.add (l * ei.size)).off = ad.off + l * ei.size := by
                obtain ⟨p, q, rr⟩ := ad
                have hsp : rr = none := hsp
                subst hsp
                rw [Addr.add_lit]
                exact ⟨rfl, rfl⟩
              have hlc : l ≤ c' := by omega
              have hmul : l * ei.size + (c' - l) * ei.size = c' * ei.size := by rw [← Nat.add_mul]; congr 1; omega
              have hcap' : CapR j (ad.add (l * ei.size)) (u - l) cap (c' - l) := ⟨by omega, ei.size, ln, hcc, by rw [hadd.1]; exact hln, by rw [hadd.2]; omega⟩
              refine Out.pure r (nv_run (v := .slice (some (ad.add (l * ei.size))) (u - l) (c' - l)) ?_) (.of (.slice had.add (.inr hcap')))
              by_cases hm : c' = l
              · have hl0 : l = 0 := by omega
                subst hl0
                subst hm
                simp [Instr.sliceAt, Instr.slice, run_underlying hu', hrun, hsz, Addr.add_zero']
              · simp [Instr.sliceAt, Instr.slice, run_underlying hu', hrun, hsz, hm]
          · rename_i m l u b off hl hu
            split at h
            · rename_i m' hm
              cases hb : (Nat.ble l u && Nat.ble u m' && Nat.ble m' len && hi.isSome && Nat.blt m' unk) with
              | false => rw [hb] at h; cases h
              | true =>
                rw [hb] at h
                obtain ⟨rfl, rfl, rfl⟩ := ok_some h
                simp only [Bool.and_eq_true, Nat.ble_eq, Nat.blt_eq] at hb
                obtain ⟨⟨⟨⟨b1, b2⟩, b3⟩, b4⟩, b5⟩ := hb
                obtain ⟨ad, c', rfl, had, hcc⟩ := ha.slice
                have hle : len ≤ c' := by
                  rcases hcc with ⟨h1, h2⟩ | h2
                  · omega
                  · exact h2.1
                have hm2 : abound (some m) c' = some m' := by
                  rcases abound_spec hm omx with ⟨h1, _⟩ | ⟨n, h1, _, h3, h4⟩
                  · cases h1
                  · rw [h1]
                    simp [abound, h3, h4]
                have hrun := sliceBounds_run (P := P) (isS := true) hl hu hm2 olo ohi omx b1 b2 (by omega) (.inr b4) w
                by_cases hml : m' = l
                · subst hml
                  have : Nat.beq m' m' = true := by simp [Nat.beq_eq]
                  rw [this]
                  simp only [cond, Nat.add_zero]
                  refine Out.pure r (nv_run (v := .slice (some ad) (u - m') (m' - m')) ?_) (.of (.slice had (.inl ⟨rfl, by omega⟩)))
                  simp [Instr.sliceAt, Instr.slice, run_underlying hu', hrun, hsz]
                · have : Nat.beq m' l = false := by
                    cases hq : Nat.beq m' l
                    · rfl
                    · exact absurd (by simpa [Nat.beq_eq] using hq) hml
                  rw [this]
                  simp only [cond]
                  refine Out.pure r (nv_run (v := .slice (some (ad.add (l * ei.size))) (u - l) (m' - l)) ?_) (.of (.slice had.add (.inl ⟨rfl, by omega⟩)))
                  simp [Instr.sliceAt, Instr.slice, run_underlying hu', hrun, hsz, hml]
            · cases h
          · cases h
        | false =>
          rw [hc] at h
          simp only [cond] at h
          have hcap : cap < unk := by
            rcases Nat.lt_or_ge cap unk with h1 | h1
            · exact h1
            · rw [Nat.ble_eq_true_of_le h1] at hc
              cases hc
          split at h
          · rename_i m l u hm hl hu
            cases hb : (Nat.ble l u && Nat.ble u m && Nat.ble m cap && (mx.isNone || hi.isSome) && Nat.blt m unk) with
            | false => rw [hb] at h; cases h
            | true =>
              rw [hb] at h
              simp only [cond] at h
              simp only [Bool.and_eq_true, Bool.or_eq_true, Nat.ble_eq, Nat.blt_eq] at hb
              obtain ⟨⟨⟨⟨b1, b2⟩, b3⟩, b4⟩, b5⟩ := hb
              have b4 : mx = none ∨ hi.isSome = true := b4.imp (fun h => by simpa using h) id
              split at h
              · obtain ⟨rfl, rfl, rfl⟩ := ok_some h
                obtain ⟨a', rfl, _, h0⟩ := ha.slice0
                have hrun := sliceBounds_run (P := P) (isS := true) hl hu hm olo ohi omx b1 b2 b3 b4 w
                cases a' with
                | none =>
                  refine Out.pure r (nv_run (v := .slice none (u - l) (m - l)) ?_) (.of (.nilslice none _ _ (by omega) (.inl rfl)))
                  simp [Instr.sliceAt, Instr.slice, run_underlying hu', hrun, hsz]
                | some ad =>
                  obtain ⟨h1, h2⟩ : len = 0 ∧ cap = 0 := h0.resolve_left (by simp)
                  obtain rfl : m = 0 := by omega
                  obtain rfl : u = 0 := by omega
                  obtain rfl : l = 0 := by omega
                  refine Out.pure r (nv_run (v := .slice (some ad) 0 0) ?_) (.of (.nilslice (some ad) _ _ (by omega) (.inr ⟨rfl, rfl⟩)))
                  simp [Instr.sliceAt, Instr.slice, run_underlying hu', hrun, hsz]
              · rename_i b off
                obtain ⟨rfl, rfl, rfl⟩ := ok_some h
                obtain ⟨ad, c', rfl, had, hcc⟩ := ha.slice
                have hcc : cap = c' := by
                  rcases hcc with ⟨h1, h2⟩ | ⟨_, _, _, h1, _⟩
                  · exact h1
                  · omega
                subst hcc
                have hrun := sliceBounds_run (P := P) (isS := true) hl hu hm olo ohi omx b1 b2 b3 b4 w
                by_cases hml : m = l
                · subst hml
                  have : Nat.beq m m = true := by simp [Nat.beq_eq]
                  rw [this]
                  simp only [cond, Nat.add_zero]
                  refine Out.pure r (nv_run (v := .slice (some ad) (u - m) (m - m)) ?_) (.of (.slice had (.inl ⟨rfl, by omega⟩)))
                  simp [Instr.sliceAt, Instr.slice, run_underlying hu', hrun, hsz]
                · have : Nat.beq m l = false := by
                    cases hq : Nat.beq m l
                    · rfl
                    · exact absurd (by simpa [Nat.beq_eq] using hq) hml
                  rw [this]
                  simp only [cond]
                  refine Out.pure r (nv_run (v := .slice (some (ad.add (l * ei.size))) (u - l) (m - l)) ?_) (.of (.slice had.add (.inl ⟨rfl, by omega⟩)))
                  simp [Instr.sliceAt, Instr.slice, run_underlying hu', hrun, hsz, hml]
              · cases h
          · cases h
      · cases h
    · cases h
  · cases h

end Go.Vae

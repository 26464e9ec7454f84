/- Each operation of the evaluator is carried out by the machine in the same way: append, copy, clear, min, max. -/
import Derived.Test.YtkjkcoemloakhaaGreatVae7
import Derived.Deep.AppendSrc
set_option linter.unusedVariables false
set_option linter.unusedSimpArgs false
namespace Go.Vae
open Go Go.RowKit

variable {P : Program} {T : Tabs} {x : Cx} {j : Inj} {B : Nat → Option AO} {w : World}

theorem World.cell_heap {w w' : World} (h : w'.heap = w.heap) (a : Addr) : w'.cell? a = w.cell? a := by simp [World.cell?, h]

/-- The cells of what is appended or copied. -/
theorem src_rel {hp : AH} (hx : hp.of x) (r : Rel x j B w) {size n : Nat} {y y' : Value} {cs : List Value} {rd : List Nat} (h : srcCells hp size y n = some (cs, rd)) (hy : VR j y y') (hB : ∀ k, k ∈ rd → B k = hp.blk k) :
    cs.length = n * size ∧ ∃ cs', All2 (SR j) cs cs' ∧ ∀ w' : World, w'.heap = w.heap → (Builtin.firstCells size n y').run P w' = .ok ⟨cs'⟩ w' := by
  unfold srcCells at h
  split at h
  · rename_i b off len cap
    split at h
    · rename_i cs0 hcut
      injection h with h
      injection h with h1 h2
      subst h1
      obtain ⟨ad, c', rfl, had, _⟩ := hy.slice
      obtain ⟨h3, cs', h4, h5⟩ := AH.cut_rel hx r (rd_hB hx h2.symm hB) hcut had
      refine ⟨h3, cs', h4, fun w' hw => ?_⟩
      exact run_firstCells_some w' size n ad len c' cs' (by rw [h4.length, h3]) fun i v hv => by rw [World.cell_heap hw]; exact h5 i v hv
    · cases h
  · cases hb : Nat.beq n 0 with
    | false => rw [hb] at h; cases h
    | true =>
      rw [hb] at h
      injection h with h
      injection h with h1 h2
      subst h1
      obtain ⟨a', rfl, _, _⟩ := hy.slice0
      obtain rfl : n = 0 := by simpa [Nat.beq_eq] using hb
      cases a' with
      | none => exact ⟨by simp, [], .nil, fun w' _ => run_firstCells_none w' _ _ _ _⟩
      | some ad => exact ⟨by simp, [], .nil, fun w' hw => run_firstCells_some w' size 0 ad _ _ [] (by simp) fun i v hv => by simp at hv⟩
  · rename_i s
    cases hb : (Nat.ble n s.data.toList.length && Nat.beq size 1) with
    | false => rw [hb] at h; cases h
    | true =>
      rw [hb] at h
      injection h with h
      injection h with h1 h2
      subst h1
      obtain rfl := hy.str
      simp only [Bool.and_eq_true, Nat.ble_eq, Nat.beq_eq] at hb
      obtain ⟨hb1, rfl⟩ := hb
      refine ⟨by rw [List.length_map, List.length_take, Nat.mul_one]; exact Nat.min_eq_left hb1, _, All2.refl fun v hv => ?_, fun w' _ => ?_⟩
      · obtain ⟨c, _, rfl⟩ := List.mem_map.1 hv
        exact .int _ _
      · simp only [Builtin.firstCells, Sem.run_pure]
        congr 1
        apply Array.ext'
        simp
  · cases h

theorem lenV_run {y y' : Value} {n : Nat} (h : lenV y = some n) (hy : VR j y y') (w : World) : (Builtin.lenOf y').run P w = .ok n w := by
  unfold lenV at h
  split at h
  · rename_i a len cap
    injection h with h
    subst h
    cases a with
    | none => obtain ⟨a', rfl, _, _⟩ := hy.slice0; rfl
    | some a => obtain ⟨ad, c', rfl, _⟩ := hy.slice; rfl
  · injection h with h
    subst h
    obtain rfl := hy.str
    rfl
  · cases h

def storeAt (base : Option Addr) (k : Nat) (vs : List Value) : Sem Unit :=
  match base with
  | some a => storeCells (a.add k) vs
  | none => pure ()

/-- What an append's second argument comes to. -/
structure AS (P : Program) (e : TypeId) (i : TypeInfo) (tx : TypeId) (y' : Value) (n : Nat) (news : List Value) (w : World) : Prop where
  room : ∀ (t ty : TypeId) (base : Option Addr) (sLen sCap : Nat), P.underlying t = some (.slice e) → P.info? e = some i → sLen + n ≤ sCap →
    (Builtin.append_ #[t, tx] ty #[.slice base sLen sCap, y']).run P w = (storeAt base (sLen * i.size) news >>= fun _ => (pure (.slice base (sLen + n) sCap) : Sem Value)).run P w
  grow : ∀ (t ty : TypeId) (base : Option Addr) (sLen sCap : Nat) (z : Value) (olds : List Value), P.underlying t = some (.slice e) → P.info? e = some i → i.zero = some z → 0 < n → sCap < sLen + n → ((sLen + n : Nat) : Int) ≤ 9223372036854775807 →
    Builtin.nextslicecap (sLen + n) sCap * i.bytes ≤ 281474976710656 → (Builtin.firstCells i.size sLen (.slice base sLen sCap)).run P w.drew = .ok ⟨olds⟩ w.drew →
    (Builtin.append_ #[t, tx] ty #[.slice base sLen sCap, y']).run P w =
      .ok (.slice (some ⟨w.heap.size, 0, none⟩) (sLen + n) (grownCap w (sLen + n) sCap e)) (w.drew.alloc (.cells ((olds ++ news).toArray ++ Builtin.zeroCells z.cells (grownCap w (sLen + n) sCap e - (sLen + n))) e))

theorem AS.ofSeq {e : TypeId} {i : TypeInfo} {tx : TypeId} {y' : Value} {n : Nat} {news : List Value} (hk : (∃ e', P.underlying tx = some (.slice e')) ∨ P.underlying tx = some .string) (hl : ∀ w' : World, (Builtin.lenOf y').run P w' = .ok n w')
    (hc : ∀ w' : World, w'.heap = w.heap → (Builtin.firstCells i.size n y').run P w' = .ok ⟨news⟩ w') : AS P e i tx y' n news w := by
  refine ⟨fun t ty base sLen sCap ht hi hroom => ?_, fun t ty base sLen sCap z olds ht hi hz hpn hg h63 hfit hold => ?_⟩
  · have := hc w rfl
    rcases hk with ⟨e', hk⟩ | hk <;> cases base <;> simp [storeAt, Builtin.append_, run_underlying ht, run_underlying hk, Go.sizeOf, Go.typeInfo, hi, hl, hroom, this]
  · have hn : ¬ (sLen + n ≤ sCap) := by omega
    have h63' : ¬ (9223372036854775807 < ((sLen : Int) + (n : Int))) := by omega
    have h48' : ¬ (281474976710656 < Builtin.nextslicecap (sLen + n) sCap * i.bytes) := by omega
    have := hc w.drew rfl
    rcases hk with ⟨e', hk⟩ | hk <;>
      (simp [Builtin.append_, run_underlying ht, run_underlying hk, Go.sizeOf, Go.typeInfo, Go.zeroValue, hi, hz, hl, hn, h63', h48', Question.forced, this, hold, newRow, grownCap]
       congr 2
       apply Array.ext'
       simp [List.append_assoc])

theorem AS.ofZeros {e : TypeId} {i : TypeInfo} {tx : TypeId} {kn : IntKind} {n : Nat} {zc : List Value} {z : Value} (htn : P.underlying tx = some (.int kn)) (hz : i.zero = some z) (hzc : z.cells = ⟨zc⟩) (hzl : zc.length = i.size) (hpos : 0 < i.size)
    (hw : IntKind.i64.wrap (n : Int) = n) (hb : n * i.bytes ≤ 281474976710656) : AS P e i tx (.int .i64 n) n (reps n zc) w := by
  have hb' : ¬ (281474976710656 < (n : Int) * (i.bytes : Int)) := by rw [← Int.natCast_mul]; omega
  have hneg : ¬ ((n : Int) < 0) := by omega
  have hzr : Builtin.zeroCells z.cells n = ⟨reps n zc⟩ := by
    apply Array.ext'
    have := range_map z.cells n (by rw [hzc]; simp; omega)
    rw [hzc] at this ⊢
    exact this
  have hzn : n = 0 → reps n zc = [] := fun h => by subst h; rfl
  refine ⟨fun t ty base sLen sCap ht hi hroom => ?_, fun t ty base sLen sCap z' olds ht hi hz' hpn hg h63 hfit hold => ?_⟩
  · by_cases h0 : n = 0
    · subst h0
      cases base <;> simp [storeAt, Builtin.append_, run_underlying ht, run_underlying htn, Go.sizeOf, Go.typeInfo, Go.zeroValue, hi, hz, asInt, asIntOf, hw, reps, hroom] <;> simp_all [IntKind.wrap]
    · have hns : ¬ (n * i.size = 0) := Nat.mul_ne_zero h0 (by omega)
      cases base <;> simp [storeAt, Builtin.append_, run_underlying ht, run_underlying htn, Go.sizeOf, Go.typeInfo, Go.zeroValue, hi, hz, asInt, asIntOf, hw, hneg, hb', hns, hroom, hzr, h0] <;> simp_all
  · have hn : ¬ (sLen + n ≤ sCap) := by omega
    have h63' : ¬ (9223372036854775807 < ((sLen : Int) + (n : Int))) := by omega
    have h48' : ¬ (281474976710656 < Builtin.nextslicecap (sLen + n) sCap * i.bytes) := by omega
    rw [hz] at hz'
    injection hz' with hz'
    subst hz'
    have h0 : n ≠ 0 := by omega
    have hns : ¬ (n * i.size = 0) := Nat.mul_ne_zero h0 (by omega)
    simp [Builtin.append_, run_underlying ht, run_underlying htn, Go.sizeOf, Go.typeInfo, Go.zeroValue, hi, hz, asInt, asIntOf, hw, hn, hneg, hns, h63', h48', hb', Question.forced, hold, newRow, grownCap, hzr, h0]
    congr 2
    apply Array.ext'
    simp [List.append_assoc]

theorem All2.size_append {α β : Type} {R : α → β → Prop} {a b : List α} {a' b' : List β} (h : All2 R a a') (k : All2 R b b') : (a' ++ b').length = (a ++ b).length := (h.append k).length

/-- A new row with more room than is filled. -/
theorem grow_rel {sz : Nat} (r : Rel x j B w) (hng : x.ng ≤ x.n) (hn : j (x.n + sz) = none) {cs cs' : List Value} (hcs : All2 (SR j) cs cs') {rest : Array Value} {el : TypeId} {len cap size : Nat} (hlen : len ≤ cap) (hrow : cs'.length + rest.size = cap * size) :
    ∃ j', Rel x j' (Bput B sz (.cells cs)) (w.drew.alloc (.cells (cs'.toArray ++ rest) el)) ∧ (∀ m, Ext x j sz m w j' (sz + 1) (w.drew.alloc (.cells (cs'.toArray ++ rest) el))) ∧
      SR j' (.slice (some ⟨x.n + sz, 0, none⟩) len (unk + size)) (.slice (some ⟨w.heap.size, 0, none⟩) len cap) := by
  have hlen0 : j.len w.heap.size = none := by
    cases h : j.len w.heap.size with
    | none => rfl
    | some l => have := r.len_lt h; omega
  have hw : (w.drew.alloc (.cells (cs'.toArray ++ rest) el)).heap = w.heap.push (.cells (cs'.toArray ++ rest) el) := rfl
  have r1 := r.alloc (w' := w.drew.alloc (.cells (cs'.toArray ++ rest) el)) (cs := cs) hn hw (fun i v hv => by
    obtain ⟨v', h1, h2⟩ := hcs.at_ i v hv
    refine ⟨v', ?_, h2⟩
    have h3 : i < cs'.length := (List.getElem?_eq_some_iff.1 h1).1
    rw [Array.getElem?_append_left (by simpa using h3)]
    simpa using h1) hng
  have r2 := r1.setLen (c := w.heap.size) (l := cap * size) hlen0 (cur := cs'.toArray ++ rest) (t := el) (by rw [hw]; simp) (by simp [hrow])
  refine ⟨_, r2, fun m => (Ext.alloc (w := w) (w' := w.drew.alloc (.cells (cs'.toArray ++ rest) el)) m hn ⟨rfl, rfl, rfl, by rw [hw]; simp⟩ hw).setLen hlen0, .slice ⟨rfl, rfl, w.heap.size, 0, by simp [Inj.setLen, Inj.put], rfl, rfl⟩ (.inr ⟨hlen, size, cap * size, rfl, by simp [Inj.setLen], by simp⟩)⟩

theorem zeroCells_size (z : Array Value) (n : Nat) : (Builtin.zeroCells z n).size = n * z.size := by simp [Builtin.zeroCells]

theorem appendTo_ok {hp : AH} (ht : TabsOK P T) (hx : hp.of x) (hwf : hp.wf) (hng : x.ng ≤ x.n) (r : Rel x j B w) {t tx ty el : TypeId} {ei : TI} {i : TypeInfo} {z : Value} (hu : P.underlying t = some (.slice el)) (hi : P.info? el = some i)
    (hsz : i.size = ei.size) (hby : i.bytes = ei.bytes) (hz : i.zero = some z) (hzc : z.cells = ⟨ei.zero⟩) (hzl : ei.zero.length = ei.size) (hpos : 0 < ei.size)
    {base : Option Addr} {sLen sCap n : Nat} {news news' : List Value} {rd rd' : List Nat} {s' y' v : Value} {e : Eff} (hn : hp.sz < esz hp.sz e → j (x.n + hp.sz) = none) (h : aappendTo hp ei base sLen sCap n news rd = some (.val v e rd')) (hs : VR j (.slice base sLen sCap) s')
    (hy : AS P el i tx y' n news' w) (hnl : news.length = n * ei.size) (hnews : All2 (SR j) news news') (hB : ∀ k, k ∈ rd' → B k = hp.blk k) (hBw : ∀ k, k ∈ e.wr → B k = hp.blk k) :
    Out P x j B hp.sz w (nv (Builtin.append_ #[t, tx] ty #[s', y'])) v e := by
  have hnl' : news'.length = n * ei.size := by rw [hnews.length, hnl]
  unfold aappendTo at h
  cases h0 : Nat.beq n 0 with
  | true =>
    rw [h0] at h
    simp only [cond] at h
    have h0 : n = 0 := by simpa [Nat.beq_eq] using h0
    subst h0
    cases hb : Nat.ble sLen sCap with
    | false => rw [hb] at h; cases h
    | true =>
      rw [hb] at h
      simp only [cond] at h
      injection h with h
      injection h with h1 h2 h3
      subst h1 h2
      have hb := Nat.le_of_ble_eq_true hb
      have hnil : news' = [] := List.eq_nil_of_length_eq_zero (by simpa using hnl')
      subst hnil
      cases base with
      | none =>
        have hs0 := hs
        obtain ⟨a', rfl, _, _⟩ := hs.slice0
        refine Out.pure r (nv_run ?_) hs0
        rw [hy.room t ty a' sLen sCap hu hi hb]
        cases a' <;> simp [storeAt, storeCells]
      | some a =>
        have hs0 := hs
        obtain ⟨ad, c', rfl, had, hcc⟩ := hs.slice
        have hle : sLen ≤ c' := by
          rcases hcc with ⟨h1, h2⟩ | h2
          · omega
          · exact h2.1
        refine Out.pure r (nv_run ?_) hs0
        rw [hy.room t ty (some ad) sLen c' hu hi hle]
        simp [storeAt, storeCells]
  | false =>
    rw [h0] at h
    simp only [cond] at h
    have h0 : 0 < n := by
      rcases Nat.eq_zero_or_pos n with h1 | h1
      · subst h1; cases h0
      · exact h1
    cases hc : Nat.ble unk sCap with
    | true =>
      rw [hc] at h
      simp only [cond] at h
      have hc := Nat.le_of_ble_eq_true hc
      split at h
      · rename_i b off
        cases hq : Nat.blt b hp.n with
        | true => rw [hq] at h; cases h
        | false =>
          rw [hq] at h
          simp only [cond] at h
          have hble := blt_false hq
          split at h
          · rename_i old hcut
            cases hb : (Nat.ble ((sLen + n) * ei.bytes) 70368744177664 && Nat.ble (sLen + n) 70368744177664 && Nat.beq sCap (unk + ei.size)) with
            | false => rw [hb] at h; cases h
            | true =>
              rw [hb] at h
              simp only [cond] at h
              injection h with h
              injection h with h1 h2 h3
              subst h1 h2 h3
              simp only [Bool.and_eq_true, Nat.ble_eq, Nat.beq_eq] at hb
              obtain ⟨⟨hb1, hb2⟩, hb3⟩ := hb
              rw [hx.2.1] at hble hBw ⊢
              have hBb : x.n ≤ b → B (b - x.n) = hp.blk (b - x.n) := fun _ => hBw _ (by simp [Eff.wr])
              have hBk := hBb hble
              obtain ⟨ad, c', rfl, had, hcc⟩ := hs.slice
              obtain ⟨hle, es, ln, hcc, hln, hrow⟩ : CapR j ad sLen sCap c' := by
                rcases hcc with ⟨h1, h2⟩ | h2
                · omega
                · exact h2
              obtain rfl : es = ei.size := by omega
              obtain ⟨l1, old', hold, hcell⟩ := AH.cut_rel hx r hBb hcut had
              have hblk : ∃ cs0, B (b - x.n) = some (.cells cs0) := by
                unfold AH.cut at hcut
                rw [hq] at hcut
                simp only [cond] at hcut
                split at hcut
                · rename_i cs0 h4
                  rw [hx.2.1] at h4
                  exact ⟨cs0, by rw [hBk, h4]⟩
                · cases hcut
              obtain ⟨cs0, hblk⟩ := hblk
              have hks : b - x.n < hp.sz := by
                rw [hBk] at hblk
                exact AH.wf_lt hwf hblk
              by_cases hroom : sLen + n ≤ c'
              · obtain ⟨_, h5, c, s, h6, h7, h8⟩ := had
                obtain ⟨ab, ao, asp⟩ := ad
                have h5 : asp = none := h5
                have h7 : ab = c := h7
                subst h5 h7
                have h8 : ao = off + s := h8
                obtain ⟨cur, tt, h9, h10⟩ := r.lens ab ln hln
                have hmul : sLen * ei.size + n * ei.size ≤ c' * ei.size := by rw [← Nat.add_mul]; exact Nat.mul_le_mul_right _ hroom
                have hrow : ao + c' * ei.size ≤ ln := hrow
                have hrun := run_storeCells_at P ab (ao + sLen * ei.size) tt news' 0 cur w h9 (by omega) (SR.oneCells hnews)
                have hj : j (x.n + (b - x.n)) = some (ab, s) := by rw [show x.n + (b - x.n) = b by omega]; exact h6
                have holdl : old'.length = sLen * ei.size := by rw [hold.length, l1]
                have hrow' : ∀ cur0 t0 f0, w.heap[ab]? = some (.cells cur0 t0 f0) → (cur.toList.take (ao + sLen * ei.size + 0) ++ news' ++ cur.toList.drop (ao + sLen * ei.size + 0 + news'.length)).toArray.size = cur0.size := fun cur0 _ _ hh => by
                  rw [h9] at hh
                  injection hh with hh
                  injection hh with hh
                  rw [← hh]
                  simp
                  omega
                have hoth : ∀ i, i ≠ ab → (w.setRow ab (cur.toList.take (ao + sLen * ei.size + 0) ++ news' ++ cur.toList.drop (ao + sLen * ei.size + 0 + news'.length)).toArray).heap[i]? = w.heap[i]? := fun i hi => setRow_other w ab i _ hi
                refine ⟨.value (.slice (some ⟨ab, ao, none⟩) (sLen + n) c'), _, _, j.put (x.n + hp.sz) (ab, ao), nv_run ?_, .inl rfl, ?_,
                  r.take hj hblk (hn (Nat.lt_succ_self _)) (s' := ao) (setRow_heap w ab cur _ tt _ h9) hrow' hoth (by simp) (cs := old ++ news) ?_ hng, Ext.take hj (Nat.le_refl _) hks (hn (Nat.lt_succ_self _)) ⟨rfl, rfl, rfl, by simp⟩ hoth⟩
                · rw [hy.room t ty _ sLen c' hu hi hroom]
                  simp only [storeAt, hsz, Addr.add_lit]
                  rw [Sem.run_bind, hrun]
                  rfl
                · exact .of (.slice ⟨rfl, rfl, ab, ao, by simp [Inj.put], rfl, by simp⟩ (.inr ⟨hroom, ei.size, ln, rfl, hln, hrow⟩))
                · intro i v hv
                  rw [List.getElem?_append] at hv
                  simp only [Nat.add_zero, List.getElem?_toArray, List.append_assoc, List.getElem?_append, List.length_take, Array.length_toList, List.getElem?_take, List.getElem?_drop]
                  split at hv
                  · rename_i h11
                    obtain ⟨v', h12, h13⟩ := hold.at_ _ _ hv
                    refine ⟨v', ?_, h13⟩
                    rw [if_pos (by omega), if_pos (by omega)]
                    have h14 := hcell i v' h12
                    rw [Addr.add_lit] at h14
                    simp only [World.cell?, h9] at h14
                    rw [Nat.add_comm i ao]
                    simpa using h14
                  · rename_i h11
                    obtain ⟨v', h12, h13⟩ := hnews.at_ _ _ hv
                    refine ⟨v', ?_, h13⟩
                    have h14 : i - old.length < news'.length := (List.getElem?_eq_some_iff.1 h12).1
                    rw [if_neg (by omega), if_pos (by omega), show i + ao - min (ao + sLen * ei.size) cur.size = i - old.length by omega]
                    exact h12
              · have hg : c' < sLen + n := by omega
                have hge := grownCap_ge w (sLen + n) c' el
                obtain ⟨j', g1, g2, g3⟩ := grow_rel (sz := hp.sz) (len := sLen + n) (cap := grownCap w (sLen + n) c' el) (size := ei.size) (el := el) (rest := Builtin.zeroCells z.cells (grownCap w (sLen + n) c' el - (sLen + n))) (r.kill (b - x.n)) hng (hn (Nat.lt_succ_self _)) (hold.append hnews) hge (by
                  rw [zeroCells_size, hzc, List.length_append, hold.length, l1, hnl', ← Nat.add_mul]
                  simp only [List.size_toArray, hzl]
                  rw [← Nat.add_mul]
                  congr 1
                  omega)
                refine ⟨.value (.slice (some ⟨w.heap.size, 0, none⟩) (sLen + n) (grownCap w (sLen + n) c' el)), _, _, j', nv_run ?_, .inl rfl, ?_, g1, g2 _⟩
                · refine hy.grow t ty (some ad) sLen c' z old' hu hi hz h0 hg (by omega) ?_ ?_
                  · rw [hby]
                    exact growslice_fits hg (by omega)
                  · rw [hsz]
                    exact run_firstCells_some w.drew ei.size sLen ad sLen c' old' (by rw [hold.length, l1]) fun i v hv => hcell i v hv
                · exact .of g3
          · cases h
      · cases h
    | false =>
      rw [hc] at h
      simp only [cond] at h
      have hc : sCap < unk := by
        rcases Nat.lt_or_ge sCap unk with h1 | h1
        · exact h1
        · rw [Nat.ble_eq_true_of_le h1] at hc; cases hc
      cases hr : Nat.ble (sLen + n) sCap with
      | true =>
        rw [hr] at h
        simp only [cond] at h
        have hr := Nat.le_of_ble_eq_true hr
        split at h
        · rename_i b off
          cases hq : Nat.blt b hp.n with
          | true => rw [hq] at h; cases h
          | false =>
            rw [hq] at h
            simp only [cond] at h
            have hble := blt_false hq
            split at h
            · rename_i cs hcs
              split at h
              · rename_i cs1 hput
                injection h with h
                injection h with h1 h2 h3
                subst h1 h2 h3
                rw [hx.2.1] at hble hBw hcs ⊢
                have hs0 := hs
                obtain ⟨ad, c', rfl, had, hcc⟩ := hs.slice
                obtain rfl : sCap = c' := by
                  rcases hcc with ⟨h1, h2⟩ | ⟨_, _, _, h1, _⟩
                  · exact h1
                  · omega
                obtain ⟨w', h6, h7, h8, h9⟩ := puts_ok (P := P) hx hwf r hble hcs (hBw _ (by simp [Eff.wr])) hput hnews had.add
                refine ⟨.value (.slice (some ad) (sLen + n) sCap), _, w', j, nv_run ?_, .inl rfl, .of (.slice had (.inl ⟨rfl, hc⟩)), h8, h9⟩
                rw [hy.room t ty _ sLen sCap hu hi hr]
                simp only [storeAt, hsz]
                rw [Sem.run_bind, h6]
                rfl
              · cases h
            · cases h
        · cases h
      | false =>
        rw [hr] at h
        simp only [cond] at h
        have hg : sCap < sLen + n := by
          rcases Nat.lt_or_ge sCap (sLen + n) with h1 | h1
          · exact h1
          · rw [Nat.ble_eq_true_of_le h1] at hr; cases hr
        split at h
        · rename_i old rd1 hsrc
          cases hb : (Nat.ble ((sLen + n) * ei.bytes) 70368744177664 && Nat.ble (sLen + n) 70368744177664) with
          | false => rw [hb] at h; cases h
          | true =>
            rw [hb] at h
            simp only [cond] at h
            injection h with h
            injection h with h1 h2 h3
            subst h1 h2 h3
            simp only [Bool.and_eq_true, Nat.ble_eq] at hb
            obtain ⟨hb1, hb2⟩ := hb
            obtain ⟨l1, old', hold, hfc⟩ := src_rel (P := P) hx r hsrc hs fun k hk => hB k (by simp [hk])
            have hs' : ∃ base', s' = .slice base' sLen sCap := by
              cases base with
              | none => obtain ⟨a', rfl, _, _⟩ := hs.slice0; exact ⟨a', rfl⟩
              | some a =>
                obtain ⟨ad, c', rfl, had, hcc⟩ := hs.slice
                rcases hcc with ⟨h1, h2⟩ | ⟨_, _, _, h1, _⟩
                · subst h1; exact ⟨_, rfl⟩
                · omega
            obtain ⟨base', rfl⟩ := hs'
            have hge := grownCap_ge w (sLen + n) sCap el
            obtain ⟨j', g1, g2, g3⟩ := grow_rel (sz := hp.sz) (len := sLen + n) (cap := grownCap w (sLen + n) sCap el) (size := ei.size) (el := el) (rest := Builtin.zeroCells z.cells (grownCap w (sLen + n) sCap el - (sLen + n))) r hng (hn (Nat.lt_succ_self _)) (hold.append hnews) hge (by
              rw [zeroCells_size, hzc, List.length_append, hold.length, l1, hnl', ← Nat.add_mul]
              simp only [List.size_toArray, hzl]
              rw [← Nat.add_mul]
              congr 1
              omega)
            refine ⟨.value (.slice (some ⟨w.heap.size, 0, none⟩) (sLen + n) (grownCap w (sLen + n) sCap el)), _, _, j', nv_run ?_, .inl rfl, ?_, g1, g2 _⟩
            · refine hy.grow t ty base' sLen sCap z old' hu hi hz h0 hg (by omega) ?_ ?_
              · rw [hby]
                exact growslice_fits hg (by omega)
              · rw [hsz]
                exact hfc w.drew rfl
            · rw [hx.2.1]
              exact .of g3
        · cases h

theorem isInt_eq {k : TK} (h : isInt k = true) : ∃ i, k = .int i := by
  cases k <;> simp_all [isInt]

theorem append_ok {hp : AH} (ht : TabsOK P T) (hx : hp.of x) (hwf : hp.wf) (hng : x.ng ≤ x.n) (r : Rel x j B w) {st xt ty : TypeId} {s s' y y' v : Value} {e : Eff} {rd : List Nat} (hn : hp.sz < esz hp.sz e → j (x.n + hp.sz) = none) (h : aappend T hp st xt s y = some (.val v e rd))
    (hs : VR j s s') (hy : VR j y y') (hB : ∀ k, k ∈ rd → B k = hp.blk k) (hBw : ∀ k, k ∈ e.wr → B k = hp.blk k) : Out P x j B hp.sz w (nv (Builtin.append_ #[st, xt] ty #[s', y'])) v e := by
  unfold aappend at h
  split at h
  · rename_i ti xi base sLen sCap hti hxi
    split at h
    · rename_i el hk
      split at h
      · rename_i ei hei
        cases hb : (Nat.ble 1 ei.size && Nat.ble 1 ei.bytes) with
        | false => rw [hb] at h; cases h
        | true =>
          rw [hb] at h
          simp only [cond] at h
          simp only [Bool.and_eq_true, Nat.ble_eq] at hb
          have hty := ht.ty el ei hei
          obtain ⟨i, z, i1, i2, i3, i4, i5⟩ := hty.info
          have hu := kind_slice ht hti hk
          obtain ⟨d, d1, _, d3⟩ := (ht.ty xt xi hxi).desc
          cases hi : isInt xi.k with
          | true =>
            rw [hi] at h
            simp only [cond] at h
            obtain ⟨ki, hki⟩ := isInt_eq hi
            rw [hki] at d3
            have d3 : d = .int ki := d3
            subst d3
            split at h
            · rename_i l
              cases hc : (decide (0 ≤ l) && Nat.ble (l.toNat * ei.bytes) 70368744177664 && Nat.ble l.toNat 70368744177664) with
              | false => rw [hc] at h; cases h
              | true =>
                rw [hc] at h
                simp only [cond] at h
                simp only [Bool.and_eq_true, Nat.ble_eq, decide_eq_true_eq] at hc
                obtain ⟨⟨hc1, hc2⟩, hc3⟩ := hc
                obtain ⟨k, rfl⟩ := Int.eq_ofNat_of_zero_le hc1
                simp only [Int.toNat_natCast] at hc2 hc3 h
                obtain rfl := hy.int
                have hw : IntKind.i64.wrap (k : Int) = k := by rw [IntKind.wrap_i64]; omega
                have hzl : ei.zero.length = i.size := by rw [i2]; exact hty.zlen
                have has := AS.ofZeros (P := P) (e := el) (i := i) (w := w) d1 i4 i5 hzl (by omega) hw (by rw [i3]; omega)
                exact appendTo_ok ht hx hwf hng r hu i1 i2 i3 i4 i5 hty.zlen hb.1 hn h hs has (by rw [reps_length, hty.zlen]) (All2.refl (reps_sr (hty.zsr j) k)) hB hBw
            · cases h
          | false =>
            rw [hi] at h
            simp only [cond] at h
            cases hq : isSeq xi.k with
            | false => rw [hq] at h; cases h
            | true =>
              rw [hq] at h
              simp only [cond] at h
              split at h
              · rename_i n hlen
                split at h
                · rename_i news rd1 hsrc
                  have hkind : (∃ e', P.underlying xt = some (.slice e')) ∨ P.underlying xt = some .string := by
                    cases hxk : xi.k <;> rw [hxk] at hq d3 <;> simp [isSeq] at hq
                    · have d3 : d = .string := d3
                      exact .inr (by rw [d1, d3])
                    · rename_i e'
                      have d3 : d = .slice e' := d3
                      exact .inl ⟨e', by rw [d1, d3]⟩
                  have hsub : ∀ k, k ∈ rd1 → k ∈ rd := by
                    intro k hk
                    clear hB hBw hkind hq hi
                    unfold aappendTo at h
                    cases g1 : Nat.beq n 0 <;> rw [g1] at h <;> simp only [cond] at h
                    · cases g2 : Nat.ble unk sCap <;> rw [g2] at h <;> simp only [cond] at h
                      · cases g3 : Nat.ble (sLen + n) sCap <;> rw [g3] at h <;> simp only [cond] at h
                        · split at h
                          · cases g4 : (Nat.ble ((sLen + n) * ei.bytes) 70368744177664 && Nat.ble (sLen + n) 70368744177664) <;> rw [g4] at h <;> simp only [cond] at h
                            · cases h
                            · injection h with h; injection h with _ _ h3; rw [← h3]; simp [hk]
                          · cases h
                        · split at h
                          · rename_i b off
                            cases g4 : Nat.blt b hp.n <;> rw [g4] at h <;> simp only [cond] at h
                            · split at h
                              · split at h
                                · injection h with h; injection h with _ _ h3; rw [← h3]; exact hk
                                · cases h
                              · cases h
                            · cases h
                          · cases h
                      · split at h
                        · rename_i b off
                          cases g4 : Nat.blt b hp.n <;> rw [g4] at h <;> simp only [cond] at h
                          · split at h
                            · cases g5 : (Nat.ble ((sLen + n) * ei.bytes) 70368744177664 && Nat.ble (sLen + n) 70368744177664 && Nat.beq sCap (unk + ei.size)) <;> rw [g5] at h <;> simp only [cond] at h
                              · cases h
                              · injection h with h; injection h with _ _ h3; rw [← h3]; exact hk
                            · cases h
                          · cases h
                        · cases h
                    · cases g2 : Nat.ble sLen sCap <;> rw [g2] at h <;> simp only [cond] at h
                      · cases h
                      · injection h with h; injection h with _ _ h3; rw [← h3]; exact hk
                  obtain ⟨l1, news', hnews, hfc⟩ := src_rel (P := P) hx r hsrc hy fun k hk => hB k (hsub k hk)
                  have has := AS.ofSeq (e := el) (i := i) (w := w) hkind (fun w' => lenV_run hlen hy w') (by rw [i2]; exact hfc)
                  exact appendTo_ok ht hx hwf hng r hu i1 i2 i3 i4 i5 hty.zlen hb.1 hn h hs has l1 hnews hB hBw
                · cases h
              · cases h
      · cases h
    · cases h
  · cases h

/-! ### the other builtins -/
def BaseR (j : Inj) : Option Addr → Option Addr → Prop
  | none, _ => True
  | some a, some a' => AddrR j a a'
  | _, _ => False

theorem VR.base {a : Option Addr} {n c : Nat} {v' : Value} (h : VR j (.slice a n c) v') : ∃ a' c', v' = .slice a' n c' ∧ BaseR j a a' := by
  cases a with
  | none => obtain ⟨a', rfl, _, _⟩ := h.slice0; exact ⟨a', c, rfl, trivial⟩
  | some a => obtain ⟨a', c', rfl, h1, _⟩ := h.slice; exact ⟨some a', c', rfl, h1⟩

def putAt (base : Option Addr) (vs : List Value) : Sem Unit :=
  match base with
  | some a => storeCells a vs
  | none => pure ()

theorem aputs_ok {hp : AH} (hx : hp.of x) (hwf : hp.wf) (r : Rel x j B w) {base base' : Option Addr} {cs cs' : List Value} {v v2 : Value} {e : Eff} {rd rd2 : List Nat} (h : aputs hp base cs v rd = some (.val v2 e rd2)) (hb : BaseR j base base')
    (hcs : All2 (SR j) cs cs') (hBw : ∀ k, k ∈ e.wr → B k = hp.blk k) :
    v2 = v ∧ rd2 = rd ∧ ∃ w', (putAt base' cs').run P w = .ok () w' ∧ Rel x j (Bapp B hp.sz e) w' ∧ Ext x j hp.sz e.low w j (esz hp.sz e) w' := by
  unfold aputs at h
  split at h
  · injection h with h
    injection h with h1 h2 h3
    subst h1 h2 h3
    cases hcs
    exact ⟨rfl, rfl, w, by cases base' <;> simp [putAt, storeCells], r, Ext.refl _ _ _ _ _⟩
  · split at h
    · rename_i b off
      cases hq : Nat.blt b hp.n with
      | true => rw [hq] at h; cases h
      | false =>
        rw [hq] at h
        simp only [cond] at h
        have hble := blt_false hq
        split at h
        · rename_i row hrow
          split at h
          · rename_i row1 hput
            injection h with h
            injection h with h1 h2 h3
            subst h1 h2 h3
            rw [hx.2.1] at hble hBw hrow ⊢
            cases base' with
            | none => exact absurd hb (by simp [BaseR])
            | some a' =>
              obtain ⟨w', h6, h7, h8, h9⟩ := puts_ok (P := P) hx hwf r hble hrow (hBw _ (by simp [Eff.wr])) hput hcs hb
              exact ⟨rfl, rfl, w', h6, h8, h9⟩
          · cases h
        · cases h
    · cases h

theorem copy_ok {hp : AH} (ht : TabsOK P T) (hx : hp.of x) (hwf : hp.wf) (r : Rel x j B w) {dt ty : TypeId} {tys : Array TypeId} (htys : tys[0]? = some dt) {d d' y y' v : Value} {e : Eff} {rd : List Nat} (h : acopy T hp dt d y = some (.val v e rd))
    (hd : VR j d d') (hy : VR j y y') (hB : ∀ k, k ∈ rd → B k = hp.blk k) (hBw : ∀ k, k ∈ e.wr → B k = hp.blk k) : Out P x j B hp.sz w (nv (Builtin.copy_ tys ty #[d', y'])) v e := by
  unfold acopy at h
  split at h
  · rename_i ti base dLen dCap sLen hti hlen
    split at h
    · rename_i el hk
      split at h
      · rename_i ei hei
        split at h
        · rename_i cs rd1 hsrc
          obtain ⟨a', c', rfl, hb⟩ := hd.base
          have hrd : rd = rd1 := by
            unfold aputs at h
            split at h
            · injection h with h; injection h with _ _ h3; exact h3.symm
            · split at h
              · rename_i b off
                cases hq : Nat.blt b hp.n <;> rw [hq] at h <;> simp only [cond] at h
                · split at h
                  · split at h
                    · injection h with h; injection h with _ _ h3; exact h3.symm
                    · cases h
                  · cases h
                · cases h
              · cases h
          subst hrd
          obtain ⟨l1, cs', hcs, hfc⟩ := src_rel (P := P) hx r hsrc hy hB
          obtain ⟨rfl, _, w', h1, h2, h3⟩ := aputs_ok (P := P) hx hwf r h hb hcs hBw
          have hsz := (ht.ty el ei hei).sizeOf w
          have hl := lenV_run (P := P) hlen hy w
          refine ⟨_, _, w', j, nv_run (v := .int .i64 (Nat.min sLen dLen)) ?_, .inl rfl, .of (.int _ _), h2, h3⟩
          have hu := kind_slice ht hti hk
          cases a' with
          | none =>
            simp only [putAt, Sem.run_pure] at h1
            injection h1 with _ h1
            subst h1
            simp only [Builtin.copy_, htys]
            simp [run_underlying hu, hl, hsz, hfc w rfl, goInt]
          | some a' =>
            simp only [putAt] at h1
            simp only [Builtin.copy_, htys]
            simp [run_underlying hu, hl, hsz, hfc w rfl, goInt, h1]
        · cases h
      · cases h
    · cases h
  · cases h

theorem zeroCells_reps {z : Value} {zc : List Value} (hzc : z.cells = ⟨zc⟩) (n : Nat) : Builtin.zeroCells z.cells n = ⟨reps n zc⟩ := by
  apply Array.ext'
  rcases Nat.eq_zero_or_pos zc.length with h0 | h0
  · have hnil : zc = [] := List.eq_nil_of_length_eq_zero h0
    subst hnil
    have : ∀ n, reps n ([] : List Value) = [] := fun n => by induction n with | zero => rfl | succ n ih => simp [reps, ih]
    rw [hzc]
    simp [Builtin.zeroCells, this]
  · have := range_map z.cells n (by rw [hzc]; simpa using h0)
    rw [hzc] at this ⊢
    exact this

theorem clear_ok {hp : AH} (ht : TabsOK P T) (hx : hp.of x) (hwf : hp.wf) (r : Rel x j B w) {t ty : TypeId} {tys : Array TypeId} (htys : tys[0]? = some t) {d d' v : Value} {e : Eff} {rd : List Nat} (h : aclear T hp t d = some (.val v e rd))
    (hd : VR j d d') (hBw : ∀ k, k ∈ e.wr → B k = hp.blk k) : Out P x j B hp.sz w (nv (Builtin.clear_ tys ty #[d'])) v e := by
  unfold aclear at h
  split at h
  · rename_i ti base n c hti
    split at h
    · rename_i el hk
      split at h
      · rename_i ei hei
        obtain ⟨a', c', rfl, hb⟩ := hd.base
        have hty := ht.ty el ei hei
        obtain ⟨z, z1, z2⟩ := hty.zeroValue w
        have hu := kind_slice ht hti hk
        obtain ⟨rfl, _, w', h1, h2, h3⟩ := aputs_ok (P := P) hx hwf r h hb (All2.refl (reps_sr (hty.zsr j) n)) hBw
        refine ⟨_, _, w', j, nv_run (v := .tuple #[]) ?_, .inl rfl, .tup .nil, h2, h3⟩
        cases a' with
        | none =>
          simp only [putAt, Sem.run_pure] at h1
          injection h1 with _ h1
          subst h1
          simp only [Builtin.clear_, htys]
          simp [run_underlying hu]
        | some a' =>
          simp only [putAt] at h1
          cases n with
          | zero =>
            simp only [reps, storeCells] at h1
            have h1 : Result.ok () w = Result.ok () w' := h1
            injection h1 with _ h1
            subst h1
            simp only [Builtin.clear_, htys]
            simp [run_underlying hu]
          | succ n =>
            have hz := zeroCells_reps z2 (n + 1)
            simp only [Builtin.clear_, htys]
            simp [run_underlying hu, z1, hz, h1]
      · cases h
    · cases h
  · cases h

theorem len_ok {sz : Nat} (ht : TabsOK P T) (r : Rel x j B w) {t ty : TypeId} {tys : Array TypeId} (htys : tys[0]? = some t) {d d' v : Value} {e : Eff} {rd : List Nat} (h : alen T t d = some (.val v e rd)) (hd : VR j d d') :
    Out P x j B sz w (nv (Builtin.len_ tys ty #[d'])) v e := by
  unfold alen at h
  split at h
  · rename_i ti hti
    split at h
    · rename_i s hk
      obtain ⟨rfl, rfl, rfl⟩ := ok_some h
      obtain rfl := hd.str
      refine Out.pure r (nv_run (v := .int .i64 s.data.toList.length) ?_) (.of (.int _ _))
      simp only [Builtin.len_, htys]
      simp [run_underlying (kind_string ht hti hk), goInt]
    · rename_i el a n c hk
      obtain ⟨rfl, rfl, rfl⟩ := ok_some h
      obtain ⟨a', c', rfl, _⟩ := hd.base
      refine Out.pure r (nv_run (v := .int .i64 n) ?_) (.of (.int _ _))
      simp only [Builtin.len_, htys]
      simp [run_underlying (kind_slice ht hti hk), goInt]
    · rename_i n el hk
      obtain ⟨rfl, rfl, rfl⟩ := ok_some h
      refine Out.pure r (nv_run (v := .int .i64 n) ?_) (.of (.int _ _))
      simp only [Builtin.len_, htys]
      simp [run_underlying (kind_array ht hti hk), goInt]
    · cases h
  · cases h

theorem cap_ok {sz : Nat} (ht : TabsOK P T) (r : Rel x j B w) {t ty : TypeId} {tys : Array TypeId} (htys : tys[0]? = some t) {d d' v : Value} {e : Eff} {rd : List Nat} (h : acap T t d = some (.val v e rd)) (hd : VR j d d') :
    Out P x j B sz w (nv (Builtin.cap_ tys ty #[d'])) v e := by
  unfold acap at h
  split at h
  · rename_i ti hti
    split at h
    · rename_i el a n c hk
      cases hb : Nat.ble unk c with
      | true => rw [hb] at h; cases h
      | false =>
        rw [hb] at h
        obtain ⟨rfl, rfl, rfl⟩ := ok_some h
        have hc : c < unk := by
          rcases Nat.lt_or_ge c unk with h1 | h1
          · exact h1
          · rw [Nat.ble_eq_true_of_le h1] at hb; cases hb
        have hd' : ∃ a', d' = .slice a' n c := by
          cases a with
          | none => obtain ⟨a', rfl, _, _⟩ := hd.slice0; exact ⟨a', rfl⟩
          | some a =>
            obtain ⟨a', c', rfl, _, h1⟩ := hd.slice
            rcases h1 with ⟨h1, _⟩ | ⟨_, _, _, h1, _⟩
            · subst h1; exact ⟨some a', rfl⟩
            · omega
        obtain ⟨a', rfl⟩ := hd'
        refine Out.pure r (nv_run (v := .int .i64 c) ?_) (.of (.int _ _))
        simp only [Builtin.cap_, htys]
        simp [run_underlying (kind_slice ht hti hk), goInt]
    · cases h
  · cases h

theorem extreme_run (mx : Bool) : ∀ (l : List Value) (v r : Value) (l' : List Value) (v' : Value), aextreme mx v l = some r → (∃ k n, v = .int k n) → VR j v v' → All2 (VR j) l l' →
    (∃ k n, r = .int k n) ∧ ∀ w : World, (l'.foldlM (if mx then Builtin.max2 else Builtin.min2) v').run P w = .ok r w
  | [], v, r, _, v', h, hv, hvr, .nil => by
    simp only [aextreme, Option.some.injEq] at h
    subst h
    obtain ⟨k, n, rfl⟩ := hv
    obtain rfl := hvr.int
    exact ⟨⟨k, n, rfl⟩, fun w => by simp⟩
  | y :: l, v, r, _, v', h, hv, hvr, .cons (y := y') hy hl => by
    unfold aextreme at h
    obtain ⟨k, n, rfl⟩ := hv
    obtain rfl := hvr.int
    split at h
    · rename_i h1; cases h1
    · rename_i k0 n0 k' m rest h1 h2
      injection h1 with h1 h1'
      subst h1 h1'
      injection h2 with h2 h2'
      subst h2 h2'
      obtain rfl := hy.int
      cases hb : decide (k = k') with
      | false => rw [hb] at h; cases h
      | true =>
        rw [hb] at h
        simp only [cond] at h
        obtain rfl := of_decide_eq_true hb
        obtain ⟨h3, h4⟩ := extreme_run mx l _ r _ _ h ⟨_, _, rfl⟩ (.of (.int _ _)) hl
        refine ⟨h3, fun w => ?_⟩
        rw [List.foldlM_cons, Sem.run_bind]
        cases mx with
        | true =>
          have := h4 w
          simp only [if_true] at this ⊢
          simp only [Builtin.max2, Sem.run_pure, Result.andThen_ok]
          rw [← this]
          congr 3
          by_cases hc : m > n <;> simp [hc]
        | false =>
          have := h4 w
          simp only [if_false, Bool.false_eq_true] at this ⊢
          simp only [Builtin.min2, Sem.run_pure, Result.andThen_ok]
          rw [← this]
          congr 3
          by_cases hc : m < n <;> simp [hc]
    · cases h

end Go.Vae

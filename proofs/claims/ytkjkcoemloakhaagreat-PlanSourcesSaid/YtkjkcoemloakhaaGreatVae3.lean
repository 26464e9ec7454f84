/- Each operation of the evaluator is carried out by the machine in the same way. -/
import Derived.Test.YtkjkcoemloakhaaGreatVae2
import Derived.Laws.Tables
import Derived.Laws.StructEq
import Derived.Laws.MakeOwn
import Derived.Laws.OwnMore
import Derived.Laws.CopyRow
import Derived.Shelf.Abstract
set_option linter.unusedVariables false
set_option linter.unusedSimpArgs false
namespace Go.Vae
open Go Go.RowKit

/-! ### the tables are the program's -/
def kindOK (P : Program) (d : TypeDesc) : TK → Prop
  | .other => True
  | .int k => d = .int k
  | .bool => d = .bool
  | .string => d = .string
  | .slice e => d = .slice e
  | .array n e => d = .array n e
  | .struct fs => ∃ fields : Array Field, d = .struct fields ∧ fields.toList.map (fun f => (f.type, f.offset)) = fs ∧ ∀ f ∈ fields.toList, (P.info? f.type).isSome = true

structure TyOK (P : Program) (t : TypeId) (ti : TI) : Prop where
  info : ∃ i z, P.info? t = some i ∧ i.size = ti.size ∧ i.bytes = ti.bytes ∧ i.zero = some z ∧ z.cells = ⟨ti.zero⟩
  zlen : ti.zero.length = ti.size
  zok : ti.zero.all cOK = true ∧ ti.zero.all Value.oneCell' = true
  desc : ∃ d, P.underlying t = some d ∧ (match d with | .struct _ | .array _ _ => true | _ => false) = ti.agg ∧ kindOK P d ti.k
  flat : ti.flat = true → ∀ (a b : List Value) (r : Bool) (w : World), likeZ ti.zero a = true → likeZ ti.zero b = true → cellsEq a b = some r →
    (Op.equal t (.agg ⟨a⟩) (.agg ⟨b⟩)).run P w = .ok r w ∧ ∀ op x y, (eqGuard op t x y (.agg ⟨a⟩) (.agg ⟨b⟩)).run P w = .ok () w

structure FnOK (P : Program) (f : FuncId) (fi : FI) : Prop where
  enters : Go.Proofs.Enters P f
  small : fi.nt ≤ bigger
  draws : codeOK fi.code = true
  func : ∃ F, P.funcs[f]? = some F ∧ F.body = some fi.code ∧ F.ntmps = fi.nt ∧ F.results.toList = fi.res

structure TabsOK (P : Program) (T : Tabs) : Prop where
  ty : ∀ t ti, T.ty t = some ti → TyOK P t ti
  fn : ∀ f fi, T.fn f = some fi → FnOK P f fi
  mixed : P.follows .mixedOrders = true
  known : ∀ f v, T.known f = some v → (∀ j, VR j v v) ∧ Go.Proofs.Enters P f ∧ ∀ W, Calls P f ⟨[]⟩ W fun e w' => e = .returned v ∧ Below W.heap.size W w'

variable {P : Program} {T : Tabs} {x : Cx} {j : Inj} {B : Nat → Option AO} {w : World}

theorem TyOK.sizeOf {t : TypeId} {ti : TI} (h : TyOK P t ti) (w : World) : (sizeOf t).run P w = .ok ti.size w := by
  obtain ⟨i, z, h1, h2, _⟩ := h.info
  simp [Go.sizeOf, typeInfo, h1, h2]

theorem TyOK.typeInfo {t : TypeId} {ti : TI} (h : TyOK P t ti) (w : World) : ∃ i, (Go.typeInfo t).run P w = .ok i w ∧ P.info? t = some i ∧ i.size = ti.size ∧ i.bytes = ti.bytes := by
  obtain ⟨i, z, h1, h2, h3, _⟩ := h.info
  exact ⟨i, by simp [Go.typeInfo, h1], h1, h2, h3⟩

theorem TyOK.zeroValue {t : TypeId} {ti : TI} (h : TyOK P t ti) (w : World) : ∃ z, (zeroValue t).run P w = .ok z w ∧ z.cells = ⟨ti.zero⟩ := by
  obtain ⟨i, z, h1, h2, h3, h4, h5⟩ := h.info
  exact ⟨z, by simp [Go.zeroValue, Go.typeInfo, h1, h4], h5⟩

theorem TyOK.isAgg {t : TypeId} {ti : TI} (h : TyOK P t ti) (w : World) : (isAgg t).run P w = .ok ti.agg w := by
  obtain ⟨d, h1, h2, _⟩ := h.desc
  have hu := run_underlying h1 w
  cases d <;> simp_all [Go.isAgg] <;> (try subst h2) <;> first | rfl | simp_all

/-! ### frames and operands -/
structure FrR (j : Inj) (nt : Nat) (fr : Fr) (a : Act) : Prop where
  size : a.tmps.size = nt
  at_ : ∀ t v, Tr.get fr t = some v → VR j v (a.tmps.getD t undef)
  defers : a.defers = []

theorem FrR.mono {j' : Inj} {nt : Nat} {fr : Fr} {a : Act} (h : FrR j nt fr a) (hs : Sub j j') : FrR j' nt fr a :=
  ⟨h.size, fun t v hv => (h.at_ t v hv).mono hs, h.defers⟩

theorem unk_pos : (0 : Nat) < unk := by decide

theorem cOK_sr (j : Inj) {v : Value} (h : cOK v = true) (h1 : v.oneCell' = true) : SR j v v := by
  unfold cOK at h
  split at h
  · constructor
  · constructor
  · constructor
  · constructor
  · exact .nilslice none 0 0 unk_pos (.inl rfl)
  · constructor
  · constructor
  · constructor
  · simp [Value.oneCell'] at h1
  · cases h

theorem cOK_vr (j : Inj) {v : Value} (h : cOK v = true) : VR j v v := by
  by_cases h1 : v.oneCell' = true
  · exact .of (cOK_sr j h h1)
  · cases v with
    | agg cs =>
      refine .ofA (.agg (All2.refl fun u hu => ?_))
      have h2 : cs.toList.all (fun | .bool _ | .int _ _ | .string _ | .pointer none | .slice none 0 0 | .nilFunc | .nilIface | .map none => true | _ => false) = true := h
      have h3 := (List.all_eq_true.1 h2) u hu
      split at h3
      · constructor
      · constructor
      · constructor
      · constructor
      · exact .nilslice none 0 0 unk_pos (.inl rfl)
      · constructor
      · constructor
      · constructor
      · cases h3
    | tuple vs => simp [cOK] at h
    | _ => exact absurd rfl h1

theorem TyOK.zsr {t : TypeId} {ti : TI} (h : TyOK P t ti) (j : Inj) : ∀ v ∈ ti.zero, SR j v v := fun v hv =>
  cOK_sr j ((List.all_eq_true.1 h.zok.1) v hv) ((List.all_eq_true.1 h.zok.2) v hv)

theorem FrR.ev {h : AH} (hx : h.of x) (r : Rel x j B w) {nt : Nat} {fr : Fr} {a : Act} (hf : FrR j nt fr a) (o : Operand) : VR j (fr.ev h o) (a.eval o) := by
  cases o with
  | tmp t =>
    simp only [Fr.ev, Act.eval]
    cases ht : Tr.get fr t with
    | none => exact VR.undef _
    | some v => exact hf.at_ t v ht
  | const v =>
    simp only [Fr.ev, Act.eval]
    cases hv : cOK v with
    | false => exact VR.undef _
    | true => exact cOK_vr j hv
  | global g =>
    simp only [Fr.ev, Act.eval]
    cases hg : Nat.blt g h.ng with
    | false => exact VR.undef _
    | true =>
      refine .of (.ptr ⟨rfl, rfl, g, 0, r.glob g ?_, rfl, rfl⟩)
      rw [← hx.1]
      exact Nat.lt_of_lt_of_le (by simpa [Nat.blt_eq] using hg) (Nat.le_refl _)
  | func f => exact .of (.func .nil)

/-! ### what an operation comes to -/
def Bapp (B : Nat → Option AO) (sz : Nat) : Eff → Nat → Option AO
  | .nil => B
  | .new cs => Bput B sz (.cells cs)
  | .set k cs => Bput B k (.cells cs)
  | .grow k cs => Bput (Bput B k .dead) sz (.cells cs)

def esz (sz : Nat) : Eff → Nat
  | .nil => sz
  | .set _ _ => sz
  | .new _ => sz + 1
  | .grow _ _ => sz + 1

theorem AH.app_sz (h : AH) (e : Eff) : (h.app e).sz = esz h.sz e := by cases e <;> rfl

/-- The machine carries the operation out: it answers what the evaluator does, and has the same effect. -/
def Out (P : Program) (x : Cx) (j : Inj) (B : Nat → Option AO) (sz : Nat) (w : World) (s : Sem Next) (v : Value) (e : Eff) : Prop :=
  ∃ n v' w' j', s.run P w = .ok n w' ∧ (n = .value v' ∨ n = .skip ∧ v' = Go.undef) ∧ VR j' v v' ∧ Rel x j' (Bapp B sz e) w' ∧ Ext x j sz e.low w j' (esz sz e) w'

theorem Out.pure {sz : Nat} {s : Sem Next} {v v' : Value} (r : Rel x j B w) (h : s.run P w = .ok (.value v') w) (hv : VR j v v') : Out P x j B sz w s v .nil :=
  ⟨_, v', w, j, h, .inl rfl, hv, r, Ext.refl _ _ _ _ _⟩

theorem Out.new {sz : Nat} {s : Sem Next} {v v' : Value} {w' : World} {cs : List Value} {cur : Array Value} {t : TypeId} (r : Rel x j B w) (hng : x.ng ≤ x.n) (hk : j (x.n + sz) = none)
    (h : s.run P w = .ok (.value v') w') (hs : Same w w') (hw : w'.heap = w.heap.push (.cells cur t (0, 0))) (hc : ∀ (i : Nat) (u : Value), cs[i]? = some u → ∃ u', cur[i]? = some u' ∧ SR j u u')
    (hv : VR (j.put (x.n + sz) (w.heap.size, 0)) v v') : Out P x j B sz w s v (.new cs) :=
  ⟨_, v', w', _, h, .inl rfl, hv, r.alloc hk hw hc hng, Ext.alloc _ hk hs hw⟩

theorem same_push {w : World} {o : Obj} : Same w { w with heap := w.heap.push o } := ⟨rfl, rfl, rfl, by simp⟩

theorem addr_new (j : Inj) (b c : Nat) : AddrR (j.put b (c, 0)) ⟨b, 0, none⟩ ⟨c, 0, none⟩ := ⟨rfl, rfl, c, 0, by simp [Inj.put], rfl, rfl⟩

/-! ### reading -/
theorem AH.cell_rel {h : AH} (hx : h.of x) (r : Rel x j B w) {b off : Nat} (hB : x.n ≤ b → B (b - x.n) = h.blk (b - x.n)) {v : Value} (hv : h.cell b off = some v) {a' : Addr} (ha : AddrR j ⟨b, off, none⟩ a') :
    ∃ v', w.cell? a' = some v' ∧ SR j v v' := by
  obtain ⟨_, hsp, c, s, hj, hb', ho'⟩ := ha
  obtain ⟨c', o', sp⟩ := a'
  simp only at hsp hb' ho' hj
  subst hsp hb' ho'
  unfold AH.cell at hv
  rw [hx.2.1, hx.2.2] at hv
  by_cases hlt : b < x.n
  · have h1 : Nat.blt b x.n = true := by simpa [Nat.blt_eq] using hlt
    rw [h1] at hv
    obtain ⟨c2, s2, v', h2, h3, h4⟩ := r.base b off v hlt hv
    rw [hj] at h2
    injection h2 with h2
    injection h2 with h2 h2'
    subst h2 h2'
    exact ⟨v', h3, h4⟩
  · have h1 : Nat.blt b x.n = false := by
      cases hq : Nat.blt b x.n
      · rfl
      · exact absurd (by simpa [Nat.blt_eq] using hq) hlt
    rw [h1] at hv
    have hb := hB (by omega)
    have hv : (match h.blk (b - x.n) with | some (.cells cs) => lget cs off | _ => none) = some v := hv
    rw [← hb] at hv
    split at hv
    · rename_i cs hcs
      have hj' : j (x.n + (b - x.n)) = some (c', s) := by rw [show x.n + (b - x.n) = b by omega]; exact hj
      obtain ⟨cur, t, h2, h3⟩ := r.cells _ _ _ cs hj' hcs
      rw [lget_eq] at hv
      obtain ⟨v', h4, h5⟩ := h3 off v hv
      exact ⟨v', cell_of h2 h4, h5⟩
    · cases hv

theorem roCells_spec : ∀ (n : Nat) (ro : Nat → Option Value) (off : Nat) (cs : List Value), roCells ro off n = some cs → cs.length = n ∧ ∀ i v, cs[i]? = some v → ro (off + i) = some v
  | 0, ro, off, cs, h => by simp [roCells] at h; subst h; simp
  | n + 1, ro, off, cs, h => by
    simp only [roCells] at h
    split at h
    · rename_i v hv
      simp only [Option.map_eq_some_iff] at h
      obtain ⟨cs', h', rfl⟩ := h
      obtain ⟨h1, h2⟩ := roCells_spec n ro (off + 1) cs' h'
      refine ⟨by simp [h1], fun i u hu => ?_⟩
      cases i with
      | zero => simp at hu; subst hu; simpa using hv
      | succ i => simp at hu; have := h2 i u hu; rwa [show off + 1 + i = off + (i + 1) by omega] at this
    · cases h

/-- Several cells, one behind the other. -/
theorem AH.cut_rel {h : AH} (hx : h.of x) (r : Rel x j B w) {b off n : Nat} (hB : x.n ≤ b → B (b - x.n) = h.blk (b - x.n)) {cs : List Value} (hv : h.cut b off n = some cs) {a' : Addr} (ha : AddrR j ⟨b, off, none⟩ a') :
    cs.length = n ∧ ∃ cs', All2 (SR j) cs cs' ∧ ∀ i v', cs'[i]? = some v' → w.cell? (a'.add i) = some v' := by
  have each : ∀ i v, cs[i]? = some v → h.cell b (off + i) = some v := by
    intro i v hi
    unfold AH.cut at hv
    unfold AH.cell
    cases hq : Nat.blt b h.n with
    | true =>
      rw [hq] at hv
      exact (roCells_spec n _ off cs hv).2 i v hi
    | false =>
      rw [hq] at hv
      have hv : (match h.blk (b - h.n) with | some (.cells cs) => lcut cs off n | _ => none) = some cs := hv
      show (match h.blk (b - h.n) with | some (.cells cs) => lget cs (off + i) | _ => none) = some v
      cases hl : h.blk (b - h.n) with
      | none => rw [hl] at hv; cases hv
      | some o => cases o with
        | dead => rw [hl] at hv; cases hv
        | cells l =>
          rw [hl] at hv
          obtain ⟨h1, h2, h3⟩ := lcut_spec _ _ _ _ hv
          have hil : i < n := by have := (List.getElem?_eq_some_iff.1 hi).1; omega
          show lget l (off + i) = some v
          rw [lget_eq, ← h3 i hil]
          exact hi
  have hlen : cs.length = n := by
    unfold AH.cut at hv
    cases hq : Nat.blt b h.n with
    | true => rw [hq] at hv; exact (roCells_spec n _ off cs hv).1
    | false =>
      rw [hq] at hv
      have hv : (match h.blk (b - h.n) with | some (.cells cs) => lcut cs off n | _ => none) = some cs := hv
      split at hv
      · exact (lcut_spec _ _ _ _ hv).1
      · cases hv
  have haddr : ∀ i, AddrR j ⟨b, off + i, none⟩ (a'.add i) := by
    intro i
    obtain ⟨h1, h2, c, s, h3, h4, h5⟩ := ha
    obtain ⟨c', o', sp⟩ := a'
    have h2 : sp = none := h2
    have h5 : o' = off + s := h5
    subst h2
    rw [Addr.add_lit]
    exact ⟨rfl, rfl, c, s, h3, h4, show o' + i = off + i + s by omega⟩
  have ex : ∀ i : Nat, ∃ v', ∀ v, cs[i]? = some v → w.cell? (a'.add i) = some v' ∧ SR j v v' := by
    intro i
    cases hi : cs[i]? with
    | none => exact ⟨Go.undef, fun v hv => by cases hv⟩
    | some v =>
      obtain ⟨v', h1, h2⟩ := AH.cell_rel hx r hB (each i v hi) (haddr i)
      exact ⟨v', fun u hu => by injection hu with hu; subst hu; exact ⟨h1, h2⟩⟩
  refine ⟨hlen, (List.range n).map fun i => Classical.choose (ex i), ?_, ?_⟩
  · refine All2.of (by simp [hlen]) fun i u u' hu hu' => ?_
    have hil : i < n := by have := (List.getElem?_eq_some_iff.1 hu).1; omega
    simp [hil] at hu'
    subst hu'
    exact (Classical.choose_spec (ex i) u hu).2
  · intro i v' hv'
    have hil : i < n := by have := (List.getElem?_eq_some_iff.1 hv').1; simpa using this
    simp [hil] at hv'
    subst hv'
    have : i < cs.length := by omega
    exact (Classical.choose_spec (ex i) cs[i] (by simp [this])).1

theorem loadT_rel {h : AH} (ht : TabsOK P T) (hx : h.of x) (r : Rel x j B w) {t : TypeId} {b off : Nat} (hB : x.n ≤ b → B (b - x.n) = h.blk (b - x.n)) {v : Value} (hv : loadT T h t b off = some v) {a' : Addr} (ha : AddrR j ⟨b, off, none⟩ a') :
    ∃ v', (loadVar t a').run P w = .ok v' w ∧ VR j v v' := by
  unfold loadT at hv
  split at hv
  · rename_i ti hti
    have hty := ht.ty t ti hti
    have h1 := hty.isAgg w
    have h2 := hty.sizeOf w
    cases hagg : ti.agg with
    | true =>
      rw [hagg] at hv h1
      simp only [cond, Option.map_eq_some_iff] at hv
      obtain ⟨cs, hcut, rfl⟩ := hv
      obtain ⟨h3, cs', h4, h5⟩ := AH.cut_rel hx r hB hcut ha
      have h6 := run_loadCells_list (P := P) w a' cs' h5
      refine ⟨.agg ⟨cs'⟩, ?_, .ofA (.agg h4)⟩
      have h7 : cs'.length = ti.size := by rw [h4.length, h3]
      rw [h7] at h6
      simp [loadVar, h1, h2, h6]
    | false =>
      rw [hagg] at hv h1
      simp only [cond] at hv
      obtain ⟨v', h3, h4⟩ := AH.cell_rel hx r hB hv ha
      exact ⟨v', by simp [loadVar, h1, h3], .of h4⟩
  · cases hv

end Go.Vae

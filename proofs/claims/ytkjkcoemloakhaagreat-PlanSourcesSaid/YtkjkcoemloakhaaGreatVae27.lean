/- Expressions and plans as trees: their cells, where their parts lie, how many nodes they have. -/
import Derived.Test.YtkjkcoemloakhaaGreatVae26
set_option linter.unusedVariables false
set_option linter.unusedSimpArgs false
namespace Go.Vae
open Go Go.RowKit

variable {T : Tabs}

def w64 (n : Int) : Prop := -9223372036854775808 ≤ n ∧ n ≤ 9223372036854775807

theorem w64_of {n : Int} (h : (Lit.int .i64 n).wf = true) : w64 n := by
  simp only [Lit.wf, Bool.and_eq_true, decide_eq_true_eq] at h
  exact h

def txt (s : ByteArray) : Nat := s.data.toList.length

/-- A slice whose n elements of so many cells lie in the caller's memory. -/
def SAt {α : Type} (rd : RO) (size : Nat) (cells : α → List Value) (sl : Value) (n : Nat) (x : Nat → α) : Prop :=
  ∃ a cap, sl = .slice a n cap ∧ n ≤ cap ∧ cap < unk ∧ ∀ i, i < n → ∃ b off, a = some ⟨b, off, none⟩ ∧ rd b (off + i * size) size = some (cells (x i))

theorem Rd.slice {α : Type} [Inhabited α] {rd : RO} {k : Nat} {t e : TypeId} {ti ei : TI} {cs : List Value} (cells : α → List Value) (ok : α → Prop) (ht : T.ty t = some ti) (hk : ti.k = .slice e) (he : T.ty e = some ei) (hb : 1 ≤ ei.bytes)
    (h : Rd T rd (k + 1) t cs) (hx : ∀ cs', Rd T rd k e cs' → ∃ x : α, cells x = cs' ∧ ok x) :
    ∃ sl n x, cs = [sl] ∧ n ≤ reachBytes ∧ SAt rd ei.size cells sl n x ∧ ∀ i, i < n → ok (x i) := by
  simp only [Rd, ht, hk] at h
  obtain ⟨a, len, cap, rfl, h1, h2, ei', h3, h4, h5⟩ := h
  rw [he] at h3
  injection h3 with h3
  subst h3
  obtain ⟨x, hxx⟩ := Go.Deep.choose_lt (α := α) (n := len) (p := fun i x => (∃ b off, a = some ⟨b, off, none⟩ ∧ rd b (off + i * ei.size) ei.size = some (cells x)) ∧ ok x) (fun i hi => by
    obtain ⟨b, off, cs', e1, e2, e3⟩ := h5 i hi
    obtain ⟨x, e4, e5⟩ := hx cs' e3
    exact ⟨x, ⟨b, off, e1, by rw [e4]; exact e2⟩, e5⟩)
  refine ⟨_, len, x, rfl, ?_, ⟨a, cap, rfl, h1, h2, fun i hi => (hxx i hi).1⟩, fun i hi => (hxx i hi).2⟩
  have := Nat.mul_le_mul h1 hb
  omega

theorem Rd.int {rd : RO} {k : Nat} {t : TypeId} {ti : TI} {cs : List Value} (ht : T.ty t = some ti) (hk : ti.k = .int .i64) (h : Rd T rd k t cs) : ∃ n, cs = [.int .i64 n] ∧ w64 n := by
  cases k with
  | zero => exact h.elim
  | succ k =>
    simp only [Rd, ht, hk] at h
    obtain ⟨n, h1, h2⟩ := h
    exact ⟨n, h1, w64_of h2⟩

theorem Rd.str {rd : RO} {k : Nat} {t : TypeId} {ti : TI} {cs : List Value} (ht : T.ty t = some ti) (hk : ti.k = .string) (h : Rd T rd k t cs) : ∃ s, cs = [.string s] ∧ txt s ≤ reachBytes := by
  cases k with
  | zero => exact h.elim
  | succ k =>
    simp only [Rd, ht, hk] at h
    exact h

theorem Rd.bool {rd : RO} {k : Nat} {t : TypeId} {ti : TI} {cs : List Value} (ht : T.ty t = some ti) (hk : ti.k = .bool) (h : Rd T rd k t cs) : ∃ b, cs = [.bool b] := by
  cases k with
  | zero => exact h.elim
  | succ k => simpa only [Rd, ht, hk] using h

theorem Rd.struct {rd : RO} {k : Nat} {t : TypeId} {ti : TI} {cs : List Value} {fs : List (TypeId × Nat)} (ht : T.ty t = some ti) (hk : ti.k = .struct fs) (h : Rd T rd k t cs) :
    ∃ k', k = k' + 1 ∧ cs.length = ti.size ∧ ∀ f ∈ fs, ∃ fi, T.ty f.1 = some fi ∧ Rd T rd k' f.1 ((cs.drop f.2).take fi.size) := by
  cases k with
  | zero => exact h.elim
  | succ k =>
    simp only [Rd, ht, hk] at h
    exact ⟨k, rfl, h⟩

theorem Rd.pos {rd : RO} {k : Nat} {t : TypeId} {cs : List Value} (h : Rd T rd k t cs) : ∃ k', k = k' + 1 := by
  cases k with
  | zero => exact h.elim
  | succ k => exact ⟨k, rfl⟩

/-! ### sums and rows by index -/
def sumTo (f : Nat → Nat) : Nat → Nat
  | 0 => 0
  | n + 1 => sumTo f n + f n

def catTo {α : Type} (f : Nat → List α) : Nat → List α
  | 0 => []
  | n + 1 => catTo f n ++ f n

theorem sumTo_le {f : Nat → Nat} {c : Nat} : ∀ {n : Nat}, (∀ i, i < n → f i ≤ c) → sumTo f n ≤ n * c
  | 0, _ => by simp [sumTo]
  | n + 1, h => by
    have h1 := sumTo_le (n := n) fun i hi => h i (by omega)
    have h2 := h n (by omega)
    have h3 : (n + 1) * c = n * c + c := Nat.succ_mul n c
    simp only [sumTo]
    omega

theorem sumTo_mono {f : Nat → Nat} {i : Nat} : ∀ {n : Nat}, i ≤ n → sumTo f i ≤ sumTo f n
  | 0, h => by obtain rfl : i = 0 := by omega
               exact Nat.le_refl _
  | n + 1, h => by
    by_cases e : i = n + 1
    · subst e; exact Nat.le_refl _
    · have := sumTo_mono (f := f) (i := i) (n := n) (by omega)
      simp only [sumTo]
      omega

theorem catTo_length {α : Type} {f : Nat → List α} : ∀ n, (catTo f n).length = sumTo (fun i => (f i).length) n
  | 0 => rfl
  | n + 1 => by simp only [catTo, sumTo, List.length_append, catTo_length n]

/-! ### expressions -/
inductive E where
  | nil
  | mk (op : Int) (tb nm : ByteArray) (ix vk vi : Int) (vt : ByteArray) (sl : Value) (n : Nat) (kid : Nat → E)

instance : Inhabited E := ⟨.nil⟩

def E.cells : E → List Value
  | .nil => []
  | .mk op tb nm ix vk vi vt sl _ _ => [.int .i64 op, .string tb, .string nm, .int .i64 ix, .int .i64 vk, .int .i64 vi, .string vt, sl]

def E.At (rd : RO) : E → Prop
  | .nil => False
  | .mk op tb nm ix vk vi vt sl n kid => (w64 op ∧ w64 ix ∧ w64 vk ∧ w64 vi) ∧ (txt tb ≤ reachBytes ∧ txt nm ≤ reachBytes ∧ txt vt ≤ reachBytes) ∧ n ≤ reachBytes ∧ SAt rd 8 E.cells sl n kid ∧ ∀ i, i < n → (kid i).At rd

/-- How many nodes. -/
def E.size : E → Nat
  | .nil => 0
  | .mk _ _ _ _ _ _ _ _ n kid => 1 + sumTo (fun i => (kid i).size) n

/-- Every node has short texts. -/
def E.short : E → Prop
  | .nil => True
  | .mk _ tb nm _ _ _ vt _ n kid => txt nm + txt tb + txt vt ≤ 100 ∧ ∀ i, i < n → (kid i).short

/-- AND has two operands. -/
def E.pairs : E → Prop
  | .nil => True
  | .mk op _ _ _ _ _ _ _ n kid => (op = 18 → n = 2) ∧ ∀ i, i < n → (kid i).pairs

/-- The types of an expression and its parts. -/
structure ExprT (T : Tabs) (e v i q s l : TypeId) : Prop where
  he : ∃ ti, T.ty e = some ti ∧ ti.k = .struct [(i, 0), (s, 1), (s, 2), (i, 3), (v, 4), (l, 7)] ∧ ti.size = 8 ∧ 1 ≤ ti.bytes
  hv : ∃ ti, T.ty v = some ti ∧ ti.k = .struct [(i, 0), (q, 1), (s, 2)] ∧ ti.size = 3
  hi : ∃ ti, T.ty i = some ti ∧ ti.k = .int .i64 ∧ ti.size = 1
  hq : ∃ ti, T.ty q = some ti ∧ ti.k = .int .i64 ∧ ti.size = 1
  hs : ∃ ti, T.ty s = some ti ∧ ti.k = .string ∧ ti.size = 1
  hl : ∃ ti, T.ty l = some ti ∧ ti.k = .slice e ∧ ti.size = 1

theorem take_one {α : Type} {l : List α} {o : Nat} {x : α} (h : (l.drop o).take 1 = [x]) : l[o]? = some x := by
  have : ((l.drop o).take 1)[0]? = some x := by rw [h]; rfl
  rw [List.getElem?_take_of_lt (by omega), List.getElem?_drop, Nat.add_zero] at this
  exact this

theorem fieldRd {rd : RO} {k : Nat} {cs : List Value} {fs : List (TypeId × Nat)} {t o : Nat} {ti : TI} (h : ∀ f ∈ fs, ∃ fi, T.ty f.1 = some fi ∧ Rd T rd k f.1 ((cs.drop f.2).take fi.size)) (hm : (t, o) ∈ fs) (ht : T.ty t = some ti) : Rd T rd k t ((cs.drop o).take ti.size) := by
  obtain ⟨fi, h1, h2⟩ := h _ hm
  rw [ht] at h1
  injection h1 with h1
  subst h1
  exact h2

theorem fieldInt {rd : RO} {k : Nat} {cs : List Value} {fs : List (TypeId × Nat)} {t o : Nat} (h : ∀ f ∈ fs, ∃ fi, T.ty f.1 = some fi ∧ Rd T rd k f.1 ((cs.drop f.2).take fi.size)) (hm : (t, o) ∈ fs) (ht : ∃ ti, T.ty t = some ti ∧ ti.k = .int .i64 ∧ ti.size = 1) : ∃ n, cs[o]? = some (.int .i64 n) ∧ w64 n := by
  obtain ⟨ti, h1, h2, h3⟩ := ht
  have := fieldRd h hm h1
  rw [h3] at this
  obtain ⟨n, h4, h5⟩ := this.int h1 h2
  exact ⟨n, take_one h4, h5⟩

theorem fieldStr {rd : RO} {k : Nat} {cs : List Value} {fs : List (TypeId × Nat)} {t o : Nat} (h : ∀ f ∈ fs, ∃ fi, T.ty f.1 = some fi ∧ Rd T rd k f.1 ((cs.drop f.2).take fi.size)) (hm : (t, o) ∈ fs) (ht : ∃ ti, T.ty t = some ti ∧ ti.k = .string ∧ ti.size = 1) : ∃ s, cs[o]? = some (.string s) ∧ txt s ≤ reachBytes := by
  obtain ⟨ti, h1, h2, h3⟩ := ht
  have := fieldRd h hm h1
  rw [h3] at this
  obtain ⟨n, h4, h5⟩ := this.str h1 h2
  exact ⟨n, take_one h4, h5⟩

theorem fieldBool {rd : RO} {k : Nat} {cs : List Value} {fs : List (TypeId × Nat)} {t o : Nat} (h : ∀ f ∈ fs, ∃ fi, T.ty f.1 = some fi ∧ Rd T rd k f.1 ((cs.drop f.2).take fi.size)) (hm : (t, o) ∈ fs) (ht : ∃ ti, T.ty t = some ti ∧ ti.k = .bool ∧ ti.size = 1) : ∃ b, cs[o]? = some (.bool b) := by
  obtain ⟨ti, h1, h2, h3⟩ := ht
  have := fieldRd h hm h1
  rw [h3] at this
  obtain ⟨n, h4⟩ := this.bool h1 h2
  exact ⟨n, take_one h4⟩

theorem fieldSlice {α : Type} [Inhabited α] {rd : RO} {k : Nat} {cs : List Value} {fs : List (TypeId × Nat)} {t o e : Nat} {ei : TI} (cells : α → List Value) (ok : α → Prop) (h : ∀ f ∈ fs, ∃ fi, T.ty f.1 = some fi ∧ Rd T rd k f.1 ((cs.drop f.2).take fi.size)) (hm : (t, o) ∈ fs)
    (ht : ∃ ti, T.ty t = some ti ∧ ti.k = .slice e ∧ ti.size = 1) (he : T.ty e = some ei) (hb : 1 ≤ ei.bytes) (hx : ∀ k', k' < k → ∀ cs', Rd T rd k' e cs' → ∃ x : α, cells x = cs' ∧ ok x) :
    ∃ sl n x, cs[o]? = some sl ∧ n ≤ reachBytes ∧ SAt rd ei.size cells sl n x ∧ ∀ i, i < n → ok (x i) := by
  obtain ⟨ti, h1, h2, h3⟩ := ht
  have := fieldRd h hm h1
  rw [h3] at this
  obtain ⟨k', rfl⟩ := this.pos
  obtain ⟨sl, n, x, h4, h5, h6, h7⟩ := Rd.slice cells ok h1 h2 he hb this (hx k' (by omega))
  exact ⟨sl, n, x, take_one h4, h5, h6, h7⟩

theorem list8 {α : Type} {l : List α} {a0 a1 a2 a3 a4 a5 a6 a7 : α} (h : l.length = 8) (h0 : l[0]? = some a0) (h1 : l[1]? = some a1) (h2 : l[2]? = some a2) (h3 : l[3]? = some a3) (h4 : l[4]? = some a4) (h5 : l[5]? = some a5) (h6 : l[6]? = some a6) (h7 : l[7]? = some a7) : l = [a0, a1, a2, a3, a4, a5, a6, a7] := by
  match l, h with
  | [b0, b1, b2, b3, b4, b5, b6, b7], _ => simp at h0 h1 h2 h3 h4 h5 h6 h7; simp [h0, h1, h2, h3, h4, h5, h6, h7]

theorem E.of_rd {e v i q s l : TypeId} (hT : ExprT T e v i q s l) {rd : RO} : ∀ (k : Nat) (cs : List Value), Rd T rd k e cs → ∃ x : E, x.cells = cs ∧ x.At rd := by
  intro k
  induction k using Nat.strongRecOn with
  | _ k ih =>
    intro cs h
    obtain ⟨ei, he, hek, hes, heb⟩ := hT.he
    obtain ⟨vi, hv, hvk, hvs⟩ := hT.hv
    obtain ⟨k', rfl, hlen, hf⟩ := h.struct he hek
    rw [hes] at hlen
    obtain ⟨op, c0, w0⟩ := fieldInt hf (by simp) hT.hi (o := 0)
    obtain ⟨tb, c1, w1⟩ := fieldStr hf (by simp) hT.hs (o := 1)
    obtain ⟨nm, c2, w2⟩ := fieldStr hf (by simp) hT.hs (o := 2)
    obtain ⟨ix, c3, w3⟩ := fieldInt hf (by simp) hT.hi (o := 3)
    have hval := fieldRd hf (by simp) hv (o := 4)
    obtain ⟨k2, rfl, _, hg⟩ := hval.struct hv hvk
    rw [hvs] at hg
    obtain ⟨vk, c4, w4⟩ := fieldInt hg (by simp) hT.hi (o := 0)
    obtain ⟨vn, c5, w5⟩ := fieldInt hg (by simp) hT.hq (o := 1)
    obtain ⟨vt, c6, w6⟩ := fieldStr hg (by simp) hT.hs (o := 2)
    rw [List.getElem?_take_of_lt (by omega), List.getElem?_drop] at c4 c5 c6
    obtain ⟨sl, n, x, c7, hn, hsl, hok⟩ := fieldSlice E.cells (fun x => x.At rd) hf (by simp) hT.hl he heb (o := 7) (fun k3 hk3 cs' hr => ih k3 (by omega) cs' hr)
    rw [hes] at hsl
    exact ⟨.mk op tb nm ix vk vn vt sl n x, (list8 hlen c0 c1 c2 c3 c4 c5 c6 c7).symm, ⟨w0, w3, w4, w5⟩, ⟨w1, w2, w6⟩, hn, hsl, hok⟩

/-! ### plans -/
inductive Pl where
  | nil
  | mk (kd sc : Int) (csl : Value) (nc : Nat) (cols : Nat → Int) (ksl : Value) (nk : Nat) (keys : Nat → E) (flt : E) (asl : Value) (na : Nat) (args : Nat → Pl)

instance : Inhabited Pl := ⟨.nil⟩

def intC (n : Int) : List Value := [.int .i64 n]

def Pl.cells : Pl → List Value
  | .mk kd sc csl _ _ ksl _ _ (.mk op tb nm ix vk vi vt sl _ _) asl _ _ => [.int .i64 kd, .int .i64 sc, csl, ksl, .int .i64 op, .string tb, .string nm, .int .i64 ix, .int .i64 vk, .int .i64 vi, .string vt, sl, asl]
  | _ => []

def Pl.At (rd : RO) : Pl → Prop
  | .nil => False
  | .mk kd sc csl nc cols ksl nk keys flt asl na args => (w64 kd ∧ w64 sc ∧ nc ≤ reachBytes ∧ nk ≤ reachBytes ∧ na ≤ reachBytes) ∧ (SAt rd 1 intC csl nc cols ∧ ∀ i, i < nc → w64 (cols i)) ∧ (SAt rd 8 E.cells ksl nk keys ∧ ∀ i, i < nk → (keys i).At rd) ∧
      flt.At rd ∧ SAt rd 13 Pl.cells asl na args ∧ ∀ i, i < na → (args i).At rd

def E.tiny (e : E) : Prop := e.size ≤ 400 ∧ e.short

/-- Few nodes, nested to this depth. -/
def Pl.few : Pl → Nat → Prop
  | .nil, _ => False
  | .mk .., 0 => False
  | .mk _ _ _ nc _ _ nk keys flt _ na args, d + 1 => nc ≤ 10 ∧ nk ≤ 10 ∧ na ≤ 3 ∧ flt.tiny ∧ (∀ i, i < nk → (keys i).tiny) ∧ ∀ i, i < na → (args i).few d

def Pl.pairs : Pl → Prop
  | .nil => False
  | .mk _ _ _ _ _ _ nk keys flt _ na args => flt.pairs ∧ (∀ i, i < nk → (keys i).pairs) ∧ ∀ i, i < na → (args i).pairs

/-- The sources that a plan combines, in order. -/
def Pl.srcs : Pl → List Int
  | .nil => []
  | .mk kd sc _ _ _ _ _ _ _ _ na args => if kd = 1 ∨ kd = 2 ∨ kd = 3 then [sc] else catTo (fun i => (args i).srcs) na

theorem Pl.srcs_le : ∀ (p : Pl) (d : Nat), p.few d → p.srcs.length ≤ 3 ^ d
  | .nil, _, h => h.elim
  | .mk .., 0, h => h.elim
  | .mk kd sc _ nc _ _ nk keys flt _ na args, d + 1, h => by
    obtain ⟨_, _, h3, _, _, h6⟩ := h
    have hp : 1 ≤ 3 ^ d := Nat.one_le_pow _ _ (by omega)
    simp only [srcs]
    split
    · simp [Nat.pow_succ]; omega
    · rw [catTo_length]
      have := sumTo_le (f := fun i => (args i).srcs.length) (c := 3 ^ d) (n := na) fun i hi => Pl.srcs_le (args i) d (h6 i hi)
      have h2 : na * 3 ^ d ≤ 3 * 3 ^ d := Nat.mul_le_mul_right _ h3
      rw [Nat.pow_succ]
      omega

structure PlanT (T : Tabs) (p e v i q s l c a : TypeId) : Prop where
  hp : ∃ ti, T.ty p = some ti ∧ ti.k = .struct [(i, 0), (i, 1), (c, 2), (l, 3), (e, 4), (a, 12)] ∧ ti.size = 13 ∧ 1 ≤ ti.bytes
  ex : ExprT T e v i q s l
  hc : ∃ ti, T.ty c = some ti ∧ ti.k = .slice i ∧ ti.size = 1
  ha : ∃ ti, T.ty a = some ti ∧ ti.k = .slice p ∧ ti.size = 1
  ib : ∃ ti, T.ty i = some ti ∧ 1 ≤ ti.bytes

theorem list13 {α : Type} {l : List α} {a0 a1 a2 a3 b0 b1 b2 b3 b4 b5 b6 b7 c : α} (h : l.length = 13) (h0 : l[0]? = some a0) (h1 : l[1]? = some a1) (h2 : l[2]? = some a2) (h3 : l[3]? = some a3) (h4 : (l.drop 4).take 8 = [b0, b1, b2, b3, b4, b5, b6, b7]) (h5 : l[12]? = some c) :
    l = [a0, a1, a2, a3, b0, b1, b2, b3, b4, b5, b6, b7, c] := by
  match l, h with
  | [x0, x1, x2, x3, x4, x5, x6, x7, x8, x9, x10, x11, x12], _ => simp at h0 h1 h2 h3 h4 h5; simp [h0, h1, h2, h3, h4, h5]

theorem Pl.of_rd {p e v i q s l c a : TypeId} (hT : PlanT T p e v i q s l c a) {rd : RO} : ∀ (k : Nat) (cs : List Value), Rd T rd k p cs → ∃ x : Pl, x.cells = cs ∧ x.At rd := by
  intro k
  induction k using Nat.strongRecOn with
  | _ k ih =>
    intro cs h
    obtain ⟨pi, hp, hpk, hps, hpb⟩ := hT.hp
    obtain ⟨ei, he, hek, hes, heb⟩ := hT.ex.he
    obtain ⟨ii, hi, hib⟩ := hT.ib
    obtain ⟨ii', hi', hik, his⟩ := hT.ex.hi
    have : ii' = ii := by rw [hi] at hi'; injection hi' with hi'; exact hi'.symm
    subst this
    obtain ⟨k', rfl, hlen, hf⟩ := h.struct hp hpk
    rw [hps] at hlen
    obtain ⟨kd, c0, w0⟩ := fieldInt hf (by simp) hT.ex.hi (o := 0)
    obtain ⟨sc, c1, w1⟩ := fieldInt hf (by simp) hT.ex.hi (o := 1)
    obtain ⟨csl, nc, cols, c2, n2, s2, o2⟩ := fieldSlice intC w64 hf (by simp) hT.hc hi hib (o := 2) (fun k3 hk3 cs' hr => by
      obtain ⟨n, rfl, hn⟩ := hr.int hi hik
      exact ⟨n, rfl, hn⟩)
    obtain ⟨ksl, nk, keys, c3, n3, s3, o3⟩ := fieldSlice E.cells (fun x => x.At rd) hf (by simp) hT.ex.hl he heb (o := 3) (fun k3 hk3 cs' hr => E.of_rd hT.ex k3 cs' hr)
    have hflt := fieldRd hf (by simp) he (o := 4)
    rw [hes] at hflt
    obtain ⟨flt, c4, o4⟩ := E.of_rd hT.ex _ _ hflt
    obtain ⟨asl, na, args, c5, n5, s5, o5⟩ := fieldSlice Pl.cells (fun x => x.At rd) hf (by simp) hT.ha hp hpb (o := 12) (fun k3 hk3 cs' hr => ih k3 (by omega) cs' hr)
    rw [his] at s2
    rw [hes] at s3
    rw [hps] at s5
    cases flt with
    | nil => exact o4.elim
    | mk op tb nm ix vk vn vt sl n x =>
      exact ⟨.mk kd sc csl nc cols ksl nk keys (.mk op tb nm ix vk vn vt sl n x) asl na args, (list13 hlen c0 c1 c2 c3 c4.symm c5).symm, ⟨w0, w1, n2, n3, n5⟩, ⟨s2, o2⟩, ⟨s3, o3⟩, o4, s5, o5⟩

end Go.Vae

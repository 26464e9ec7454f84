/- How the evaluator's data stand for the machine's: values, heap and world, and what the elementary effects do to that. -/
import Derived.Test.YtkjkcoemloakhaaGreatVae0
import Derived.Laws.AppendOwn
set_option linter.unusedVariables false
set_option linter.unusedSimpArgs false
namespace Go.Vae
open Go Go.RowKit

/-! ### trees and lists -/
theorem beq_mod (i : Nat) : Nat.beq (i % 2) 0 = true ∨ Nat.beq (i % 2) 0 = false := by cases Nat.beq (i % 2) 0 <;> simp

theorem Tr.get_e {α : Type} (i : Nat) : (Tr.e : Tr α).get i = none := by cases i <;> rfl

theorem half_inj {i k : Nat} (h : Nat.beq (i % 2) 0 = Nat.beq (k % 2) 0) (h2 : i / 2 = k / 2) : i = k := by
  have hi : i % 2 = 0 ∨ i % 2 = 1 := by omega
  have hk : k % 2 = 0 ∨ k % 2 = 1 := by omega
  rcases hi with hi | hi <;> rcases hk with hk | hk <;> rw [hi, hk] at h
  · omega
  · simp at h
  · simp at h
  · omega

theorem Tr.get_put_ne {α : Type} : ∀ (d : Nat) (t : Tr α) (i k : Nat) (x : α), k ≠ i → (t.put d i x).get k = t.get k
  | 0, _, _, _, _, _ => rfl
  | d + 1, .e, 0, k, x, h => by
    cases k with
    | zero => exact absurd rfl h
    | succ k => simp only [Tr.put, Tr.get]; cases Nat.beq (k % 2) 0 <;> simp [Tr.get_e]
  | d + 1, .e, i + 1, k, x, h => by
    have ih := fun k h => Tr.get_put_ne d (Tr.e : Tr α) (i / 2) k x h
    cases k with
    | zero => simp only [Tr.put]; cases Nat.beq (i % 2) 0 <;> rfl
    | succ k =>
      simp only [Tr.put]
      by_cases hb : Nat.beq (i % 2) 0 = Nat.beq (k % 2) 0
      · have hne : k / 2 ≠ i / 2 := fun e => h (by rw [half_inj hb.symm e])
        have := ih (k / 2) hne
        cases h1 : Nat.beq (i % 2) 0 <;> rw [h1] at hb <;> simp only [cond, Tr.get, ← hb] <;> rw [this]
        · simp only [Tr.get_e]
        · simp only [Tr.get_e]
      · cases h1 : Nat.beq (i % 2) 0 <;> cases h2 : Nat.beq (k % 2) 0 <;> rw [h1, h2] at hb <;> simp_all [Tr.get, Tr.get_e]
  | d + 1, .n l v r, 0, k, x, h => by
    cases k with
    | zero => exact absurd rfl h
    | succ k => rfl
  | d + 1, .n l v r, i + 1, k, x, h => by
    cases k with
    | zero => simp only [Tr.put]; cases Nat.beq (i % 2) 0 <;> rfl
    | succ k =>
      simp only [Tr.put]
      by_cases hb : Nat.beq (i % 2) 0 = Nat.beq (k % 2) 0
      · have hne : k / 2 ≠ i / 2 := fun e => h (by rw [half_inj hb.symm e])
        have hl := Tr.get_put_ne d l (i / 2) (k / 2) x hne
        have hr := Tr.get_put_ne d r (i / 2) (k / 2) x hne
        cases h1 : Nat.beq (i % 2) 0 <;> rw [h1] at hb <;> simp only [cond, Tr.get, ← hb]
        · exact hr
        · exact hl
      · cases h1 : Nat.beq (i % 2) 0 <;> cases h2 : Nat.beq (k % 2) 0 <;> rw [h1, h2] at hb <;> simp_all [Tr.get]

theorem Tr.get_put_eq {α : Type} : ∀ (d : Nat) (t : Tr α) (i : Nat) (x : α), i + 1 < 2 ^ d → (t.put d i x).get i = some x
  | 0, _, i, _, h => by simp at h
  | d + 1, .e, 0, x, h => rfl
  | d + 1, .e, i + 1, x, h => by
    have ih := Tr.get_put_eq d (Tr.e : Tr α) (i / 2) x (by rw [Nat.pow_succ] at h; omega)
    simp only [Tr.put]
    cases h1 : Nat.beq (i % 2) 0 <;> simp only [cond, Tr.get, h1] <;> exact ih
  | d + 1, .n l v r, 0, x, h => rfl
  | d + 1, .n l v r, i + 1, x, h => by
    have hl := Tr.get_put_eq d l (i / 2) x (by rw [Nat.pow_succ] at h; omega)
    have hr := Tr.get_put_eq d r (i / 2) x (by rw [Nat.pow_succ] at h; omega)
    simp only [Tr.put]
    cases h1 : Nat.beq (i % 2) 0 <;> simp only [cond, Tr.get, h1]
    · exact hr
    · exact hl

theorem Tr.get_set_ne {α : Type} (t : Tr α) {i k : Nat} (x : α) (h : k ≠ i) : (t.set i x).get k = t.get k := Tr.get_put_ne _ t i k x h
theorem Tr.get_set_eq {α : Type} (t : Tr α) (i : Nat) (x : α) : (t.set i x).get i = some x :=
  Tr.get_put_eq _ t i x (Nat.lt_two_pow_self)

theorem lget_eq {α : Type} : ∀ (l : List α) (i : Nat), lget l i = l[i]?
  | [], _ => by simp [lget]
  | x :: xs, 0 => rfl
  | x :: xs, i + 1 => by simp only [lget, List.getElem?_cons_succ]; exact lget_eq xs i

theorem lcut_spec {α : Type} : ∀ (l : List α) (i n : Nat) (r : List α), lcut l i n = some r → r.length = n ∧ i + n ≤ l.length ∧ ∀ j, j < n → r[j]? = l[i + j]?
  | _, 0, 0, r, h => by simp [lcut] at h; subst h; simp
  | [], 0, n + 1, r, h => by simp [lcut] at h
  | x :: xs, 0, n + 1, r, h => by
    simp only [lcut, Option.map_eq_some_iff] at h
    obtain ⟨r', h', rfl⟩ := h
    obtain ⟨h1, h2, h3⟩ := lcut_spec xs 0 n r' h'
    refine ⟨by simp [h1], by simp; omega, fun j hj => ?_⟩
    cases j with
    | zero => simp
    | succ j => have := h3 j (by omega); simpa using this
  | [], i + 1, n, r, h => by simp [lcut] at h
  | x :: xs, i + 1, n, r, h => by
    simp only [lcut] at h
    obtain ⟨h1, h2, h3⟩ := lcut_spec xs i n r h
    refine ⟨h1, by simp; omega, fun j hj => ?_⟩
    rw [h3 j hj, show i + 1 + j = (i + j) + 1 by omega, List.getElem?_cons_succ]

theorem lput_spec {α : Type} : ∀ (l : List α) (i : Nat) (ys r : List α), lput l i ys = some r → r.length = l.length ∧ i + ys.length ≤ l.length ∧ (∀ j, j < ys.length → r[i + j]? = ys[j]?) ∧ ∀ j, (j < i ∨ i + ys.length ≤ j) → r[j]? = l[j]?
  | xs, 0, [], r, h => by simp [lput] at h; subst h; simp
  | [], 0, y :: ys, r, h => by simp [lput] at h
  | x :: xs, 0, y :: ys, r, h => by
    simp only [lput, Option.map_eq_some_iff] at h
    obtain ⟨r', h', rfl⟩ := h
    obtain ⟨h1, h2, h3, h4⟩ := lput_spec xs 0 ys r' h'
    refine ⟨by simp [h1], by simp at h2 ⊢; omega, fun j hj => ?_, fun j hj => ?_⟩
    · cases j with
      | zero => simp
      | succ j => have := h3 j (by simpa using hj); simpa using this
    · cases j with
      | zero => simp at hj
      | succ j => have := h4 j (by simp at hj ⊢; omega); simpa using this
  | [], i + 1, ys, r, h => by simp [lput] at h
  | x :: xs, i + 1, ys, r, h => by
    simp only [lput, Option.map_eq_some_iff] at h
    obtain ⟨r', h', rfl⟩ := h
    obtain ⟨h1, h2, h3, h4⟩ := lput_spec xs i ys r' h'
    refine ⟨by simp [h1], by simp; omega, fun j hj => ?_, fun j hj => ?_⟩
    · rw [show i + 1 + j = (i + j) + 1 by omega, List.getElem?_cons_succ]; exact h3 j hj
    · cases j with
      | zero => simp
      | succ j => have := h4 j (by omega); simpa using this

/-! ### values -/
/-- Which block of the machine's stands for a block of the evaluator's, and by how much it is shifted; and how long the machine's blocks are that hold slices of untold capacity. -/
structure Inj where
  m : Nat → Option (Nat × Nat)
  len : Nat → Option Nat

instance : CoeFun Inj (fun _ => Nat → Option (Nat × Nat)) := ⟨Inj.m⟩

def AddrR (j : Inj) (a a' : Addr) : Prop := a.spot = none ∧ a'.spot = none ∧ ∃ c s, j a.block = some (c, s) ∧ a'.block = c ∧ a'.off = a.off + s

inductive All2 {α β : Type} (R : α → β → Prop) : List α → List β → Prop where
  | nil : All2 R [] []
  | cons {x y xs ys} : R x y → All2 R xs ys → All2 R (x :: xs) (y :: ys)

theorem All2.length {α β : Type} {R : α → β → Prop} : ∀ {xs : List α} {ys : List β}, All2 R xs ys → ys.length = xs.length
  | _, _, .nil => rfl
  | _, _, .cons _ h => by simp [h.length]

theorem All2.at_ {α β : Type} {R : α → β → Prop} : ∀ {xs : List α} {ys : List β}, All2 R xs ys → ∀ (i : Nat) (x : α), xs[i]? = some x → ∃ y, ys[i]? = some y ∧ R x y
  | _, _, .nil, i, x, h => by simp at h
  | _, _, .cons (y := y) hr _, 0, x, h => by simp at h; subst h; exact ⟨y, by simp, hr⟩
  | _, _, .cons _ h', i + 1, x, h => by simp at h; obtain ⟨y, hy, hr⟩ := h'.at_ i x h; exact ⟨y, by simpa using hy, hr⟩

theorem All2.of {α β : Type} {R : α → β → Prop} : ∀ {xs : List α} {ys : List β}, ys.length = xs.length → (∀ (i : Nat) (x : α) (y : β), xs[i]? = some x → ys[i]? = some y → R x y) → All2 R xs ys
  | [], [], _, _ => .nil
  | [], _ :: _, h, _ => by simp at h
  | _ :: _, [], h, _ => by simp at h
  | x :: xs, y :: ys, h, hr => .cons (hr 0 x y rfl rfl) (All2.of (by simpa using h) fun i x y hx hy => hr (i + 1) x y (by simpa using hx) (by simpa using hy))

theorem All2.mono {α β : Type} {R S : α → β → Prop} (hm : ∀ x y, R x y → S x y) : ∀ {xs : List α} {ys : List β}, All2 R xs ys → All2 S xs ys
  | _, _, .nil => .nil
  | _, _, .cons h t => .cons (hm _ _ h) (t.mono hm)

theorem All2.append {α β : Type} {R : α → β → Prop} : ∀ {xs xs' : List α} {ys ys' : List β}, All2 R xs ys → All2 R xs' ys' → All2 R (xs ++ xs') (ys ++ ys')
  | _, _, _, _, .nil, h => h
  | _, _, _, _, .cons h t, h' => .cons h (t.append h')

theorem All2.map {α β γ δ : Type} {R : α → β → Prop} {S : γ → δ → Prop} {f : α → γ} {g : β → δ} (hm : ∀ x y, R x y → S (f x) (g y)) : ∀ {xs : List α} {ys : List β}, All2 R xs ys → All2 S (xs.map f) (ys.map g)
  | _, _, .nil => .nil
  | _, _, .cons h t => .cons (hm _ _ h) (t.map hm)

theorem All2.refl {α : Type} {R : α → α → Prop} : ∀ {xs : List α}, (∀ x ∈ xs, R x x) → All2 R xs xs
  | [], _ => .nil
  | x :: xs, h => .cons (h x (by simp)) (All2.refl fun y hy => h y (by simp [hy]))

/-- A capacity that isn't told: the machine's block has room for it. -/
def CapR (j : Inj) (a' : Addr) (n c c' : Nat) : Prop := n ≤ c' ∧ ∃ es l, c = unk + es ∧ j.len a'.block = some l ∧ a'.off + c' * es ≤ l

inductive SR (j : Inj) : Value → Value → Prop where
  | bool (b : Bool) : SR j (.bool b) (.bool b)
  | int (k : IntKind) (n : Int) : SR j (.int k n) (.int k n)
  | str (s : ByteArray) : SR j (.string s) (.string s)
  | nilptr : SR j (.pointer none) (.pointer none)
  | ptr {a a' : Addr} (h : AddrR j a a') : SR j (.pointer (some a)) (.pointer (some a'))
  | nilslice (a' : Option Addr) (n c : Nat) (h : c < unk) (h0 : a' = none ∨ (n = 0 ∧ c = 0)) : SR j (.slice none n c) (.slice a' n c)
  | slice {a a' : Addr} {n c c' : Nat} (h : AddrR j a a') (hc : (c = c' ∧ c < unk) ∨ CapR j a' n c c') : SR j (.slice (some a) n c) (.slice (some a') n c')
  | func {fn : Fn} {cs cs' : List Value} (h : All2 (fun v v' => ∃ a a', v = .pointer (some a) ∧ v' = .pointer (some a') ∧ AddrR j a a') cs cs') : SR j (.func fn #[] ⟨cs⟩) (.func fn #[] ⟨cs'⟩)
  | nilfunc : SR j .nilFunc .nilFunc
  | niliface : SR j .nilIface .nilIface
  | nilmap : SR j (.map none) (.map none)

inductive AGR (j : Inj) : Value → Value → Prop where
  | one {v v' : Value} (h : SR j v v') : AGR j v v'
  | agg {cs cs' : List Value} (h : All2 (SR j) cs cs') : AGR j (.agg ⟨cs⟩) (.agg ⟨cs'⟩)

inductive UR (j : Inj) : Value → Value → Prop where
  | any (v' : Value) : UR j undef v'
  | val {v v' : Value} (h : AGR j v v') : UR j v v'

inductive VR (j : Inj) : Value → Value → Prop where
  | one {v v' : Value} (h : UR j v v') : VR j v v'
  | tup {vs vs' : List Value} (h : All2 (UR j) vs vs') : VR j (.tuple ⟨vs⟩) (.tuple ⟨vs'⟩)
  | skip : VR j skipV undef

/-- j' knows what j knows. -/
structure Sub (j j' : Inj) : Prop where
  m : ∀ b p, j b = some p → j' b = some p
  len : ∀ c l, j.len c = some l → j'.len c = some l

instance {j j' : Inj} : CoeFun (Sub j j') (fun _ => ∀ b p, j b = some p → j' b = some p) := ⟨Sub.m⟩

theorem Sub.refl (j : Inj) : Sub j j := ⟨fun _ _ h => h, fun _ _ h => h⟩
theorem Sub.trans {a b c : Inj} (h : Sub a b) (k : Sub b c) : Sub a c := ⟨fun x p hp => k x p (h x p hp), fun x p hp => k.len x p (h.len x p hp)⟩

theorem AddrR.mono {j j' : Inj} (h : Sub j j') {a a' : Addr} (r : AddrR j a a') : AddrR j' a a' := by
  obtain ⟨h1, h2, c, s, h3, h4⟩ := r
  exact ⟨h1, h2, c, s, h _ _ h3, h4⟩

theorem CapR.mono {j j' : Inj} (h : Sub j j') {a' : Addr} {n c c' : Nat} (r : CapR j a' n c c') : CapR j' a' n c c' := by
  obtain ⟨h1, es, l, h2, h3, h4⟩ := r
  exact ⟨h1, es, l, h2, h.len _ _ h3, h4⟩

theorem SR.mono {j j' : Inj} (h : Sub j j') {v v' : Value} (r : SR j v v') : SR j' v v' := by
  cases r with
  | bool => constructor
  | int => constructor
  | str => constructor
  | nilptr => constructor
  | ptr a => exact .ptr (a.mono h)
  | nilslice a' n c hc h0 => exact .nilslice a' n c hc h0
  | slice a hc => exact .slice (a.mono h) (hc.imp id (·.mono h))
  | func a => exact .func (a.mono fun _ _ ⟨x, y, h1, h2, h3⟩ => ⟨x, y, h1, h2, h3.mono h⟩)
  | nilfunc => constructor
  | niliface => constructor
  | nilmap => constructor

theorem AGR.mono {j j' : Inj} (h : Sub j j') {v v' : Value} (r : AGR j v v') : AGR j' v v' := by
  cases r with
  | one r => exact .one (r.mono h)
  | agg r => exact .agg (r.mono fun _ _ r => r.mono h)

theorem UR.mono {j j' : Inj} (h : Sub j j') {v v' : Value} (r : UR j v v') : UR j' v v' := by
  cases r with
  | any => exact .any _
  | val r => exact .val (r.mono h)

theorem VR.mono {j j' : Inj} (h : Sub j j') {v v' : Value} (r : VR j v v') : VR j' v v' := by
  cases r with
  | one r => exact .one (r.mono h)
  | tup r => exact .tup (r.mono fun _ _ r => r.mono h)
  | skip => exact .skip

theorem VR.undef {j : Inj} (v : Value) : VR j undef v := .one (.any v)

theorem VR.agr {j : Inj} {v v' : Value} (h : VR j v v') (hv : ∀ vs, v ≠ .tuple vs) (hs : v ≠ skipV := by simp [skipV]) : AGR j v v' := by
  cases h with
  | one h => cases h with
    | any => exact absurd rfl (hv #[])
    | val h => exact h
  | tup h => exact absurd rfl (hv _)
  | skip => exact absurd rfl hs

theorem AGR.sr {j : Inj} {v v' : Value} (h : AGR j v v') (hv : ∀ vs, v ≠ .agg vs) : SR j v v' := by
  cases h with
  | one h => exact h
  | agg h => exact absurd rfl (hv _)

theorem VR.sr {j : Inj} {v v' : Value} (h : VR j v v') (h1 : ∀ vs, v ≠ .tuple vs) (h2 : ∀ vs, v ≠ .agg vs) (hs : v ≠ skipV := by simp [skipV]) : SR j v v' := (h.agr h1 hs).sr h2

theorem VR.of {j : Inj} {v v' : Value} (h : SR j v v') : VR j v v' := .one (.val (.one h))
theorem VR.ofA {j : Inj} {v v' : Value} (h : AGR j v v') : VR j v v' := .one (.val h)

/-- The cells of related values. -/
theorem VR.vcells {j : Inj} {v v' : Value} (h : VR j v v') {cs : List Value} (hc : Vae.vcells v = some cs) : ∃ cs', v'.cells = ⟨cs'⟩ ∧ All2 (SR j) cs cs' := by
  cases v with
  | tuple vs => simp [Vae.vcells] at hc
  | chan vs => simp [Vae.vcells] at hc
  | agg a =>
    have := h.agr (by simp)
    cases this with
    | one h' => cases h'
    | agg h' => simp [Vae.vcells] at hc; subst hc; exact ⟨_, rfl, h'⟩
  | _ =>
    have hs := h.sr (by simp) (by simp)
    simp [Vae.vcells] at hc
    subst hc
    refine ⟨[v'], ?_, .cons hs .nil⟩
    cases hs <;> rfl

theorem SR.oneCell {j : Inj} {v v' : Value} (h : SR j v v') : v'.oneCell' = true := by cases h <;> rfl

theorem SR.oneCells {j : Inj} {cs cs' : List Value} (h : All2 (SR j) cs cs') : ∀ v ∈ cs', v.oneCell' = true := by
  intro v hv
  obtain ⟨i, hi⟩ := List.getElem?_of_mem hv
  have hl := h.length
  have hlt : i < cs.length := by have := (List.getElem?_eq_some_iff.1 hi).1; omega
  obtain ⟨y, hy, hr⟩ := h.at_ i cs[i] (by simp [hlt])
  rw [hi] at hy
  injection hy with hy
  subst hy
  exact hr.oneCell

/-! ### the world -/
/-- What doesn't change in a run: the variables' count, the base's size, what it holds, and where the machine's own blocks of this run begin. -/
structure Cx where
  ng : Nat
  n : Nat
  ro : Nat → Nat → Option Value
  lo : Nat

def AH.of (h : AH) (x : Cx) : Prop := h.ng = x.ng ∧ h.n = x.n ∧ h.ro = x.ro

theorem AH.of_app {h : AH} {x : Cx} (hx : h.of x) (e : Eff) : (h.app e).of x := by cases e <;> exact hx

structure Rel (x : Cx) (j : Inj) (B : Nat → Option AO) (w : World) : Prop where
  glob : ∀ g, g < x.ng → j g = some (g, 0)
  base : ∀ b i v, b < x.n → x.ro b i = some v → ∃ c s v', j b = some (c, s) ∧ w.cell? ⟨c, i + s, none⟩ = some v' ∧ SR j v v'
  blow : ∀ b c s, b < x.n → j b = some (c, s) → c < x.lo
  cells : ∀ k c s cs, j (x.n + k) = some (c, s) → B k = some (.cells cs) → ∃ cur t, w.heap[c]? = some (.cells cur t (0, 0)) ∧ ∀ (i : Nat) (v : Value), cs[i]? = some v → ∃ v', cur[i + s]? = some v' ∧ SR j v v'
  excl : ∀ k1 k2 c s1 s2, j (x.n + k1) = some (c, s1) → j (x.n + k2) = some (c, s2) → k1 ≠ k2 → B k1 = some .dead ∨ B k2 = some .dead
  low : ∀ k c s, j (x.n + k) = some (c, s) → x.lo ≤ c ∧ c < w.heap.size
  room : x.lo ≤ w.heap.size
  lens : ∀ c l, j.len c = some l → ∃ cur t, w.heap[c]? = some (.cells cur t (0, 0)) ∧ cur.size = l

/-- The streams are as they were and no block has gone. -/
structure Same (w w' : World) : Prop where
  os : w'.os = w.os
  tape : w'.tape = w.tape
  output : w'.output = w.output
  size : w.heap.size ≤ w'.heap.size

theorem Same.refl (w : World) : Same w w := ⟨rfl, rfl, rfl, Nat.le_refl _⟩
theorem Same.trans {a b c : World} (h : Same a b) (k : Same b c) : Same a c := ⟨k.os.trans h.os, k.tape.trans h.tape, k.output.trans h.output, Nat.le_trans h.size k.size⟩

/-- What a run may have done to what was there: only the new blocks from number m on (below sz) may have been written. -/
structure Ext (x : Cx) (j : Inj) (sz m : Nat) (w : World) (j' : Inj) (sz' : Nat) (w' : World) : Prop where
  same : Same w w'
  sub : Sub j j'
  old : ∀ b, b < x.n + sz → j' b = j b
  dom : ∀ b p, j' b = some p → j b = some p ∨ (x.n + sz ≤ b ∧ b < x.n + sz')
  keep : ∀ c, c < w.heap.size → (∀ k s, m ≤ k → k < sz → j (x.n + k) ≠ some (c, s)) → w'.heap[c]? = w.heap[c]?
  fresh : ∀ k c s, sz ≤ k → k < sz' → j' (x.n + k) = some (c, s) → w.heap.size ≤ c ∨ ∃ k0 s0, m ≤ k0 ∧ k0 < sz ∧ j (x.n + k0) = some (c, s0)

theorem Ext.refl (x : Cx) (j : Inj) (sz m : Nat) (w : World) : Ext x j sz m w j sz w :=
  ⟨Same.refl w, Sub.refl j, fun _ _ => rfl, fun _ _ h => .inl h, fun _ _ _ => rfl, fun _ _ _ h1 h2 => absurd h2 (by omega)⟩

/-- A world of the same heap. -/
theorem Ext.draw (x : Cx) (j : Inj) (sz m : Nat) {w w' : World} (h : Same w w') (hh : w'.heap = w.heap) : Ext x j sz m w j sz w' :=
  ⟨h, Sub.refl j, fun _ _ => rfl, fun _ _ h => .inl h, fun _ _ _ => by rw [hh], fun _ _ _ h1 h2 => absurd h2 (by omega)⟩

theorem Ext.mono {x : Cx} {j j' : Inj} {sz m m' sz' : Nat} {w w' : World} (h : Ext x j sz m w j' sz' w') (hm : m' ≤ m) : Ext x j sz m' w j' sz' w' :=
  ⟨h.same, h.sub, h.old, h.dom, fun c hc hk => h.keep c hc fun k s h1 h2 => hk k s (by omega) h2,
   fun k c s h1 h2 h3 => (h.fresh k c s h1 h2 h3).imp id fun ⟨k0, s0, a, b, c⟩ => ⟨k0, s0, by omega, b, c⟩⟩

theorem Ext.trans {x : Cx} {j j1 j2 : Inj} {sz sz1 sz2 m1 m2 : Nat} {w w1 w2 : World} (hs : sz ≤ sz1) (hs1 : sz1 ≤ sz2) (h : Ext x j sz m1 w j1 sz1 w1) (k : Ext x j1 sz1 m2 w1 j2 sz2 w2) :
    Ext x j sz (Nat.min m1 m2) w j2 sz2 w2 := by
  have hmin1 : Nat.min m1 m2 ≤ m1 := Nat.min_le_left _ _
  have hmin2 : Nat.min m1 m2 ≤ m2 := Nat.min_le_right _ _
  refine ⟨h.same.trans k.same, h.sub.trans k.sub, fun b hb => (k.old b (by omega)).trans (h.old b hb), fun b p hb => ?_, fun c hc hk => ?_, fun i c s h1 h2 h3 => ?_⟩
  · rcases k.dom b p hb with hb | ⟨h1, h2⟩
    · rcases h.dom b p hb with hb | ⟨h1, h2⟩
      · exact .inl hb
      · exact .inr ⟨h1, by omega⟩
    · exact .inr ⟨by omega, h2⟩
  · have e1 := h.keep c hc fun i s h1 h2 => hk i s (by omega) h2
    refine (k.keep c (Nat.lt_of_lt_of_le hc h.same.size) fun i s h1 h2 h3 => ?_).trans e1
    rcases Nat.lt_or_ge i sz with hi | hi
    · rw [h.old _ (by omega)] at h3
      exact hk i s (by omega) hi h3
    · rcases h.fresh i c s hi h2 h3 with h4 | ⟨k0, s0, h5, h6, h7⟩
      · omega
      · exact hk k0 s0 (by omega) h6 h7
  · rcases Nat.lt_or_ge i sz1 with hi | hi
    · have h3' : j1 (x.n + i) = some (c, s) := by rw [← k.old _ (by omega)]; exact h3
      rcases h.fresh i c s h1 hi h3' with h4 | ⟨k0, s0, h5, h6, h7⟩
      · exact .inl h4
      · exact .inr ⟨k0, s0, by omega, h6, h7⟩
    · rcases k.fresh i c s hi h2 h3 with h4 | ⟨k0, s0, h5, h6, h7⟩
      · exact .inl (Nat.le_trans h.same.size h4)
      · rcases Nat.lt_or_ge k0 sz with hk | hk
        · rw [h.old _ (by omega)] at h7
          exact .inr ⟨k0, s0, by omega, hk, h7⟩
        · rcases h.fresh k0 c s0 hk h6 h7 with h4 | ⟨k1, s1, h8, h9, h10⟩
          · exact .inl h4
          · exact .inr ⟨k1, s1, by omega, h9, h10⟩

theorem cell_of {w : World} {c i : Nat} {cur : Array Value} {t : TypeId} {fr : Nat × Nat} {v : Value} (h : w.heap[c]? = some (.cells cur t fr)) (hv : cur[i]? = some v) : w.cell? ⟨c, i, none⟩ = some v := by
  simp [World.cell?, h, hv]

theorem cell_heap {w w' : World} {a : Addr} (h : w'.heap[a.block]? = w.heap[a.block]?) : w'.cell? a = w.cell? a := by simp [World.cell?, h]

/-- A draw changes nothing. -/
theorem Rel.heap {x : Cx} {j : Inj} {B : Nat → Option AO} {w w' : World} (r : Rel x j B w) (h : w'.heap = w.heap) : Rel x j B w' :=
  ⟨r.glob, fun b i v hb hv => by
      obtain ⟨c, s, v', h1, h2, h3⟩ := r.base b i v hb hv
      exact ⟨c, s, v', h1, by rw [cell_heap (w := w) (by rw [h])]; exact h2, h3⟩,
   r.blow, fun k c s cs h1 h2 => by rw [h]; exact r.cells k c s cs h1 h2, r.excl, fun k c s h1 => by rw [h]; exact r.low k c s h1, by rw [h]; exact r.room, fun c l h1 => by rw [h]; exact r.lens c l h1⟩

def Inj.put (j : Inj) (b : Nat) (p : Nat × Nat) : Inj := ⟨fun i => if i = b then some p else j i, j.len⟩
def Inj.setLen (j : Inj) (c l : Nat) : Inj := ⟨j.m, fun i => if i = c then some l else j.len i⟩
def Bput (B : Nat → Option AO) (k : Nat) (o : AO) : Nat → Option AO := fun i => if i = k then some o else B i

theorem Inj.sub_put {j : Inj} {b : Nat} (p : Nat × Nat) (h : j b = none) : Sub j (j.put b p) := ⟨fun i q hq => by
  unfold Inj.put
  simp only
  split
  · rename_i e; subst e; rw [h] at hq; cases hq
  · exact hq, fun _ _ h => h⟩

theorem Inj.sub_setLen {j : Inj} {c l : Nat} (h : j.len c = none) : Sub j (j.setLen c l) := ⟨fun _ _ h => h, fun i q hq => by
  unfold Inj.setLen
  simp only
  split
  · rename_i e; subst e; rw [h] at hq; cases hq
  · exact hq⟩

/-- The machine's block's length is told. -/
theorem Rel.setLen {x : Cx} {j : Inj} {B : Nat → Option AO} {w : World} (r : Rel x j B w) {c l : Nat} (h : j.len c = none) {cur : Array Value} {t : TypeId} (hw : w.heap[c]? = some (.cells cur t (0, 0))) (hl : cur.size = l) : Rel x (j.setLen c l) B w := by
  have hs := Inj.sub_setLen (l := l) h
  refine ⟨r.glob, fun b i v hb hv => ?_, r.blow, fun k c s cs h1 h2 => ?_, r.excl, r.low, r.room, fun c' l' h1 => ?_⟩
  · obtain ⟨c, s, v', h1, h2, h3⟩ := r.base b i v hb hv
    exact ⟨c, s, v', h1, h2, h3.mono hs⟩
  · obtain ⟨cur, t, h3, h4⟩ := r.cells k c s cs h1 h2
    refine ⟨cur, t, h3, fun i v hv => ?_⟩
    obtain ⟨v', h5, h6⟩ := h4 i v hv
    exact ⟨v', h5, h6.mono hs⟩
  · simp only [Inj.setLen] at h1
    split at h1
    · rename_i e
      subst e
      injection h1 with h1
      exact ⟨cur, t, hw, by rw [hl, h1]⟩
    · exact r.lens c' l' h1

theorem Ext.setLen {x : Cx} {j j' : Inj} {sz m sz' : Nat} {w w' : World} (e : Ext x j sz m w j' sz' w') {c l : Nat} (h : j'.len c = none) : Ext x j sz m w (j'.setLen c l) sz' w' :=
  ⟨e.same, e.sub.trans (Inj.sub_setLen h), e.old, e.dom, e.keep, e.fresh⟩

theorem Rel.len_lt {x : Cx} {j : Inj} {B : Nat → Option AO} {w : World} (r : Rel x j B w) {c l : Nat} (h : j.len c = some l) : c < w.heap.size := by
  obtain ⟨cur, t, h1, _⟩ := r.lens c l h
  exact (Array.getElem?_eq_some_iff.1 h1).1

/-- A new block of the machine for a new block of the evaluator. -/
theorem Rel.alloc {x : Cx} {j : Inj} {B : Nat → Option AO} {w w' : World} (r : Rel x j B w) {k : Nat} (hk : j (x.n + k) = none) {cur : Array Value} {t : TypeId} (hw : w'.heap = w.heap.push (.cells cur t (0, 0)))
    {cs : List Value} (hc : ∀ (i : Nat) (v : Value), cs[i]? = some v → ∃ v', cur[i]? = some v' ∧ SR j v v') (hng : x.ng ≤ x.n) :
    Rel x (j.put (x.n + k) (w.heap.size, 0)) (Bput B k (.cells cs)) w' := by
  have hsub := Inj.sub_put (j := j) (w.heap.size, 0) hk
  have hold : ∀ c, c < w.heap.size → w'.heap[c]? = w.heap[c]? := fun c hc => by rw [hw, Array.getElem?_push, if_neg (by omega)]
  have hne : ∀ i, i ≠ k → (j.put (x.n + k) (w.heap.size, 0)) (x.n + i) = j (x.n + i) := fun i hi => by simp [Inj.put, hi]
  refine ⟨fun g hg => ?_, fun b i v hb hv => ?_, fun b c s hb h => ?_, fun i c s l h1 h2 => ?_, fun k1 k2 c s1 s2 h1 h2 h3 => ?_, fun i c s h => ?_, ?_, fun c l h => ?_⟩
  · simp only [Inj.put]; rw [if_neg (by omega)]; exact r.glob g hg
  · obtain ⟨c, s, v', h1, h2, h3⟩ := r.base b i v hb hv
    refine ⟨c, s, v', hsub _ _ h1, ?_, h3.mono hsub⟩
    have hlt : c < w.heap.size := by
      have := r.blow b c s hb h1
      have := r.room
      omega
    rw [cell_heap (w := w) (hold c hlt)]
    exact h2
  · simp only [Inj.put] at h
    rw [if_neg (by omega)] at h
    exact r.blow b c s hb h
  · by_cases hi : i = k
    · subst hi
      simp [Inj.put] at h1
      obtain ⟨rfl, rfl⟩ := h1
      simp [Bput] at h2
      subst h2
      refine ⟨cur, t, by rw [hw]; simp, fun i v hv => ?_⟩
      obtain ⟨v', h3, h4⟩ := hc i v hv
      exact ⟨v', by simpa using h3, h4.mono hsub⟩
    · rw [hne i hi] at h1
      simp [Bput, hi] at h2
      obtain ⟨cur', t', h3, h4⟩ := r.cells i c s l h1 h2
      refine ⟨cur', t', by rw [hold c (r.low i c s h1).2]; exact h3, fun q v hv => ?_⟩
      obtain ⟨v', h5, h6⟩ := h4 q v hv
      exact ⟨v', h5, h6.mono hsub⟩
  · by_cases e1 : k1 = k
    · subst e1
      rw [hne k2 (Ne.symm h3)] at h2
      simp [Inj.put] at h1
      have := (r.low k2 c s2 h2).2
      omega
    · by_cases e2 : k2 = k
      · subst e2
        rw [hne k1 h3] at h1
        simp [Inj.put] at h2
        have := (r.low k1 c s1 h1).2
        omega
      · rw [hne k1 e1] at h1
        rw [hne k2 e2] at h2
        simp only [Bput, if_neg e1, if_neg e2]
        exact r.excl k1 k2 c s1 s2 h1 h2 h3
  · by_cases hi : i = k
    · subst hi
      simp [Inj.put] at h
      obtain ⟨rfl, rfl⟩ := h
      exact ⟨r.room, by rw [hw]; simp⟩
    · rw [hne i hi] at h
      have := r.low i c s h
      exact ⟨this.1, by rw [hw]; simp; omega⟩
  · rw [hw]; simp; have := r.room; omega
  · obtain ⟨cur', t', h1, h2⟩ := r.lens c l h
    exact ⟨cur', t', by rw [hold c (r.len_lt h)]; exact h1, h2⟩

theorem Ext.alloc {x : Cx} {j : Inj} {w w' : World} {sz : Nat} (m : Nat) (hk : j (x.n + sz) = none) {o : Obj} (hs : Same w w') (hw : w'.heap = w.heap.push o) :
    Ext x j sz m w (j.put (x.n + sz) (w.heap.size, 0)) (sz + 1) w' := by
  refine ⟨hs, Inj.sub_put _ hk, fun b hb => by simp only [Inj.put]; rw [if_neg (by omega)], fun b p hb => ?_, fun c hc _ => by rw [hw, Array.getElem?_push, if_neg (by omega)], fun k c s h1 h2 h3 => ?_⟩
  · simp only [Inj.put] at hb
    split at hb
    · rename_i e; subst e; exact .inr ⟨Nat.le_refl _, by omega⟩
    · exact .inl hb
  · obtain rfl : k = sz := by omega
    simp [Inj.put] at h3
    exact .inl (by omega)

theorem lens_write {w w' : World} {c c' l : Nat} (h : ∃ cur t, w.heap[c']? = some (.cells cur t (0, 0)) ∧ cur.size = l) {cur : Array Value} {t : TypeId} (hw : w'.heap[c]? = some (.cells cur t (0, 0)))
    (hrow : ∀ cur0 t0 f0, w.heap[c]? = some (.cells cur0 t0 f0) → cur.size = cur0.size) (hold : ∀ i, i ≠ c → w'.heap[i]? = w.heap[i]?) : ∃ cur t, w'.heap[c']? = some (.cells cur t (0, 0)) ∧ cur.size = l := by
  obtain ⟨cur0, t0, h1, h2⟩ := h
  by_cases e : c' = c
  · subst e
    exact ⟨cur, t, hw, by rw [hrow _ _ _ h1, h2]⟩
  · exact ⟨cur0, t0, by rw [hold c' e]; exact h1, h2⟩

/-- A block of the evaluator's is written: the machine's block, too. -/
theorem Rel.write {x : Cx} {j : Inj} {B : Nat → Option AO} {w w' : World} (r : Rel x j B w) {k c s : Nat} (hk : j (x.n + k) = some (c, s)) {cs0 : List Value} (hB : B k = some (.cells cs0))
    {cur : Array Value} {t : TypeId} (hw : w'.heap[c]? = some (.cells cur t (0, 0))) (hrow : ∀ cur0 t0 f0, w.heap[c]? = some (.cells cur0 t0 f0) → cur.size = cur0.size) (hold : ∀ i, i ≠ c → w'.heap[i]? = w.heap[i]?) (hsz : w'.heap.size = w.heap.size)
    {cs : List Value} (hc : ∀ (i : Nat) (v : Value), cs[i]? = some v → ∃ v', cur[i + s]? = some v' ∧ SR j v v') :
    Rel x j (Bput B k (.cells cs)) w' := by
  refine ⟨r.glob, fun b i v hb hv => ?_, r.blow, fun i c' s' l h1 h2 => ?_, fun k1 k2 c' s1 s2 h1 h2 h3 => ?_, fun i c' s' h => ?_, by rw [hsz]; exact r.room, fun c' l h => lens_write (r.lens c' l h) hw hrow hold⟩
  · obtain ⟨c', s', v', h1, h2, h3⟩ := r.base b i v hb hv
    refine ⟨c', s', v', h1, ?_, h3⟩
    have hlt : c' ≠ c := by
      have h4 := r.blow b c' s' hb h1
      have h5 := (r.low k c s hk).1
      omega
    rw [cell_heap (w := w) (hold c' hlt)]
    exact h2
  · by_cases hi : i = k
    · subst hi
      rw [hk] at h1
      injection h1 with h1
      injection h1 with h1 h1'
      subst h1 h1'
      simp [Bput] at h2
      subst h2
      exact ⟨cur, t, hw, hc⟩
    · simp [Bput, hi] at h2
      obtain ⟨cur', t', h3, h4⟩ := r.cells i c' s' l h1 h2
      refine ⟨cur', t', ?_, h4⟩
      rw [hold c' ?_]
      · exact h3
      · intro e
        subst e
        rcases r.excl i k c' s' s h1 hk hi with h5 | h5
        · rw [h5] at h2; cases h2
        · rw [h5] at hB; cases hB
  · rcases r.excl k1 k2 c' s1 s2 h1 h2 h3 with h4 | h4
    · refine .inl ?_
      simp only [Bput]
      split
      · rename_i e; subst e; rw [h4] at hB; cases hB
      · exact h4
    · refine .inr ?_
      simp only [Bput]
      split
      · rename_i e; subst e; rw [h4] at hB; cases hB
      · exact h4
  · rw [hsz]; exact r.low i c' s' h

theorem Ext.write {x : Cx} {j : Inj} {w w' : World} {sz m k c s : Nat} (hk : j (x.n + k) = some (c, s)) (hkm : m ≤ k) (hks : k < sz) (hs : Same w w') (hold : ∀ i, i ≠ c → w'.heap[i]? = w.heap[i]?) :
    Ext x j sz m w j sz w' :=
  ⟨hs, Sub.refl j, fun _ _ => rfl, fun _ _ h => .inl h, fun i _ hi => hold i fun e => by subst e; exact hi k s hkm hks hk, fun _ _ _ h1 h2 => absurd h2 (by omega)⟩

/-- A block goes: nothing is asked of it any more. -/
theorem Rel.kill {x : Cx} {j : Inj} {B : Nat → Option AO} {w : World} (r : Rel x j B w) (k : Nat) : Rel x j (Bput B k .dead) w := by
  refine ⟨r.glob, r.base, r.blow, fun i c s l h1 h2 => ?_, fun k1 k2 c s1 s2 h1 h2 h3 => ?_, r.low, r.room, r.lens⟩
  · by_cases hi : i = k
    · simp [Bput, hi] at h2
    · simp [Bput, hi] at h2; exact r.cells i c s l h1 h2
  · rcases r.excl k1 k2 c s1 s2 h1 h2 h3 with h4 | h4
    · refine .inl ?_
      simp only [Bput]
      split
      · rfl
      · exact h4
    · refine .inr ?_
      simp only [Bput]
      split
      · rfl
      · exact h4

/-- A new block of the evaluator for the machine's block of one that has gone. -/
theorem Rel.take {x : Cx} {j : Inj} {B : Nat → Option AO} {w w' : World} (r : Rel x j B w) {k k' c s s' : Nat} (hk : j (x.n + k) = some (c, s)) {cs0 : List Value} (hB : B k = some (.cells cs0)) (hk' : j (x.n + k') = none)
    {cur : Array Value} {t : TypeId} (hw : w'.heap[c]? = some (.cells cur t (0, 0))) (hrow : ∀ cur0 t0 f0, w.heap[c]? = some (.cells cur0 t0 f0) → cur.size = cur0.size) (hold : ∀ i, i ≠ c → w'.heap[i]? = w.heap[i]?) (hsz : w'.heap.size = w.heap.size)
    {cs : List Value} (hc : ∀ (i : Nat) (v : Value), cs[i]? = some v → ∃ v', cur[i + s']? = some v' ∧ SR j v v') (hng : x.ng ≤ x.n) :
    Rel x (j.put (x.n + k') (c, s')) (Bput (Bput B k .dead) k' (.cells cs)) w' := by
  have hsub := Inj.sub_put (j := j) (c, s') hk'
  have hkk : k ≠ k' := fun e => by rw [e, hk'] at hk; cases hk
  have hne : ∀ i, i ≠ k' → (j.put (x.n + k') (c, s')) (x.n + i) = j (x.n + i) := fun i hi => by simp [Inj.put, hi]
  have hlow := r.low k c s hk
  refine ⟨fun g hg => ?_, fun b i v hb hv => ?_, fun b c' s1 hb h => ?_, fun i c' s1 l h1 h2 => ?_, fun k1 k2 c' s1 s2 h1 h2 h3 => ?_, fun i c' s1 h => ?_, by rw [hsz]; exact r.room, fun c' l h => lens_write (r.lens c' l h) hw hrow hold⟩
  · simp only [Inj.put]; rw [if_neg (by omega)]; exact r.glob g hg
  · obtain ⟨c', s1, v', h1, h2, h3⟩ := r.base b i v hb hv
    refine ⟨c', s1, v', hsub _ _ h1, ?_, h3.mono hsub⟩
    have hlt : c' ≠ c := by
      have h4 := r.blow b c' s1 hb h1
      omega
    rw [cell_heap (w := w) (hold c' hlt)]
    exact h2
  · simp only [Inj.put] at h
    rw [if_neg (by omega)] at h
    exact r.blow b c' s1 hb h
  · by_cases hi : i = k'
    · subst hi
      simp [Inj.put] at h1
      obtain ⟨rfl, rfl⟩ := h1
      simp [Bput] at h2
      subst h2
      refine ⟨cur, t, hw, fun q v hv => ?_⟩
      obtain ⟨v', h5, h6⟩ := hc q v hv
      exact ⟨v', h5, h6.mono hsub⟩
    · rw [hne i hi] at h1
      simp only [Bput, if_neg hi] at h2
      by_cases hik : i = k
      · simp [hik] at h2
      · rw [if_neg hik] at h2
        obtain ⟨cur', t', h3, h4⟩ := r.cells i c' s1 l h1 h2
        refine ⟨cur', t', ?_, fun q v hv => ?_⟩
        · rw [hold c' ?_]
          · exact h3
          · intro e
            subst e
            rcases r.excl i k c' s1 s h1 hk hik with h5 | h5
            · rw [h5] at h2; cases h2
            · rw [h5] at hB; cases hB
        · obtain ⟨v', h5, h6⟩ := h4 q v hv
          exact ⟨v', h5, h6.mono hsub⟩
  · have deadk : (Bput (Bput B k .dead) k' (.cells cs)) k = some .dead := by simp [Bput, hkk]
    have one : ∀ i si, i ≠ k' → j (x.n + i) = some (c, si) → (Bput (Bput B k .dead) k' (.cells cs)) i = some .dead := fun i si hi h => by
      by_cases hik : i = k
      · rw [hik]; exact deadk
      · rcases r.excl i k c si s h hk hik with h5 | h5
        · simp [Bput, hi, hik, h5]
        · rw [h5] at hB; cases hB
    by_cases e1 : k1 = k'
    · subst e1
      rw [hne k2 (Ne.symm h3)] at h2
      simp [Inj.put] at h1
      obtain ⟨rfl, rfl⟩ := h1
      exact .inr (one k2 s2 (Ne.symm h3) h2)
    · by_cases e2 : k2 = k'
      · subst e2
        rw [hne k1 h3] at h1
        simp [Inj.put] at h2
        obtain ⟨rfl, rfl⟩ := h2
        exact .inl (one k1 s1 h3 h1)
      · rw [hne k1 e1] at h1
        rw [hne k2 e2] at h2
        simp only [Bput, if_neg e1, if_neg e2]
        rcases r.excl k1 k2 c' s1 s2 h1 h2 h3 with h4 | h4
        · refine .inl ?_
          split
          · rfl
          · exact h4
        · refine .inr ?_
          split
          · rfl
          · exact h4
  · by_cases hi : i = k'
    · subst hi
      simp [Inj.put] at h
      obtain ⟨rfl, rfl⟩ := h
      exact ⟨hlow.1, by rw [hsz]; exact hlow.2⟩
    · rw [hne i hi] at h
      rw [hsz]
      exact r.low i c' s1 h

theorem Ext.take {x : Cx} {j : Inj} {w w' : World} {sz m k c s s' : Nat} (hk : j (x.n + k) = some (c, s)) (hkm : m ≤ k) (hks : k < sz) (hk' : j (x.n + sz) = none) (hs : Same w w') (hold : ∀ i, i ≠ c → w'.heap[i]? = w.heap[i]?) :
    Ext x j sz m w (j.put (x.n + sz) (c, s')) (sz + 1) w' := by
  refine ⟨hs, Inj.sub_put _ hk', fun b hb => by simp only [Inj.put]; rw [if_neg (by omega)], fun b p hb => ?_, fun i _ hi => hold i fun e => by subst e; exact hi k s hkm hks hk, fun i c' s1 h1 h2 h3 => ?_⟩
  · simp only [Inj.put] at hb
    split at hb
    · rename_i e; subst e; exact .inr ⟨Nat.le_refl _, by omega⟩
    · exact .inl hb
  · obtain rfl : i = sz := by omega
    simp [Inj.put] at h3
    obtain ⟨rfl, rfl⟩ := h3
    exact .inr ⟨k, s, hkm, hks, hk⟩

end Go.Vae

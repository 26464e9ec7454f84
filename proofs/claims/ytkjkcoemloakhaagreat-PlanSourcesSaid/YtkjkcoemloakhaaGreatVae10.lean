/- What a step of the evaluator touches; the heaps of a run. -/
import Derived.Test.YtkjkcoemloakhaaGreatVae9
set_option linter.unusedVariables false
set_option linter.unusedSimpArgs false
namespace Go.Vae
open Go Go.RowKit

/-! ### an operation reads and writes blocks that are there -/
def AccOK (h : AH) : Option AR → Prop
  | some (.val _ e rd) => (∀ k, k ∈ rd → (h.blk k).isSome = true) ∧ ∀ k, k ∈ e.wr → (h.blk k).isSome = true
  | some (.go _ _) => False
  | none => True

theorem AccOK.none' {h : AH} : AccOK h none := trivial
theorem AccOK.cond {h : AH} {c : Bool} {a b : Option AR} (ha : c = true → AccOK h a) (hb : c = false → AccOK h b) : AccOK h (bif c then a else b) := by
  cases c
  · exact hb rfl
  · exact ha rfl
theorem AccOK.ok {h : AH} {v : Value} : AccOK h (ok v) := ⟨fun _ hk => by simp at hk, fun _ hk => by simp [Eff.wr] at hk⟩
theorem AccOK.okO {h : AH} {v : Option Value} : AccOK h (okO v) := by
  cases v
  · exact trivial
  · exact AccOK.ok
theorem AccOK.new {h : AH} {v : Value} {cs : List Value} : AccOK h (some (.val v (.new cs) [])) := ⟨fun _ hk => by simp at hk, fun _ hk => by simp [Eff.wr] at hk⟩

theorem rdOf_mem {h : AH} {b k : Nat} (hk : k ∈ rdOf h b) : k = b - h.n ∧ Nat.blt b h.n = false := by
  unfold rdOf at hk
  cases hq : Nat.blt b h.n <;> rw [hq] at hk <;> simp at hk
  exact ⟨hk, rfl⟩

theorem cut_acc {h : AH} {b off n : Nat} {cs : List Value} (hc : h.cut b off n = some cs) : ∀ k, k ∈ rdOf h b → (h.blk k).isSome = true := by
  intro k hk
  obtain ⟨rfl, hq⟩ := rdOf_mem hk
  unfold AH.cut at hc
  rw [hq] at hc
  simp only [cond] at hc
  split at hc
  · rename_i l hl; rw [hl]; rfl
  · cases hc

theorem cell_acc {h : AH} {b off : Nat} {v : Value} (hc : h.cell b off = some v) : ∀ k, k ∈ rdOf h b → (h.blk k).isSome = true := by
  intro k hk
  obtain ⟨rfl, hq⟩ := rdOf_mem hk
  unfold AH.cell at hc
  rw [hq] at hc
  simp only [cond] at hc
  split at hc
  · rename_i l hl; rw [hl]; rfl
  · cases hc

theorem loadT_acc {T : Tabs} {h : AH} {t : TypeId} {b off : Nat} {v : Value} (hc : loadT T h t b off = some v) : ∀ k, k ∈ rdOf h b → (h.blk k).isSome = true := by
  unfold loadT at hc
  split at hc
  · rename_i ti hti
    cases ha : ti.agg with
    | true =>
      rw [ha] at hc
      simp only [cond, Option.map_eq_some_iff] at hc
      obtain ⟨cs, h1, _⟩ := hc
      exact cut_acc h1
    | false =>
      rw [ha] at hc
      exact cell_acc hc
  · cases hc

theorem srcCells_acc {h : AH} {size n : Nat} {x : Value} {cs : List Value} {rd : List Nat} (hs : srcCells h size x n = some (cs, rd)) : ∀ k, k ∈ rd → (h.blk k).isSome = true := by
  unfold srcCells at hs
  split at hs
  · split at hs
    · rename_i hc
      injection hs with hs; injection hs with _ hs; subst hs
      exact cut_acc hc
    · cases hs
  · cases hq : Nat.beq n 0 <;> rw [hq] at hs
    · cases hs
    · injection hs with hs; injection hs with _ hs; subst hs; simp
  · rename_i s
    cases hq : (Nat.ble n s.data.toList.length && Nat.beq size 1) <;> rw [hq] at hs
    · cases hs
    · injection hs with hs; injection hs with _ hs; subst hs; simp
  · cases hs

theorem aappendTo_acc {h : AH} {ei : TI} {base : Option Addr} {sLen sCap n : Nat} {news : List Value} {rd : List Nat} (hrd : ∀ k, k ∈ rd → (h.blk k).isSome = true) : AccOK h (aappendTo h ei base sLen sCap n news rd) := by
  unfold aappendTo
  refine AccOK.cond (fun _ => AccOK.cond (fun _ => ⟨hrd, by simp [Eff.wr]⟩) fun _ => trivial) fun _ => AccOK.cond (fun _ => ?_) fun _ => AccOK.cond (fun _ => ?_) fun _ => ?_
  · split
    · refine AccOK.cond (fun _ => trivial) fun hq => ?_
      split
      · rename_i old hc
        refine AccOK.cond (fun _ => ⟨hrd, fun k hk => ?_⟩) fun _ => trivial
        simp only [Eff.wr, List.mem_singleton] at hk
        subst hk
        exact cut_acc hc _ (by unfold rdOf; rw [hq]; simp)
      · trivial
    · trivial
  · split
    · refine AccOK.cond (fun _ => trivial) fun hq => ?_
      split
      · rename_i cs hc
        split
        · refine ⟨hrd, fun k hk => ?_⟩
          simp only [Eff.wr, List.mem_singleton] at hk
          subst hk
          rw [hc]; rfl
        · trivial
      · trivial
    · trivial
  · split
    · rename_i old rd' hs
      refine AccOK.cond (fun _ => ⟨fun k hk => ?_, by simp [Eff.wr]⟩) fun _ => trivial
      rcases List.mem_append.1 hk with hk | hk
      · exact srcCells_acc hs k hk
      · exact hrd k hk
    · trivial

theorem aputs_acc {h : AH} {base : Option Addr} {cs : List Value} {v : Value} {rd : List Nat} (hrd : ∀ k, k ∈ rd → (h.blk k).isSome = true) : AccOK h (aputs h base cs v rd) := by
  unfold aputs
  split
  · exact ⟨hrd, by simp [Eff.wr]⟩
  · split
    · refine AccOK.cond (fun _ => trivial) fun hq => ?_
      split
      · rename_i hc
        split
        · refine ⟨hrd, fun k hk => ?_⟩
          simp only [Eff.wr, List.mem_singleton] at hk
          subst hk
          rw [hc]; rfl
        · trivial
      · trivial
    · trivial

theorem aop_acc' {T : Tabs} {h : AH} {ρ : Operand → Value} {o : Oper} (hv : ∀ c f, o.op = .call c → c.callee = .value f → False) : AccOK h (aop T h ρ o) := by
  obtain ⟨dst, op, ty, pos, after, guard⟩ := o
  cases op
  case pick c p q =>
    simp only [aop]
    split
    · exact AccOK.ok
    · trivial
  case alloc t =>
    simp only [aop]
    split
    · exact AccOK.new
    · trivial
  case box t y =>
    simp only [aop]
    split
    · exact AccOK.new
    · trivial
  case build t ps =>
    simp only [aop, abuild]
    repeat' split
    all_goals first | exact AccOK.okO | trivial
  case buildSlice t len ps =>
    simp only [aop, abuildSlice]
    split
    · split
      · split
        · refine AccOK.cond (fun _ => ?_) fun _ => trivial
          split
          · exact AccOK.new
          · trivial
        · trivial
      · trivial
    · trivial
  case load t y =>
    simp only [aop, aload]
    split
    · split
      · rename_i hv
        exact ⟨loadT_acc hv, by simp [Eff.wr]⟩
      · trivial
    · trivial
  case store t y z =>
    simp only [aop, astore]
    split
    · refine AccOK.cond (fun _ => trivial) fun _ => ?_
      split
      · rename_i hc
        refine AccOK.cond (fun _ => ?_) fun _ => trivial
        split
        · refine ⟨by simp, fun k hk => ?_⟩
          simp only [Eff.wr, List.mem_singleton] at hk
          subst hk
          rw [hc]; rfl
        · trivial
      · trivial
    · trivial
  case nilCheck y =>
    simp only [aop, anil]
    split <;> first | exact AccOK.ok | trivial
  case convert s d y =>
    simp only [aop, aconvert]
    repeat' split
    all_goals first | exact AccOK.ok | trivial
  case makeFunc fn first caps =>
    simp only [aop, afunc]
    refine AccOK.cond (fun _ => ?_) fun _ => trivial
    split
    · exact AccOK.cond (fun _ => AccOK.ok) fun _ => trivial
    · trivial
  case makeSlice t l c =>
    simp only [aop, amake]
    split
    · split
      · split
        · exact AccOK.cond (fun _ => AccOK.new) fun _ => trivial
        · trivial
      · trivial
    · trivial
  case slice t y lo hi mx =>
    simp only [aop, aslice]
    split
    · split
      · split
        · exact AccOK.cond (fun _ => AccOK.ok) fun _ => trivial
        · trivial
      · trivial
    · split
      · split
        · refine AccOK.cond (fun _ => ?_) fun _ => ?_
          · split
            · exact AccOK.cond (fun _ => AccOK.ok) fun _ => trivial
            · split
              · exact AccOK.cond (fun _ => AccOK.ok) fun _ => trivial
              · trivial
            · trivial
          · split
            · refine AccOK.cond (fun _ => ?_) fun _ => trivial
              split <;> first | exact AccOK.ok | trivial
            · trivial
        · trivial
      · trivial
    · trivial
  case fieldAddr s y f =>
    simp only [aop, afieldAddr]
    split
    · split
      · split
        · split
          · exact AccOK.cond (fun _ => AccOK.ok) fun _ => trivial
          · trivial
        · trivial
      · trivial
    · trivial
  case field s y f =>
    simp only [aop, afield]
    repeat' split
    all_goals first | exact AccOK.okO | trivial
  case indexAddr t y i =>
    simp only [aop, aindexAddr]
    split
    · split
      · split
        · exact AccOK.cond (fun _ => AccOK.ok) fun _ => trivial
        · trivial
      · trivial
    · split
      · split
        · exact AccOK.cond (fun _ => AccOK.ok) fun _ => trivial
        · trivial
      · trivial
    · trivial
  case index t y i =>
    simp only [aop, aindex]
    split
    · split
      · refine AccOK.cond (fun _ => ?_) fun _ => trivial
        split <;> first | exact AccOK.ok | trivial
      · trivial
    · split
      · split
        · exact AccOK.cond (fun _ => AccOK.okO) fun _ => trivial
        · trivial
      · trivial
    · trivial
  case extract y i =>
    simp only [aop, aextract]
    split <;> first | exact AccOK.okO | trivial
  case call c =>
    simp only [aop, acall]
    split
    · unfold abuiltin
      split
      · unfold alen
        repeat' split
        all_goals first | exact AccOK.ok | trivial
      · unfold acap
        repeat' split
        all_goals first | exact AccOK.cond (fun _ => trivial) (fun _ => AccOK.ok) | trivial
      · unfold aappend
        split
        · split
          · split
            · refine AccOK.cond (fun _ => AccOK.cond (fun _ => ?_) fun _ => AccOK.cond (fun _ => ?_) fun _ => trivial) fun _ => trivial
              · split
                · exact AccOK.cond (fun _ => aappendTo_acc (by simp)) fun _ => trivial
                · trivial
              · split
                · split
                  · rename_i hs
                    exact aappendTo_acc (srcCells_acc hs)
                  · trivial
                · trivial
            · trivial
          · trivial
        · trivial
      · unfold acopy
        split
        · split
          · split
            · split
              · rename_i hs
                exact aputs_acc (srcCells_acc hs)
              · trivial
            · trivial
          · trivial
        · trivial
      · unfold aclear
        split
        · split
          · split
            · exact aputs_acc (by simp)
            · trivial
          · trivial
        · trivial
      · exact AccOK.okO
      · exact AccOK.okO
      · trivial
    · rename_i f hcal
      exact (hv c f rfl hcal).elim
    · trivial
  all_goals simp only [aop]
  all_goals first | exact AccOK.ok | exact AccOK.okO | trivial

theorem aop_go {T : Tabs} {h : AH} {ρ : Operand → Value} {o : Oper} {f : FuncId} {args : List Value} (hop : aop T h ρ o = some (.go f args)) : ∃ c fo, o.op = .call c ∧ c.callee = .value fo := by
  refine Classical.byContradiction fun hn => ?_
  have := aop_acc' (T := T) (h := h) (ρ := ρ) (o := o) fun c fo h1 h2 => hn ⟨c, fo, h1, h2⟩
  rw [hop] at this
  exact this

theorem aop_acc {T : Tabs} {h : AH} {ρ : Operand → Value} {o : Oper} {v : Value} {e : Eff} {rd : List Nat} (hop : aop T h ρ o = some (.val v e rd)) : (∀ k, k ∈ rd → (h.blk k).isSome = true) ∧ ∀ k, k ∈ e.wr → (h.blk k).isSome = true := by
  by_cases hv : ∃ c fo, o.op = .call c ∧ c.callee = .value fo
  · obtain ⟨c, fo, h1, h2⟩ := hv
    obtain ⟨dst, op, ty, pos, after, guard⟩ := o
    have h1 : op = .call c := h1
    subst h1
    simp only [aop, acall, h2] at hop
    split at hop <;> cases hop
  · have := aop_acc' (T := T) (h := h) (ρ := ρ) (o := o) fun c fo h1 h2 => hv ⟨c, fo, h1, h2⟩
    rw [hop] at this
    exact this

/-! ### heaps -/
theorem app_blk {h : AH} (hwf : h.wf) {e : Eff} (hw : ∀ k, k ∈ e.wr → (h.blk k).isSome = true) : ∀ k, (h.app e).blk k = Bapp h.blk h.sz e k := by
  have lt : ∀ k, k ∈ e.wr → k < h.sz := fun k hk => by
    obtain ⟨o, ho⟩ := Option.isSome_iff_exists.1 (hw k hk)
    exact AH.wf_lt hwf ho
  intro k
  cases e with
  | nil => rfl
  | new cs =>
    simp only [AH.app, AH.blk, Bapp, Bput]
    split
    · rename_i e; subst e; exact Tr.get_set_eq _ _ _
    · rename_i e; exact Tr.get_set_ne _ _ e
  | set k' cs =>
    have h1 := lt k' (by simp [Eff.wr])
    simp only [AH.app, AH.blk, Bapp, Bput]
    split
    · rename_i e; subst e; exact Tr.get_set_eq _ _ _
    · rename_i e; exact Tr.get_set_ne _ _ e
  | grow k' cs =>
    have h1 := lt k' (by simp [Eff.wr])
    simp only [AH.app, AH.blk, Bapp, Bput]
    split
    · rename_i e; subst e; exact Tr.get_set_eq _ _ _
    · rename_i e
      rw [Tr.get_set_ne _ _ e]
      split
      · rename_i e; subst e; exact Tr.get_set_eq _ _ _
      · rename_i e; exact Tr.get_set_ne _ _ e

theorem app_wf {h : AH} (hwf : h.wf) {e : Eff} (hw : ∀ k, k ∈ e.wr → (h.blk k).isSome = true) : (h.app e).wf := by
  intro k hk
  have lt : ∀ k, k ∈ e.wr → k < h.sz := fun k hk => by
    obtain ⟨o, ho⟩ := Option.isSome_iff_exists.1 (hw k hk)
    exact AH.wf_lt hwf ho
  rw [app_blk hwf hw]
  rw [AH.app_sz] at hk
  cases e with
  | nil => exact hwf k hk
  | new cs =>
    simp only [esz] at hk
    simp only [Bapp, Bput]
    rw [if_neg (by omega)]
    exact hwf k (by omega)
  | set k' cs =>
    have h1 := lt k' (by simp [Eff.wr])
    simp only [esz] at hk
    simp only [Bapp, Bput]
    rw [if_neg (by omega)]
    exact hwf k hk
  | grow k' cs =>
    have h1 := lt k' (by simp [Eff.wr])
    simp only [esz] at hk
    simp only [Bapp, Bput]
    rw [if_neg (by omega), if_neg (by omega)]
    exact hwf k (by omega)

/-- What a run does to the heap. -/
structure Grow (h : AH) (low : Nat) (h' : AH) : Prop where
  wf : h'.wf
  le : h.sz ≤ h'.sz
  ng : h'.ng = h.ng
  n : h'.n = h.n
  ro : h'.ro = h.ro
  frame : ∀ k, k < h.sz → k < low → h'.blk k = h.blk k

theorem Grow.refl {h : AH} (hw : h.wf) (low : Nat) : Grow h low h := ⟨hw, Nat.le_refl _, rfl, rfl, rfl, fun _ _ _ => rfl⟩

theorem Grow.mono {h h' : AH} {l l' : Nat} (g : Grow h l h') (hl : l' ≤ l) : Grow h l' h' := ⟨g.wf, g.le, g.ng, g.n, g.ro, fun k h1 h2 => g.frame k h1 (by omega)⟩

theorem Grow.trans {a b c : AH} {l l' : Nat} (g : Grow a l b) (g' : Grow b l' c) : Grow a (Nat.min l l') c :=
  ⟨g'.wf, Nat.le_trans g.le g'.le, g'.ng.trans g.ng, g'.n.trans g.n, g'.ro.trans g.ro, fun k h1 h2 => by
    have h3 : k < l := Nat.lt_of_lt_of_le h2 (Nat.min_le_left _ _)
    have h4 : k < l' := Nat.lt_of_lt_of_le h2 (Nat.min_le_right _ _)
    rw [g'.frame k (Nat.lt_of_lt_of_le h1 g.le) h4, g.frame k h1 h3]⟩

theorem Grow.of {h h' : AH} {l : Nat} (g : Grow h l h') {x : Cx} (hx : h.of x) : h'.of x := ⟨g.ng.trans hx.1, g.n.trans hx.2.1, g.ro.trans hx.2.2⟩

theorem esz_le (sz : Nat) (e : Eff) : sz ≤ esz sz e := by cases e <;> simp [esz]

theorem Grow.app {h : AH} (hwf : h.wf) {e : Eff} (hw : ∀ k, k ∈ e.wr → (h.blk k).isSome = true) (d : Nat) : Grow h (e.lowD d) (h.app e) := by
  refine ⟨app_wf hwf hw, by rw [AH.app_sz]; exact esz_le _ _, by cases e <;> rfl, by cases e <;> rfl, by cases e <;> rfl, fun k h1 h2 => ?_⟩
  rw [app_blk hwf hw]
  cases e with
  | nil => rfl
  | new cs => simp only [Bapp, Bput]; rw [if_neg (by omega)]
  | set k' cs => simp only [Eff.lowD] at h2; simp only [Bapp, Bput]; rw [if_neg (by omega)]
  | grow k' cs => simp only [Eff.lowD] at h2; simp only [Bapp, Bput]; rw [if_neg (by omega), if_neg (by omega)]

end Go.Vae

/- A run of the evaluator over the caller's memory: the machine's call answers the same, and what was there stays. -/
import Derived.Test.YtkjkcoemloakhaaGreatVae17
set_option linter.unusedVariables false
set_option linter.unusedSimpArgs false
namespace Go.Vae
open Go Go.RowKit

variable {P : Program} {T : Tabs}

/-- What stands in the evaluator for a cell of the machine's memory, if it holds no address from block n on; all slices without room are one. -/
def canC (n : Nat) : Value → Option Value
  | .bool b => some (.bool b)
  | .int k i => some (.int k i)
  | .string s => some (.string s)
  | .pointer none => some (.pointer none)
  | .nilFunc => some .nilFunc
  | .nilIface => some .nilIface
  | .map none => some (.map none)
  | .pointer (some ⟨b, o, none⟩) => bif Nat.blt b n then some (.pointer (some ⟨b, o, none⟩)) else none
  | .slice a l c => bif Nat.beq l 0 && Nat.beq c 0 then some (.slice none 0 0) else bif Nat.blt c unk then
      match a with
      | none => some (.slice none l c)
      | some ⟨b, o, none⟩ => bif Nat.blt b n then some (.slice (some ⟨b, o, none⟩) l c) else none
      | _ => none
    else none
  | _ => none

def can (n : Nat) (v : Value) : Value := (canC n v).getD undef

def okC (n : Nat) (v : Value) : Bool := (canC n v).isSome

def okA (n : Nat) : Value → Bool
  | .agg cs => cs.toList.all (okC n)
  | v => okC n v

def canA (n : Nat) : Value → Value
  | .agg cs => mkAgg (cs.toList.map (can n))
  | v => can n v

def baseRo (W : World) (b off : Nat) : Option Value :=
  match W.cell? ⟨b, off, none⟩ with
  | some v => canC W.heap.size v
  | none => none

def AH.base (W : World) (ng : Nat) : AH := ⟨ng, W.heap.size, baseRo W, 0, .e⟩

def Inj.id (n : Nat) : Inj := ⟨fun b => if b < n then some (b, 0) else none, fun _ => none⟩

theorem canC_sr {n : Nat} {v u : Value} (h : canC n v = some u) : SR (Inj.id n) u v := by
  unfold canC at h
  split at h
  · injection h with h; subst h; constructor
  · injection h with h; subst h; constructor
  · injection h with h; subst h; constructor
  · injection h with h; subst h; constructor
  · injection h with h; subst h; constructor
  · injection h with h; subst h; constructor
  · injection h with h; subst h; constructor
  · rename_i b o
    cases hb : Nat.blt b n with
    | false => rw [hb] at h; cases h
    | true =>
      rw [hb] at h
      injection h with h
      subst h
      exact .ptr ⟨rfl, rfl, b, 0, by simp [Inj.id, blt_true hb], rfl, rfl⟩
  · rename_i a l c
    cases h0 : (Nat.beq l 0 && Nat.beq c 0) with
    | true =>
      rw [h0] at h
      injection h with h
      subst h
      simp only [Bool.and_eq_true, Nat.beq_eq] at h0
      obtain ⟨rfl, rfl⟩ := h0
      exact .nilslice a 0 0 unk_pos (.inr ⟨rfl, rfl⟩)
    | false =>
      rw [h0] at h
      cases hc : Nat.blt c unk with
      | false => rw [hc] at h; cases h
      | true =>
        rw [hc] at h
        simp only [cond] at h
        split at h
        · injection h with h
          subst h
          exact .nilslice none l c (blt_true hc) (.inl rfl)
        · rename_i b o
          cases hb : Nat.blt b n with
          | false => rw [hb] at h; cases h
          | true =>
            rw [hb] at h
            injection h with h
            subst h
            exact .slice ⟨rfl, rfl, b, 0, by simp [Inj.id, blt_true hb], rfl, rfl⟩ (.inl ⟨rfl, blt_true hc⟩)
        · cases h
  · cases h

theorem okC_can {n : Nat} {v : Value} (h : okC n v = true) : canC n v = some (can n v) := by
  unfold okC at h
  obtain ⟨u, hu⟩ := Option.isSome_iff_exists.1 h
  simp [can, hu]

theorem okA_vr {n : Nat} {v : Value} (h : okA n v = true) : VR (Inj.id n) (canA n v) v := by
  unfold okA at h
  split at h
  · rename_i cs
    refine .ofA (.agg (All2.of (by simp) fun i x y hx hy => ?_))
    rw [List.getElem?_map] at hx
    have hy : cs.toList[i]? = some y := hy
    rw [hy] at hx
    injection hx with hx
    subst hx
    exact canC_sr (okC_can ((List.all_eq_true.1 h) y (List.mem_of_getElem? hy)))
  · rename_i hne
    have : canA n v = can n v := by
      unfold canA
      split
      · exact absurd rfl (hne _)
      · rfl
    rw [this]
    exact .of (canC_sr (okC_can h))

theorem base_rel (W : World) (ng : Nat) (hng : ng ≤ W.heap.size) (B : Nat → Option AO) : Rel ⟨ng, W.heap.size, baseRo W, W.heap.size⟩ (Inj.id W.heap.size) B W := by
  refine ⟨fun g hg => ?_, fun b i v hb hv => ?_, fun b c s hb h => ?_, fun k c s cs h1 h2 => ?_, fun k1 k2 c s1 s2 h1 h2 h3 => ?_, fun k c s h => ?_, Nat.le_refl _, fun c l h => by cases h⟩
  · have hg : g < ng := hg
    simp [Inj.id]
    omega
  · have hb : b < W.heap.size := hb
    have hv : baseRo W b i = some v := hv
    unfold baseRo at hv
    split at hv
    · rename_i u hu
      exact ⟨b, 0, u, by simp [Inj.id, hb], hu, canC_sr hv⟩
    · cases hv
  · have hb : b < W.heap.size := hb
    simp only [Inj.id] at h
    rw [if_pos hb] at h
    injection h with h
    injection h with h1 h2
    subst h1
    exact hb
  · simp [Inj.id] at h1; omega
  · simp [Inj.id] at h1; omega
  · simp [Inj.id] at h; omega

/-- The evaluator answers true: the machine's call returns true, and below the call's own blocks the world is as it was. -/
theorem run_top (ht : TabsOK P T) {W : World} {ng : Nat} (hng : ng ≤ W.heap.size) {f : FuncId} {args : List Value} (ha : args.all (okA W.heap.size) = true) (hr : Fp T f (args.map (canA W.heap.size)) (AH.base W ng) fun v _ _ => v = .bool true) :
    Calls P f ⟨args⟩ W fun e w' => e = .returned (.bool true) ∧ Below W.heap.size W w' := by
  obtain ⟨v, h', low, ⟨k, hk⟩, rfl⟩ := hr
  have hwf : (AH.base W ng).wf := fun k _ => Tr.get_e k
  obtain ⟨_, _, hc⟩ := runF_ok ht k f _ _ _ _ _ hk hwf
  refine Calls.mono (hc ⟨ng, W.heap.size, baseRo W, W.heap.size⟩ (Inj.id W.heap.size) (fun _ => none) W args ⟨rfl, rfl, rfl⟩ hng (base_rel W ng hng _) (fun b hb _ => absurd hb (Nat.not_lt_zero _)) (fun b _ _ => by simp [Inj.id]) (All2.of (by simp) fun i x y hx hy => by
    rw [List.getElem?_map, hy] at hx
    injection hx with hx
    subst hx
    exact okA_vr ((List.all_eq_true.1 ha) y (List.mem_of_getElem? hy)))) fun e w' he => ?_
  obtain ⟨v', j', rfl, h1, h2, h3⟩ := he
  have := h1.bool
  subst this
  exact ⟨rfl, h3.same.os, h3.same.tape, h3.same.output, h3.same.size, fun b hb => h3.keep b hb⟩

end Go.Vae

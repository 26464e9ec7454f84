/- A closed run that the kernel has carried out: the machine's call answers the same in every world, and leaves what was there as it was. -/
import Derived.Test.YtkjkcoemloakhaaGreatVae22
set_option linter.unusedVariables false
set_option linter.unusedSimpArgs false
namespace Go.Vae
open Go Go.RowKit

variable {P : Program} {T : Tabs}

def isTrue : Value → Bool
  | .bool b => b
  | _ => false

theorem isTrue_eq {v : Value} (h : isTrue v = true) : v = .bool true := by
  unfold isTrue at h
  split at h
  · subst h; rfl
  · cases h

theorem run_closed (ht : TabsOK P T) {n : Nat} {f : FuncId} (hk : true = runK T n f [] AH.empty fun v _ _ => isTrue v) : ∀ W, Calls P f ⟨[]⟩ W fun e w' => e = .returned (.bool true) ∧ Below W.heap.size W w' := by
  intro W
  obtain ⟨v, h', low, h1, h2⟩ := runK_ok (T := T) n f [] AH.empty _ hk.symm
  obtain rfl := isTrue_eq h2
  have hwf : AH.empty.wf := fun k _ => Tr.get_e k
  obtain ⟨_, _, hc⟩ := runF_ok ht n f [] AH.empty _ _ _ h1 hwf
  let j0 : Inj := ⟨fun _ => none, fun _ => none⟩
  have hr : Rel ⟨0, 0, fun _ _ => none, W.heap.size⟩ j0 (fun _ => none) W := by
    refine ⟨fun g hg => ?_, fun b i v hb _ => ?_, fun b c s hb _ => ?_, fun k c s cs h _ => ?_, fun k1 k2 c s1 s2 h _ _ => ?_, fun k c s h => ?_, Nat.le_refl _, fun c l h => ?_⟩
    · exact absurd hg (Nat.not_lt_zero _)
    · exact absurd hb (Nat.not_lt_zero _)
    · exact absurd hb (Nat.not_lt_zero _)
    · cases h
    · cases h
    · cases h
    · cases h
  refine Calls.mono (hc ⟨0, 0, fun _ _ => none, W.heap.size⟩ j0 (fun _ => none) W [] ⟨rfl, rfl, rfl⟩ (Nat.le_refl _) hr (fun b hb _ => absurd hb (Nat.not_lt_zero _)) (fun b _ _ => rfl) .nil) fun e w' he => ?_
  obtain ⟨v', j', rfl, h3, h4, h5⟩ := he
  have := h3.bool
  subst this
  exact ⟨rfl, h5.same.os, h5.same.tape, h5.same.output, h5.same.size, fun b hb => h5.keep b hb⟩

end Go.Vae

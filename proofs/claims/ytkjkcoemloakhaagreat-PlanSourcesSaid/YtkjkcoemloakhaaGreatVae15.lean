/- Runs of the evaluator with some fuel: the rules by which one is put together. -/
import Derived.Test.YtkjkcoemloakhaaGreatVae14
set_option linter.unusedVariables false
set_option linter.unusedSimpArgs false
namespace Go.Vae
open Go Go.RowKit

variable {T : Tabs}

/-! ### more fuel does no harm -/
def CLe (c c' : CallF) : Prop := ∀ f args h r, c f args h = some r → c' f args h = some r

theorem step1_mono {c c' : CallF} (h : CLe c c') {nt : Nat} {ops : List Oper} {o : Oper} {s : St} {r : St × Acc} (hr : step1 T c nt ops o s = some r) : step1 T c' nt ops o s = some r := by
  unfold step1 at hr ⊢
  split at hr
  · rename_i hw
    try rw [hw]
    try simp only
    split at hr
    · rename_i ha
      try rw [ha]
      exact hr
    · rename_i f args ha
      try rw [ha]
      try simp only
      split at hr
      · rename_i v hh low hc
        rw [h _ _ _ _ hc]
        exact hr
      · cases hr
    · cases hr
  · rename_i hw
    try rw [hw]
    exact hr
  · cases hr

theorem steps_mono {c c' : CallF} (h : CLe c c') {nt : Nat} {ops : List Oper} : ∀ {l : List Oper} {s : St} {r : St × List Acc}, steps T c nt ops l s = some r → steps T c' nt ops l s = some r
  | [], s, r, hr => hr
  | o :: l, s, r, hr => by
    simp only [steps] at hr ⊢
    split at hr
    · rename_i s1 a h1
      rw [step1_mono h h1]
      try simp only
      split at hr
      · rename_i s2 as2 h2
        rw [steps_mono h h2]
        exact hr
      · cases hr
    · cases hr

theorem region_mono {c c' : CallF} (h : CLe c c') {nt : Nat} {ops : Array Oper} {draw : Bool} {s s' : St} (hr : region T c nt ops draw s = some s') : region T c' nt ops draw s = some s' := by
  unfold region at hr ⊢
  split at hr
  · rename_i s1 acs h1
    rw [steps_mono h h1]
    exact hr
  · cases hr

theorem loopN_mono {b b' : St → Option (Ex × St)} (h : ∀ s r, b s = some r → b' s = some r) : ∀ {n m : Nat} {s : St} {r : Ex × St}, n ≤ m → loopN b n s = some r → loopN b' m s = some r
  | 0, _, s, r, _, hr => by simp [loopN] at hr
  | n + 1, m, s, r, hm, hr => by
    obtain ⟨m, rfl⟩ : ∃ m', m = m' + 1 := ⟨m - 1, by omega⟩
    simp only [loopN] at hr ⊢
    split at hr
    · rename_i s1 h1
      rw [h _ _ h1]
      exact loopN_mono h (by omega) hr
    · rename_i hne
      rw [h _ _ hr]
      match r, hne, hr with
      | (.normal, s1), hne, hr => exact absurd hr (hne s1)
      | (.exit i, s1), _, _ => rfl
      | (.ret, s1), _, _ => rfl

theorem runC_mono {c c' : CallF} (h : CLe c c') {nt k k' : Nat} (hk : k ≤ k') : ∀ {cd : Code} {s : St} {r : Ex × St}, runC T c nt k cd s = some r → runC T c' nt k' cd s = some r
  | .skip, s, r, hr => hr
  | .region id ops draw, s, r, hr => by
    simp only [runC] at hr ⊢
    split at hr
    · rename_i s1 h1
      rw [region_mono h h1]
      exact hr
    · cases hr
  | .seq a b, s, r, hr => by
    simp only [runC] at hr ⊢
    split at hr
    · rename_i s1 h1
      rw [runC_mono h hk h1]
      exact runC_mono h hk hr
    · rename_i hne
      rw [runC_mono h hk hr]
      match r, hne, hr with
      | (.normal, s1), hne, hr => exact absurd hr (hne s1)
      | (.exit i, s1), _, _ => rfl
      | (.ret, s1), _, _ => rfl
  | .cond cd a b, s, r, hr => by
    simp only [runC] at hr ⊢
    split at hr
    · rename_i t ht
      try rw [ht]
      cases t with
      | true => exact runC_mono h hk hr
      | false => exact runC_mono h hk hr
    · cases hr
  | .block id cd, s, r, hr => by
    simp only [runC] at hr ⊢
    split at hr
    · rename_i i s1 h1
      rw [runC_mono h hk h1]
      exact hr
    · rename_i hne
      rw [runC_mono h hk hr]
      match r, hne, hr with
      | (.normal, s1), _, _ => rfl
      | (.exit i, s1), hne, hr => exact absurd hr (hne i s1)
      | (.ret, s1), _, _ => rfl
  | .loop cd, s, r, hr => by
    simp only [runC] at hr ⊢
    exact loopN_mono (fun s r h1 => runC_mono h hk h1) hk hr
  | .exit id, s, r, hr => hr
  | .ret, s, r, hr => hr
  | .rangeFunc _ _ _ _, s, r, hr => by simp [runC] at hr
  | .scope _, s, r, hr => by simp [runC] at hr
  | .label _, s, r, hr => by simp [runC] at hr
  | .goto _, s, r, hr => by simp [runC] at hr
  | .refuse _, s, r, hr => by simp [runC] at hr

theorem runF_step : ∀ k, CLe (runF T k) (runF T (k + 1))
  | 0 => fun f args h r hr => by simp [runF] at hr
  | k + 1 => fun f args h r hr => by
    have ih := runF_step k
    rw [runF] at hr
    rw [runF]
    split at hr
    · exact hr
    split at hr
    · rename_i fi hfi
      cases hb : Nat.ble args.length fi.nt with
      | false => rw [hb] at hr; cases hr
      | true =>
        rw [hb] at hr
        simp only [cond] at hr ⊢
        split at hr
        · rename_i s1 h1
          rw [runC_mono ih (Nat.le_succ k) h1]
          exact hr
        · rename_i s1 h1
          rw [runC_mono ih (Nat.le_succ k) h1]
          exact hr
        · cases hr
    · cases hr

theorem runF_mono {k k' : Nat} (h : k ≤ k') : CLe (runF T k) (runF T k') := by
  induction k' with
  | zero => obtain rfl : k = 0 := by omega
            exact fun _ _ _ _ h => h
  | succ k' ih =>
    by_cases e : k = k' + 1
    · subst e; exact fun _ _ _ _ h => h
    · exact fun f args hh r hr => runF_step k' _ _ _ _ (ih (by omega) f args hh r hr)

/-! ### a piece of text, a function -/
/-- With some fuel the text ends so. -/
def Wp (T : Tabs) (nt : Nat) (c : Code) (s : St) (Q : Ex → St → Prop) : Prop := ∃ ex s', (∃ k, runC T (runF T k) nt k c s = some (ex, s')) ∧ Q ex s'

/-- With some fuel the function answers so. -/
def Fp (T : Tabs) (f : FuncId) (args : List Value) (h : AH) (Q : Value → AH → Nat → Prop) : Prop := ∃ v h' low, (∃ k, runF T k f args h = some (v, h', low)) ∧ Q v h' low

theorem Wp.mono {nt : Nat} {c : Code} {s : St} {Q Q' : Ex → St → Prop} (h : Wp T nt c s Q) (hq : ∀ ex s', Q ex s' → Q' ex s') : Wp T nt c s Q' := by
  obtain ⟨ex, s', h1, h2⟩ := h
  exact ⟨ex, s', h1, hq _ _ h2⟩

theorem Fp.mono {f : FuncId} {args : List Value} {h : AH} {Q Q' : Value → AH → Nat → Prop} (hf : Fp T f args h Q) (hq : ∀ v h' low, Q v h' low → Q' v h' low) : Fp T f args h Q' := by
  obtain ⟨v, h', low, h1, h2⟩ := hf
  exact ⟨v, h', low, h1, hq _ _ _ h2⟩

def thenQ (Q1 : St → Prop) (Q : Ex → St → Prop) : Ex → St → Prop
  | .normal, s => Q1 s
  | ex, s => Q ex s

theorem Wp.skip {nt : Nat} {s : St} {Q : Ex → St → Prop} (h : Q .normal s) : Wp T nt .skip s Q := ⟨_, _, ⟨0, rfl⟩, h⟩
theorem Wp.exit {nt id : Nat} {s : St} {Q : Ex → St → Prop} (h : Q (.exit id) s) : Wp T nt (.exit id) s Q := ⟨_, _, ⟨0, rfl⟩, h⟩
theorem Wp.ret {nt : Nat} {s : St} {Q : Ex → St → Prop} (h : Q .ret s) : Wp T nt .ret s Q := ⟨_, _, ⟨0, rfl⟩, h⟩

theorem runC_le {nt k k' : Nat} (h : k ≤ k') {c : Code} {s : St} {r : Ex × St} (hr : runC T (runF T k) nt k c s = some r) : runC T (runF T k') nt k' c s = some r := runC_mono (runF_mono h) h hr

theorem Wp.seq {nt : Nat} {a b : Code} {s : St} {Q : Ex → St → Prop} (h : Wp T nt a s (thenQ (fun s1 => Wp T nt b s1 Q) Q)) : Wp T nt (.seq a b) s Q := by
  obtain ⟨ex, s1, ⟨k1, h1⟩, h2⟩ := h
  cases ex with
  | normal =>
    obtain ⟨ex, s2, ⟨k2, h3⟩, h4⟩ := h2
    refine ⟨ex, s2, ⟨Nat.max k1 k2, ?_⟩, h4⟩
    simp only [runC]
    rw [runC_le (Nat.le_max_left k1 k2) h1]
    exact runC_le (Nat.le_max_right k1 k2) h3
  | exit i => exact ⟨.exit i, s1, ⟨k1, by simp only [runC]; rw [h1]⟩, h2⟩
  | ret => exact ⟨.ret, s1, ⟨k1, by simp only [runC]; rw [h1]⟩, h2⟩

theorem Wp.cond {nt : Nat} {c : Operand} {a b : Code} {s : St} {Q : Ex → St → Prop} {t : Bool} (hc : s.fr.ev s.h c = .bool t) (ha : t = true → Wp T nt a s Q) (hb : t = false → Wp T nt b s Q) : Wp T nt (.cond c a b) s Q := by
  cases t with
  | true =>
    obtain ⟨ex, s1, ⟨k1, h1⟩, h2⟩ := ha rfl
    exact ⟨ex, s1, ⟨k1, by simp only [runC]; rw [hc]; exact h1⟩, h2⟩
  | false =>
    obtain ⟨ex, s1, ⟨k1, h1⟩, h2⟩ := hb rfl
    exact ⟨ex, s1, ⟨k1, by simp only [runC]; rw [hc]; exact h1⟩, h2⟩

def blockQ (id : Nat) (Q : Ex → St → Prop) : Ex → St → Prop
  | .exit i, s => if i = id then Q .normal s else Q (.exit i) s
  | ex, s => Q ex s

theorem Wp.block {nt id : Nat} {c : Code} {s : St} {Q : Ex → St → Prop} (h : Wp T nt c s (blockQ id Q)) : Wp T nt (.block id c) s Q := by
  obtain ⟨ex, s1, ⟨k1, h1⟩, h2⟩ := h
  cases ex with
  | normal => exact ⟨.normal, s1, ⟨k1, by simp only [runC]; rw [h1]⟩, h2⟩
  | ret => exact ⟨.ret, s1, ⟨k1, by simp only [runC]; rw [h1]⟩, h2⟩
  | exit i =>
    simp only [blockQ] at h2
    by_cases e : i = id
    · subst e
      rw [if_pos rfl] at h2
      exact ⟨.normal, s1, ⟨k1, by simp only [runC]; rw [h1]; simp⟩, h2⟩
    · rw [if_neg e] at h2
      have : Nat.beq i id = false := by
        cases hq : Nat.beq i id
        · rfl
        · exact absurd (by simpa [Nat.beq_eq] using hq) e
      exact ⟨.exit i, s1, ⟨k1, by simp only [runC]; rw [h1]; simp [this]⟩, h2⟩

/-- One round, and the rest. -/
theorem Wp.loop1 {nt : Nat} {c : Code} {s : St} {Q : Ex → St → Prop} (h : Wp T nt c s (thenQ (fun s1 => Wp T nt (.loop c) s1 Q) Q)) : Wp T nt (.loop c) s Q := by
  obtain ⟨ex, s1, ⟨k1, h1⟩, h2⟩ := h
  cases ex with
  | normal =>
    obtain ⟨ex, s2, ⟨k2, h3⟩, h4⟩ := h2
    refine ⟨ex, s2, ⟨Nat.max k1 k2 + 1, ?_⟩, h4⟩
    have e1 := runC_le (T := T) (Nat.le_trans (Nat.le_max_left k1 k2) (Nat.le_succ _)) h1
    have hm : k2 ≤ Nat.max k1 k2 := Nat.le_max_right k1 k2
    simp only [runC] at h3 ⊢
    simp only [loopN]
    rw [e1]
    exact loopN_mono (fun s r hr => runC_mono (runF_mono (by omega)) (by omega) hr) hm h3
  | exit i =>
    refine ⟨.exit i, s1, ⟨k1 + 1, ?_⟩, h2⟩
    simp only [runC, loopN]
    rw [runC_le (Nat.le_succ k1) h1]
  | ret =>
    refine ⟨.ret, s1, ⟨k1 + 1, ?_⟩, h2⟩
    simp only [runC, loopN]
    rw [runC_le (Nat.le_succ k1) h1]

/-- A loop with an invariant and a measure. -/
theorem Wp.loop {nt : Nat} {c : Code} {Q : Ex → St → Prop} (I : Nat → St → Prop) (h : ∀ n s, I n s → Wp T nt c s (thenQ (fun s1 => ∃ m, m < n ∧ I m s1) Q)) : ∀ n s, I n s → Wp T nt (.loop c) s Q := by
  intro n
  induction n using Nat.strongRecOn with
  | _ n ih =>
    intro s hI
    refine Wp.loop1 ((h n s hI).mono fun ex s1 hq => ?_)
    cases ex with
    | normal =>
      obtain ⟨m, hm, hI1⟩ := hq
      exact ih m hm s1 hI1
    | exit i => exact hq
    | ret => exact hq

/-! ### regions -/
def Sp (T : Tabs) (nt : Nat) (ops l : List Oper) (s : St) (Q : St → List Acc → Prop) : Prop := ∃ s' acs, (∃ k, steps T (runF T k) nt ops l s = some (s', acs)) ∧ Q s' acs

theorem Sp.nil {nt : Nat} {ops : List Oper} {s : St} {Q : St → List Acc → Prop} (h : Q s []) : Sp T nt ops [] s Q := ⟨s, [], ⟨0, rfl⟩, h⟩

theorem Sp.cons {nt : Nat} {ops l : List Oper} {o : Oper} {s s1 : St} {a : Acc} {Q : St → List Acc → Prop} (h1 : ∃ k, step1 T (runF T k) nt ops o s = some (s1, a)) (h2 : Sp T nt ops l s1 fun s' acs => Q s' (a :: acs)) : Sp T nt ops (o :: l) s Q := by
  obtain ⟨k1, h1⟩ := h1
  obtain ⟨s', acs, ⟨k2, h3⟩, h4⟩ := h2
  refine ⟨s', a :: acs, ⟨Nat.max k1 k2, ?_⟩, h4⟩
  simp only [steps]
  rw [step1_mono (runF_mono (Nat.le_max_left k1 k2)) h1]
  simp only
  rw [steps_mono (runF_mono (Nat.le_max_right k1 k2)) h3]

theorem Wp.region {nt id : Nat} {ops : Array Oper} {s : St} {Q : Ex → St → Prop} (h : Sp T nt ops.toList ops.toList s fun s' _ => Q .normal s') : Wp T nt (.region id ops false) s Q := by
  obtain ⟨s', acs, ⟨k, h1⟩, h2⟩ := h
  exact ⟨.normal, s', ⟨k, by simp only [runC, Vae.region]; rw [h1]; simp⟩, h2⟩

theorem Wp.draw {nt id : Nat} {ops : Array Oper} {s : St} {Q : Ex → St → Prop} (h : Sp T nt ops.toList ops.toList s fun s' acs => (anyWrites acs = true → orderOK acs (Region.before ops).toList = true) ∧ Q .normal s') : Wp T nt (.region id ops true) s Q := by
  obtain ⟨s', acs, ⟨k, h1⟩, h2, h3⟩ := h
  refine ⟨.normal, s', ⟨k, ?_⟩, h3⟩
  simp only [runC, Vae.region]
  rw [h1]
  cases hw : anyWrites acs with
  | false => simp [hw]
  | true => simp [hw, h2 hw]

/-! ### functions -/
/-- A function whose answer is known. -/
theorem Fp.known {f : FuncId} {h : AH} {Q : Value → AH → Nat → Prop} {v : Value} (hk : T.known f = some v) (hq : Q v h h.sz) : Fp T f [] h Q := ⟨v, h, h.sz, ⟨1, by simp [runF, hk]⟩, hq⟩

theorem Fp.of {f : FuncId} {args : List Value} {h : AH} {Q : Value → AH → Nat → Prop} {fi : FI} (hkn : T.known f = none) (hf : T.fn f = some fi) (hl : args.length ≤ fi.nt)
    (hw : Wp T fi.nt fi.code ⟨argsFr 0 args .e, h, h.sz⟩ fun ex s => (ex = .normal ∨ ex = .ret) ∧ ∃ v, resAll T s.h s.fr fi.res = some v ∧ Q v s.h s.low) : Fp T f args h Q := by
  obtain ⟨ex, s, ⟨k, h1⟩, h2, v, h3, h4⟩ := hw
  refine ⟨v, s.h, s.low, ⟨k + 1, ?_⟩, h4⟩
  simp only [runF, hkn, hf, Nat.ble_eq_true_of_le hl, cond]
  rw [h1]
  rcases h2 with rfl | rfl <;> simp [h3]

end Go.Vae

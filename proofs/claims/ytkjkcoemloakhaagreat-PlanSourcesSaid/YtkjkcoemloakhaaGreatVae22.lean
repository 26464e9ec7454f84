/- The quick form does what the evaluator does: operations, regions, text, functions. -/
import Derived.Test.YtkjkcoemloakhaaGreatVae21
set_option linter.unusedVariables false
set_option linter.unusedSimpArgs false
namespace Go.Vae
open Go Go.RowKit

variable {T : Tabs}

theorem opK_mk {D : Nat} {x : Operand} {f : Fr → AH → Value} (h : opK D x = .mk f) : ∀ fr hp, f fr hp = fr.ev hp x := by
  have := opK_eq D x
  rw [h] at this
  exact this

def AkOK (T : Tabs) (o : Oper) : Ak → Prop
  | .pu f rd => ∀ fr h v, f fr h = some v → aop T h (fr.ev h) o = some (.val v .nil (rd fr h))
  | .mk f => ∀ fr h r, f fr h = some r → aop T h (fr.ev h) o = some r

theorem AkOK.none' {o : Oper} : AkOK T o (.mk fun _ _ => none) := fun _ _ _ h => by cases h
theorem AkOK.same {o : Oper} : AkOK T o (.mk fun fr h => aop T h (fr.ev h) o) := fun _ _ _ h => h

theorem bytesK_some {v : Value} {k : List UInt8 → Option Value} {r : Value} (h : bytesK v k = some r) : ∃ l, v = .string ⟨⟨l⟩⟩ ∧ k l = some r := by
  unfold bytesK at h
  split at h
  · exact ⟨_, rfl, h⟩
  · cases h

theorem natK_some {v : Option Value} {k : Nat → Option Value} {r : Value} (h : natK v k = some r) : ∃ n : Nat, v = some (.int .i64 n) ∧ k n = some r := by
  unfold natK at h
  split at h
  · rename_i n
    cases n with
    | ofNat n => exact ⟨n, rfl, h⟩
    | negSucc n => cases h
  · cases h

theorem ssliceK_some {l : List UInt8} {lo hi : Nat} {r : Value} (h : ssliceK l lo hi = some r) : lo ≤ hi ∧ hi ≤ l.length ∧ r = .string ⟨⟨(l.take hi).drop lo⟩⟩ := by
  unfold ssliceK at h
  cases h1 : Nat.ble lo hi with
  | false => rw [h1] at h; cases h
  | true =>
    rw [h1] at h
    cases h2 : Nat.ble hi (lenF l) with
    | false => rw [h2] at h; cases h
    | true =>
      rw [h2] at h
      have h : some (Value.string ⟨⟨dropF (takeF l hi) lo⟩⟩) = some r := h
      injection h with h
      rw [takeF_eq, dropF_eq] at h
      rw [lenF_eq] at h2
      exact ⟨Nat.le_of_ble_eq_true h1, Nat.le_of_ble_eq_true h2, h.symm⟩

theorem sslice_ok {t : TypeId} {ti : TI} (ht : T.ty t = some ti) (hk : ti.k = .string) {l : List UInt8} {lo hi : Option Value} {a b : Nat} {r : Value} (h1 : abound lo 0 = some a) (h2 : abound hi l.length = some b) (h : ssliceK l a b = some r) :
    aslice T t (.string ⟨⟨l⟩⟩) lo hi none = some (.val r .nil []) := by
  obtain ⟨g1, g2, rfl⟩ := ssliceK_some h
  simp [aslice, ht, hk, h1, h2, Nat.ble_eq_true_of_le g1, Nat.ble_eq_true_of_le g2, ok]

theorem aopK_ok (D : Nat) (o : Oper) : AkOK T o (aopK T D o) := by
  obtain ⟨dst, op, ty, pos, after, guard⟩ := o
  unfold aopK
  split
  · rename_i x ho
    have ho : op = .move x := ho
    subst ho
    split
    rename_i f hf
    intro fr h v hv
    injection hv with hv
    rw [opK_mk hf] at hv
    subst hv
    rfl
  · rename_i x ho
    have ho : op = .assign x := ho
    subst ho
    split
    rename_i f hf
    intro fr h v hv
    injection hv with hv
    rw [opK_mk hf] at hv
    subst hv
    rfl
  · rename_i bo t x y yt ho
    have ho : op = .binOp bo t x y yt := ho
    subst ho
    split
    rename_i f g b hf hg hb
    intro fr h v hv
    have h1 := binK_ok (T := T) bo t (f fr h) (g fr h) v (by rw [hb]; exact hv)
    rw [opK_mk hf, opK_mk hg] at h1
    simp only [aop, h1]
    rfl
  · rename_i t a ho
    have ho : op = .load t a := ho
    subst ho
    split
    · rename_i f ti hf hti
      split
      · rename_i hagg
        intro fr h v hv
        have := load1K_ok hti hagg hv
        simp only [aop]
        rw [← opK_mk hf]
        exact this
      · intro fr h r hr
        simp only [aop]
        rw [← opK_mk hf]
        exact hr
    · exact AkOK.none'
  · rename_i s x i ho
    have ho : op = .fieldAddr s x i := ho
    subst ho
    split
    · rename_i f ti hf hti
      split
      · rename_i fs hk
        split
        · rename_i ft o hl
          split
          · rename_i fi hfi
            split
            · rename_i hb
              intro fr h v hv
              unfold fieldAddrK at hv
              simp only at hv
              split at hv
              · rename_i b off he
                injection hv with hv
                subst hv
                rw [opK_mk hf] at he
                simp [aop, he, afieldAddr, hti, hk, hl, hfi, hb, ok]
              · cases hv
            · exact AkOK.none'
          · exact AkOK.none'
        · exact AkOK.none'
      · exact AkOK.none'
    · exact AkOK.none'
  · rename_i s x i ho
    have ho : op = .field s x i := ho
    subst ho
    split
    rename_i f hf
    intro fr h r hr
    simp only [aop]
    rw [← opK_mk hf]
    exact hr
  · rename_i t x i ho
    have ho : op = .indexAddr t x i := ho
    subst ho
    split
    · rename_i f g ti hf hg hti
      split
      · rename_i e hk
        split
        · rename_i ei hei
          intro fr h v hv
          simp only at hv
          split at hv
          · rename_i b off len cap k n he1 he2
            rw [opK_mk hf] at he1
            rw [opK_mk hg] at he2
            cases n with
            | negSucc n => cases hv
            | ofNat n =>
              cases hb : Nat.blt n len with
              | false => simp only [hb] at hv; cases hv
              | true =>
                simp only [hb] at hv
                injection hv with hv
                subst hv
                have h1 := blt_true hb
                have h2 : ((0 : Int) ≤ Int.ofNat n) := Int.natCast_nonneg n
                have h3 : (Int.ofNat n < (len : Int)) := Int.ofNat_lt.2 h1
                simp only [aop, he1, he2, aindexAddr, hti, hk, hei, h2, h3, decide_true, Bool.and_self, cond]
                rfl
          · cases hv
        · exact AkOK.none'
      · intro fr h r hr
        simp only [aop]
        rw [← opK_mk hf, ← opK_mk hg]
        exact hr
    · exact AkOK.none'
  · rename_i t x lo hi ho
    have ho : op = .slice t x lo hi none := ho
    subst ho
    split
    · rename_i ti hti
      split
      · rename_i hk
        split
        · rename_i f hf
          intro fr h v hv
          obtain ⟨l, h1, h2⟩ := bytesK_some hv
          rw [opK_mk hf] at h1
          simp only [aop, h1, Option.map_none]
          exact sslice_ok hti hk rfl (by rw [lenF_eq] at *; rfl) (by rw [lenF_eq] at h2; exact h2)
        · rename_i f a hf
          split
          rename_i g hg
          intro fr h v hv
          obtain ⟨l, h1, h2⟩ := bytesK_some hv
          obtain ⟨n, h3, h4⟩ := natK_some h2
          rw [opK_mk hf] at h1
          rw [opK_mk hg] at h3
          simp only [aop, h1, Option.map_none, Option.map_some, h3]
          exact sslice_ok hti hk (a := n) (by simp [abound]) (by rfl) (by rw [lenF_eq] at h4; exact h4)
        · rename_i f b hf
          split
          rename_i g hg
          intro fr h v hv
          obtain ⟨l, h1, h2⟩ := bytesK_some hv
          obtain ⟨n, h3, h4⟩ := natK_some h2
          rw [opK_mk hf] at h1
          rw [opK_mk hg] at h3
          simp only [aop, h1, Option.map_none, Option.map_some, h3]
          exact sslice_ok hti hk (b := n) rfl (by simp [abound]) h4
        · rename_i f a b hf
          split
          rename_i g g' hg hg'
          intro fr h v hv
          obtain ⟨l, h1, h2⟩ := bytesK_some hv
          obtain ⟨n, h3, h4⟩ := natK_some h2
          obtain ⟨m, h5, h6⟩ := natK_some h4
          rw [opK_mk hf] at h1
          rw [opK_mk hg] at h3
          rw [opK_mk hg'] at h5
          simp only [aop, h1, Option.map_some, Option.map_none, h3, h5]
          exact sslice_ok hti hk (a := n) (b := m) (by simp [abound]) (by simp [abound]) h6
      · exact AkOK.same
    · exact AkOK.none'
  · rename_i args ts ho
    have ho : op = .call ⟨.builtin .len, args, ts⟩ := ho
    subst ho
    split
    · rename_i x t hx ht
      split
      · rename_i ti f hti hf
        split
        · rename_i hk
          intro fr h v hv
          obtain ⟨l, h1, h2⟩ := bytesK_some hv
          rw [opK_mk hf] at h1
          injection h2 with h2
          subst h2
          simp only [aop, acall, hx, ht, List.map_cons, List.map_nil, abuiltin, alen, hti, hk, h1, ok, lenF_eq]
          rfl
        · rename_i e hk
          intro fr h v hv
          simp only at hv
          split at hv
          · rename_i a n c he
            rw [opK_mk hf] at he
            injection hv with hv
            subst hv
            simp only [aop, acall, hx, ht, List.map_cons, List.map_nil, abuiltin, alen, hti, hk, he, ok]
            rfl
          · cases hv
        · exact AkOK.same
      · exact AkOK.none'
    · exact AkOK.same
  · exact AkOK.same

/-! ### steps -/
def Kop.run : Kop → CallK → Fr → AH → Nat → Kt → Bool | .mk f => f
def Kr.run : Kr → CallK → Fr → AH → Nat → (Fr → AH → Nat → Bool) → Bool | .mk f => f
def Kd.run : Kd → CallK → Fr → AH → Nat → (Fr → AH → Nat → List Acc → Bool) → Bool | .mk f => f
def Kc.run : Kc → CallK → Nat → Fr → AH → Nat → Kx → Bool | .mk f => f

/-- A quick call answers what the evaluator's does. -/
def CallKOK (ck : CallK) (call : CallF) : Prop := ∀ f args h k, ck f args h k = true → ∃ v h' low, call f args h = some (v, h', low) ∧ k v h' low = true

theorem upK_ok {nt : Nat} {d : Option Tmp} {up : Fr → Value → (Fr → Bool) → Bool} (hu : upK nt d = .mk up) {fr : Fr} {v : Value} {k : Fr → Bool} (h : up fr v k = true) : ∃ fr', putT nt fr d v = some fr' ∧ k fr' = true := by
  unfold upK at hu
  split at hu
  · injection hu with hu
    subst hu
    exact ⟨fr, rfl, h⟩
  · rename_i d
    split at hu
    · rename_i p hb hp
      injection hu with hu
      subst hu
      have := putS_eq (d + 1) d fr v
      rw [hp] at this
      have this : p fr v = Tr.put (d + 1) fr d v := this
      refine ⟨p fr v, ?_, h⟩
      simp only [putT, hb, cond]
      rw [this]
      rfl
    · injection hu with hu
      subst hu
      cases h

theorem fNb_ok {n : Nat} {k : Nat → Bool} (h : fNb n k = true) : k n = true := by cases n <;> exact h

theorem putF_eq {α : Type} : ∀ (d : Nat) (t : Tr α) (i : Nat) (x : α) (k : Tr α → Bool), putF d t i x k = k (t.put d i x)
  | 0, t, i, x, k => rfl
  | d + 1, .e, 0, x, k => rfl
  | d + 1, .e, i + 1, x, k => by
    show Bool.rec (motive := fun _ => Bool) (putF d .e (i / 2) x fun r => k (.n .e none r)) (putF d .e (i / 2) x fun l => k (.n l none .e)) (Nat.beq (i % 2) 0) = _
    simp only [Tr.put]
    cases Nat.beq (i % 2) 0
    · exact putF_eq d .e (i / 2) x _
    · exact putF_eq d .e (i / 2) x _
  | d + 1, .n l v r, 0, x, k => rfl
  | d + 1, .n l v r, i + 1, x, k => by
    show Bool.rec (motive := fun _ => Bool) (putF d r (i / 2) x fun r => k (.n l v r)) (putF d l (i / 2) x fun l => k (.n l v r)) (Nat.beq (i % 2) 0) = _
    simp only [Tr.put]
    cases Nat.beq (i % 2) 0
    · exact putF_eq d r (i / 2) x _
    · exact putF_eq d l (i / 2) x _

theorem appK_ok {h : AH} {e : Eff} {k : AH → Bool} (hk : appK h e k = true) : k (h.app e) = true := by
  obtain ⟨ng, n, ro, sz, st⟩ := h
  cases e with
  | nil => exact hk
  | new cs =>
    have hk : putF (Nat.succ sz) st sz (.cells cs) (fun st => fNb (Nat.succ sz) fun sz => k ⟨ng, n, ro, sz, st⟩) = true := hk
    rw [putF_eq] at hk
    exact fNb_ok hk
  | set i cs =>
    have hk : putF (Nat.succ i) st i (.cells cs) (fun st => k ⟨ng, n, ro, sz, st⟩) = true := hk
    rw [putF_eq] at hk
    exact hk
  | grow i cs =>
    have hk : putF (Nat.succ i) st i .dead (fun st => putF (Nat.succ sz) st sz (.cells cs) fun st => fNb (Nat.succ sz) fun sz => k ⟨ng, n, ro, sz, st⟩) = true := hk
    rw [putF_eq, putF_eq] at hk
    exact fNb_ok hk

def StepK (T : Tabs) (nt : Nat) (ops : List Oper) (o : Oper) (f : CallK → Fr → AH → Nat → Kt → Bool) : Prop :=
  ∀ ck call, CallKOK ck call → ∀ fr h low k, f ck fr h low k = true → ∃ s a, step1 T call nt ops o ⟨fr, h, low⟩ = some (s, a) ∧ k s.fr s.h s.low a = true

theorem pu_step {nt : Nat} {ops : List Oper} {o : Oper} {call : CallF} {f : Fr → AH → Option Value} {rd : Fr → AH → List Nat} (ha : AkOK T o (.pu f rd)) {up : Fr → Value → (Fr → Bool) → Bool} (hu : upK nt o.dst = .mk up) {fr : Fr} {h : AH} {low : Nat} {k : Kt} (hw : wantedA ops fr o = some true)
    (hk : (Option.rec (motive := fun _ => Bool) false (fun v => up fr v fun fr' => k fr' h low ⟨rd fr h, [], h.sz, h.sz, none⟩) (f fr h) : Bool) = true) : ∃ s a, step1 T call nt ops o ⟨fr, h, low⟩ = some (s, a) ∧ k s.fr s.h s.low a = true := by
  cases hv : f fr h with
  | none => rw [hv] at hk; cases hk
  | some v =>
    rw [hv] at hk
    obtain ⟨fr', h1, h2⟩ := upK_ok hu hk
    refine ⟨⟨fr', h, low⟩, _, ?_, h2⟩
    have := ha fr h v hv
    have hm : Nat.min low (Eff.lowD low .nil) = low := Nat.min_self low
    simp only [step1, hw, this, h1, hm]
    rfl

theorem mk_step {nt : Nat} {ops : List Oper} {o : Oper} {ck : CallK} {call : CallF} (hc : CallKOK ck call) {f : Fr → AH → Option AR} (ha : AkOK T o (.mk f)) {up : Fr → Value → (Fr → Bool) → Bool} (hu : upK nt o.dst = .mk up) {fr : Fr} {h : AH} {low : Nat} {k : Kt} (hw : wantedA ops fr o = some true)
    (hk : restK ck up fr h low k (f fr h) = true) : ∃ s a, step1 T call nt ops o ⟨fr, h, low⟩ = some (s, a) ∧ k s.fr s.h s.low a = true := by
  unfold restK at hk
  split at hk
  · rename_i v e rd hr
    obtain ⟨fr', h1, h2⟩ := upK_ok hu hk
    have h3 := appK_ok h2
    refine ⟨⟨fr', h.app e, Nat.min low (e.lowD low)⟩, _, ?_, h3⟩
    simp only [step1, hw, ha fr h _ hr, h1]
  · rename_i g args hr
    obtain ⟨v, h', l', h1, h2⟩ := hc _ _ _ _ hk
    obtain ⟨fr', h3, h4⟩ := upK_ok hu h2
    refine ⟨⟨fr', h', Nat.min low l'⟩, _, ?_, h4⟩
    simp only [step1, hw, ha fr h _ hr, h1, h3]
  · cases hk

theorem skip_step {nt : Nat} {ops : List Oper} {o : Oper} {call : CallF} {up : Fr → Value → (Fr → Bool) → Bool} (hu : upK nt o.dst = .mk up) {fr : Fr} {h : AH} {low : Nat} {k : Kt} (hw : wantedA ops fr o = some false)
    (hk : (up fr skipV fun fr => k fr h low ⟨[], [], h.sz, h.sz, none⟩) = true) : ∃ s a, step1 T call nt ops o ⟨fr, h, low⟩ = some (s, a) ∧ k s.fr s.h s.low a = true := by
  obtain ⟨fr', h1, h2⟩ := upK_ok hu hk
  exact ⟨⟨fr', h, low⟩, _, by simp only [step1, hw, h1], h2⟩

theorem kop_ok (D nt : Nat) (ops : List Oper) (o : Oper) : StepK T nt ops o (kop T D nt ops o).run := by
  have ha := aopK_ok (T := T) D o
  intro ck call hc fr h low k hk
  unfold kop at hk
  split at hk
  · rename_i f rd up e1 e2 e3
    rw [e1] at ha
    exact pu_step ha e2 (by simp [wantedA, e3]) hk
  · rename_i f up e1 e2 e3
    rw [e1] at ha
    exact mk_step hc ha e2 (by simp [wantedA, e3]) hk
  · rename_i f rd up g e1 e2 e3
    rw [e1] at ha
    simp only [Kop.run] at hk
    split at hk
    · rename_i hw; exact pu_step ha e2 hw hk
    · rename_i hw; exact skip_step e2 hw hk
    · cases hk
  · rename_i f up g e1 e2 e3
    rw [e1] at ha
    simp only [Kop.run] at hk
    split at hk
    · rename_i hw; exact mk_step hc ha e2 hw hk
    · rename_i hw; exact skip_step e2 hw hk
    · cases hk

theorem krK_ok (D nt : Nat) (ops : List Oper) {ck : CallK} {call : CallF} (hc : CallKOK ck call) : ∀ (l : List Oper) (fr : Fr) (h : AH) (low : Nat) (k : Fr → AH → Nat → Bool), (krK T D nt ops l).run ck fr h low k = true →
    ∃ s acs, steps T call nt ops l ⟨fr, h, low⟩ = some (s, acs) ∧ k s.fr s.h s.low = true
  | [], fr, h, low, k, hk => ⟨⟨fr, h, low⟩, [], rfl, hk⟩
  | o :: os, fr, h, low, k, hk => by
    unfold krK at hk
    split at hk
    rename_i f g hf hg
    have h1 := kop_ok (T := T) D nt ops o ck call hc fr h low (fun fr h low _ => g ck fr h low k) (by rw [hf]; exact hk)
    obtain ⟨s, a, h2, h3⟩ := h1
    obtain ⟨s', acs, h4, h5⟩ := krK_ok D nt ops hc os s.fr s.h s.low k (by rw [hg]; exact h3)
    exact ⟨s', a :: acs, by simp only [steps, h2, h4], h5⟩

theorem kdK_ok (D nt : Nat) (ops : List Oper) {ck : CallK} {call : CallF} (hc : CallKOK ck call) : ∀ (l : List Oper) (fr : Fr) (h : AH) (low : Nat) (k : Fr → AH → Nat → List Acc → Bool), (kdK T D nt ops l).run ck fr h low k = true →
    ∃ s acs, steps T call nt ops l ⟨fr, h, low⟩ = some (s, acs) ∧ k s.fr s.h s.low acs = true
  | [], fr, h, low, k, hk => ⟨⟨fr, h, low⟩, [], rfl, hk⟩
  | o :: os, fr, h, low, k, hk => by
    unfold kdK at hk
    split at hk
    rename_i f g hf hg
    have h1 := kop_ok (T := T) D nt ops o ck call hc fr h low (fun fr h low a => g ck fr h low fun fr h low acs => k fr h low (a :: acs)) (by rw [hf]; exact hk)
    obtain ⟨s, a, h2, h3⟩ := h1
    obtain ⟨s', acs, h4, h5⟩ := kdK_ok D nt ops hc os s.fr s.h s.low (fun fr h low acs => k fr h low (a :: acs)) (by rw [hg]; exact h3)
    exact ⟨s', a :: acs, by simp only [steps, h2, h4], h5⟩

/-! ### text -/
def exK : Ex → Nat
  | .normal => 0
  | .ret => 1
  | .exit i => i + 2

theorem fIf_ok {b x y : Bool} (h : fIf b x y = true) : (b = true ∧ x = true) ∨ (b = false ∧ y = true) := by
  cases b
  · exact .inr ⟨rfl, h⟩
  · exact .inl ⟨rfl, h⟩

def CodeK (T : Tabs) (nt : Nat) (c : Code) (f : CallK → Nat → Fr → AH → Nat → Kx → Bool) : Prop :=
  ∀ ck call, CallKOK ck call → ∀ n fr h low k, f ck n fr h low k = true → ∃ ex s, runC T call nt n c ⟨fr, h, low⟩ = some (ex, s) ∧ k (exK ex) s.fr s.h s.low = true

theorem loopK_ok {nt : Nat} {c : Code} {body : Fr → AH → Nat → Kx → Bool} {bodyA : St → Option (Ex × St)} (hb : ∀ fr h low k, body fr h low k = true → ∃ ex s, bodyA ⟨fr, h, low⟩ = some (ex, s) ∧ k (exK ex) s.fr s.h s.low = true) :
    ∀ (n : Nat) (fr : Fr) (h : AH) (low : Nat) (k : Kx), loopK body n fr h low k = true → ∃ ex s, loopN bodyA n ⟨fr, h, low⟩ = some (ex, s) ∧ k (exK ex) s.fr s.h s.low = true
  | 0, fr, h, low, k, hk => by cases hk
  | n + 1, fr, h, low, k, hk => by
    have hk : body fr h low (fun x fr h low => Nat.rec (motive := fun _ => Bool) (loopK body n fr h low k) (fun x _ => k (Nat.succ x) fr h low) x) = true := hk
    obtain ⟨ex, s, h1, h2⟩ := hb _ _ _ _ hk
    cases ex with
    | normal =>
      obtain ⟨ex, s', h3, h4⟩ := loopK_ok (nt := nt) (c := c) hb n s.fr s.h s.low k h2
      exact ⟨ex, s', by simp only [loopN, h1]; exact h3, h4⟩
    | exit i => exact ⟨.exit i, s, by simp only [loopN, h1], h2⟩
    | ret => exact ⟨.ret, s, by simp only [loopN, h1], h2⟩

theorem codeK_ok (D nt : Nat) : ∀ (c : Code), CodeK T nt c (codeK T D nt c).run
  | .skip => fun ck call hc n fr h low k hk => ⟨.normal, _, rfl, hk⟩
  | .exit id => fun ck call hc n fr h low k hk => ⟨.exit id, _, rfl, hk⟩
  | .ret => fun ck call hc n fr h low k hk => ⟨.ret, _, rfl, hk⟩
  | .region id ops draw => fun ck call hc n fr h low k hk => by
    unfold codeK at hk
    cases draw with
    | false =>
      have h0 := krK_ok (T := T) D nt ops.toList hc ops.toList fr h low (fun fr h low => k 0 fr h low)
      generalize krK T D nt ops.toList ops.toList = kr at hk h0
      cases kr with
      | mk f =>
      obtain ⟨s, acs, h1, h2⟩ := h0 hk
      exact ⟨.normal, s, by simp [runC, region, h1], h2⟩
    | true =>
      have h0 := kdK_ok (T := T) D nt ops.toList hc ops.toList fr h low (fun fr h low acs => fIf (anyWrites acs) (fIf (orderOK acs (Region.before ops).toList) (k 0 fr h low) false) (k 0 fr h low))
      generalize kdK T D nt ops.toList ops.toList = kr at hk h0
      cases kr with
      | mk f =>
      obtain ⟨s, acs, h1, h2⟩ := h0 hk
      rcases fIf_ok h2 with ⟨h3, h4⟩ | ⟨h3, h4⟩
      · rcases fIf_ok h4 with ⟨h5, h6⟩ | ⟨_, h6⟩
        · exact ⟨.normal, s, by simp [runC, region, h1, h3, h5], h6⟩
        · cases h6
      · exact ⟨.normal, s, by simp [runC, region, h1, h3], h4⟩
  | .seq a b => fun ck call hc n fr h low k hk => by
    have iha := codeK_ok D nt a
    have ihb := codeK_ok D nt b
    unfold codeK at hk
    split at hk
    rename_i f g hf hg
    rw [hf] at iha
    rw [hg] at ihb
    obtain ⟨ex, s, h1, h2⟩ := iha ck call hc n fr h low _ hk
    cases ex with
    | normal =>
      obtain ⟨ex, s', h3, h4⟩ := ihb ck call hc n s.fr s.h s.low k h2
      exact ⟨ex, s', by simp only [runC, h1]; exact h3, h4⟩
    | exit i => exact ⟨.exit i, s, by simp only [runC, h1], h2⟩
    | ret => exact ⟨.ret, s, by simp only [runC, h1], h2⟩
  | .cond c a b => fun ck call hc n fr h low k hk => by
    have iha := codeK_ok D nt a
    have ihb := codeK_ok D nt b
    unfold codeK at hk
    split at hk
    rename_i c' f g hcc hf hg
    rw [hf] at iha
    rw [hg] at ihb
    simp only [Kc.run] at hk
    split at hk
    · rename_i t ht
      rw [opK_mk hcc] at ht
      cases t with
      | true =>
        obtain ⟨ex, s, h1, h2⟩ := iha ck call hc n fr h low k hk
        exact ⟨ex, s, by simp only [runC, ht]; exact h1, h2⟩
      | false =>
        obtain ⟨ex, s, h1, h2⟩ := ihb ck call hc n fr h low k hk
        exact ⟨ex, s, by simp only [runC, ht]; exact h1, h2⟩
    · cases hk
  | .block id c => fun ck call hc n fr h low k hk => by
    have ih := codeK_ok D nt c
    unfold codeK at hk
    split at hk
    rename_i f hf
    rw [hf] at ih
    obtain ⟨ex, s, h1, h2⟩ := ih ck call hc n fr h low _ hk
    cases ex with
    | normal =>
      have : Nat.beq 0 (id + 2) = false := rfl
      simp only [exK, this] at h2
      exact ⟨.normal, s, by simp only [runC, h1], h2⟩
    | ret =>
      have : Nat.beq 1 (id + 2) = false := rfl
      simp only [exK, this] at h2
      exact ⟨.ret, s, by simp only [runC, h1], h2⟩
    | exit i =>
      simp only [exK] at h2
      cases hb : Nat.beq i id with
      | true =>
        have : Nat.beq (i + 2) (id + 2) = true := hb
        rw [this] at h2
        exact ⟨.normal, s, by simp only [runC, h1, hb, cond], h2⟩
      | false =>
        have : Nat.beq (i + 2) (id + 2) = false := hb
        rw [this] at h2
        exact ⟨.exit i, s, by simp only [runC, h1, hb, cond], h2⟩
  | .loop c => fun ck call hc n fr h low k hk => by
    have ih := codeK_ok D nt c
    unfold codeK at hk
    split at hk
    rename_i f hf
    rw [hf] at ih
    obtain ⟨ex, s, h1, h2⟩ := loopK_ok (nt := nt) (c := c) (body := f ck n) (bodyA := fun s => runC T call nt n c s) (fun fr h low k hk => ih ck call hc n fr h low k hk) n fr h low k hk
    exact ⟨ex, s, by simp only [runC]; exact h1, h2⟩
  | .rangeFunc _ _ _ _ => fun ck call hc n fr h low k hk => by cases hk
  | .scope _ => fun ck call hc n fr h low k hk => by cases hk
  | .label _ => fun ck call hc n fr h low k hk => by cases hk
  | .goto _ => fun ck call hc n fr h low k hk => by cases hk
  | .refuse _ => fun ck call hc n fr h low k hk => by cases hk

/-- The quick run is the evaluator's. -/
theorem runK_ok (n : Nat) : CallKOK (runK T n) (runF T n) := by
  induction n with
  | zero => exact fun f args h k hk => by cases hk
  | succ n hc =>
    intro f args h k hk
    have hk : Kf.rec (motive := fun _ => Bool) (fun g => Option.rec (motive := fun _ => Bool) false (fun g => g (runK T n) n args h k) g) (funK T f) = true := hk
    unfold funK at hk
    cases hkn : T.known f with
    | some v => rw [hkn] at hk; cases hk
    | none =>
    rw [hkn] at hk
    cases hfi : T.fn f with
    | none => rw [hfi] at hk; cases hk
    | some fi =>
      rw [hfi] at hk
      simp only at hk
      have hcd := codeK_ok (T := T) (depthOf fi.nt) fi.nt fi.code
      generalize hcc : codeK T (depthOf fi.nt) fi.nt fi.code = cc at hk hcd
      cases cc with
      | mk c =>
        simp only at hk
        rcases fIf_ok hk with ⟨h1, h2⟩ | ⟨_, h2⟩
        · obtain ⟨ex, s, h3, h4⟩ := hcd (runK T n) (runF T n) hc n _ h h.sz _ h2
          rcases fIf_ok h4 with ⟨h5, h6⟩ | ⟨_, h6⟩
          · split at h6
            · rename_i v hv
              have h7 : k v s.h s.low = true := by
                generalize s.low = lw at h6
                cases lw <;> exact h6
              refine ⟨v, s.h, s.low, ?_, h7⟩
              simp only [runF, hkn, hfi, h1, cond, h3]
              cases ex with
              | normal => simp [hv]
              | ret => simp [hv]
              | exit i => exact absurd (Nat.le_of_ble_eq_true h5) (by simp [exK])
            · cases h6
          · cases h6
        · cases h2

/-- A closed run, shown by the kernel. -/
theorem Fp.quick {n : Nat} {f : FuncId} {args : List Value} {h : AH} {k : Value → AH → Nat → Bool} (hk : true = runK T n f args h k) : Fp T f args h fun v h' low => k v h' low = true := by
  obtain ⟨v, h', low, h1, h2⟩ := runK_ok (T := T) n f args h k hk.symm
  exact ⟨v, h', low, ⟨n, h1⟩, h2⟩

end Go.Vae

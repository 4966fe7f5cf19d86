/- Calls with answers that are known already, and the same whatever the frame at work. Conditions: none. -/
import Derived.Test.YtpkimnaenlbbjaaGreatM20
namespace Go.Proofs.YtpkimnaenlbbjaaGreat.AM
open Go

/-- Known answers. -/
abbrev Memo := FuncId → List AV → Hp → Option (AV × Hp)

/-- Calls: what is known is not carried out again. -/
def callM (F : FuncId → Option AF) (memo : Memo) : Nat → Call
  | 0, _, _, _ => .no
  | n + 1, f, args, h =>
    match memo f args h with
    | some r => .ret r
    | none => match F f with
      | some fn => if args.length ≤ fn.ntm then enter (callM F memo n) n fn args h else .no
      | none => .no

/-- The function answers so, whatever the world's frame. -/
def Meets (P : Program) (f : FuncId) (args : List AV) (h : Hp) (v : AV) (h' : Hp) : Prop :=
  (∃ fn, P.funcs[f]? = some fn ∧ (fn.name == "runtime.NumGoroutine") = false ∧ fn.body.isSome = true) ∧
  ∀ (s : KS) (B0 : Nat) (O : Nat → Prop) (n0 : Nat) (r : PM) (FP : Nat → List Nat) (w : World) (args' : Array Value), St B0 O n0 r FP h w s → VRs r args args'.toList →
    Calls P f args' w fun e w' => ∃ r' FP' v', e = .returned v' ∧ r.le r' ∧ VR r' v v' ∧ St B0 O n0 r' FP' h' w' s ∧ Keep O n0 w w'

def MemoOK (P : Program) (memo : Memo) : Prop := ∀ f args h r, memo f args h = some r → Meets P f args h r.1 r.2

theorem callM_ok {P : Program} (hm : P.follows .mixedOrders = true) {F : FuncId → Option AF} (hF : ∀ f af, F f = some af → fnc P f af = true) {memo : Memo} (hmemo : MemoOK P memo) : ∀ n, CallOK P (callM F memo n) := by
  intro n
  induction n with
  | zero => intro f args h s v h' s' hr; cases hr
  | succ n ih =>
    intro f args h s v h' s' hr
    simp only [callM] at hr
    split at hr
    · rename_i r hme
      cases hr
      obtain ⟨h1, h2⟩ := hmemo f args h _ hme
      exact ⟨h1, fun B0 O n0 r FP w args' S hv => h2 s B0 O n0 r FP w args' S hv⟩
    · split at hr
      · rename_i af hf
        split at hr
        · rename_i hl
          exact enter_sim hm ih (hF f af hf) hl hr
        · cases hr
      · cases hr

/-- The whole answer, as it is checked. -/
def answers (a : Acc R) (ok : AV → Hp → Bool) : Bool :=
  match a with
  | .ret (v, h) => ok v h
  | _ => false

theorem answers_of {a : Acc R} {ok : AV → Hp → Bool} (h : answers a ok = true) : ∃ v h', a = .ret (v, h') ∧ ok v h' = true := by
  cases a with
  | ret r => exact ⟨r.1, r.2, rfl, h⟩
  | eff _ _ => cases h
  | no => cases h

/-- From a call that was reckoned: what the function does. -/
theorem meets_of {P : Program} (hm : P.follows .mixedOrders = true) {F : FuncId → Option AF} (hF : ∀ f af, F f = some af → fnc P f af = true) {memo : Memo} (hmemo : MemoOK P memo) {n : Nat} {f : FuncId} {args : List AV} {h : Hp} {v : AV} {h' : Hp} (hr : callM F memo n f args h = .ret (v, h')) : Meets P f args h v h' := by
  refine ⟨(callM_ok hm hF hmemo n f args h default v h' default (by rw [hr]; rfl)).1, fun s => ?_⟩
  exact (callM_ok hm hF hmemo n f args h s v h' s (by rw [hr]; rfl)).2

mutual
def Tr.eqb : Tr → Tr → Bool
  | .nil, .nil => true
  | .node l v r, .node l' v' r' => Tr.eqb l l' && Tr.oeqb v v' && Tr.eqb r r'
  | _, _ => false
def Tr.oeqb : Option Blk → Option Blk → Bool
  | none, none => true
  | some (.c z rows ro), some (.c z' rows' ro') => Nat.beq z z' && rowsEqb rows rows' && (ro == ro')
  | _, _ => false
def rowsEqb : List (List AV) → List (List AV) → Bool
  | [], [] => true
  | a :: r, a' :: r' => AV.eqbs a a' && rowsEqb r r'
  | _, _ => false
end

theorem rowsEqb_sound : ∀ (a b : List (List AV)), rowsEqb a b = true → a = b := by
  intro a
  induction a with
  | nil => intro b h; cases b <;> simp [rowsEqb] at h ⊢
  | cons x a ih =>
    intro b h
    cases b with
    | nil => simp [rowsEqb] at h
    | cons y b =>
      simp only [rowsEqb, Bool.and_eq_true] at h
      rw [AV.eqbs_sound _ _ h.1, ih b h.2]

theorem Tr.oeqb_sound : ∀ (a b : Option Blk), Tr.oeqb a b = true → a = b := by
  intro a b h
  unfold Tr.oeqb at h
  split at h
  · rfl
  · simp only [Bool.and_eq_true, Nat.beq_eq, beq_iff_eq] at h
    obtain ⟨⟨h1, h2⟩, h3⟩ := h
    rw [h1, rowsEqb_sound _ _ h2, h3]
  · cases h

theorem Tr.eqb_sound : ∀ (a b : Tr), Tr.eqb a b = true → a = b := by
  intro a
  induction a with
  | nil => intro b h; cases b <;> simp [Tr.eqb] at h ⊢
  | node l v r ihl ihr =>
    intro b h
    cases b with
    | nil => simp [Tr.eqb] at h
    | node l' v' r' =>
      simp only [Tr.eqb, Bool.and_eq_true] at h
      rw [ihl _ h.1.1, Tr.oeqb_sound _ _ h.1.2, ihr _ h.2]

def Hp.eqb (a b : Hp) : Bool := Nat.beq a.next b.next && Tr.eqb a.t b.t
theorem Hp.eqb_sound {a b : Hp} (h : Hp.eqb a b = true) : a = b := by
  simp only [Hp.eqb, Bool.and_eq_true, Nat.beq_eq] at h
  cases a; cases b
  simp only at h
  rw [h.1, Tr.eqb_sound _ _ h.2]

/-- A known call. -/
structure Known where
  f : FuncId
  args : List AV
  h : Hp
  v : AV
  h' : Hp

def memoOf : List Known → Memo
  | [], _, _, _ => none
  | k :: r, f, args, h => bif Nat.beq k.f f && AV.eqbs k.args args && Hp.eqb k.h h then some (k.v, k.h') else memoOf r f args h

def Known.ok (P : Program) (k : Known) : Prop := Meets P k.f k.args k.h k.v k.h'

theorem memoOf_ok {P : Program} : ∀ {l : List Known}, (∀ k, k ∈ l → k.ok P) → MemoOK P (memoOf l) := by
  intro l
  induction l with
  | nil => intro _ f args h r hr; cases hr
  | cons k l ih =>
    intro hl f args h r hr
    simp only [memoOf] at hr
    cases hc : (Nat.beq k.f f && AV.eqbs k.args args && Hp.eqb k.h h) with
    | true =>
      rw [hc] at hr
      simp only [cond_true, Option.some.injEq] at hr
      subst hr
      simp only [Bool.and_eq_true, Nat.beq_eq] at hc
      obtain ⟨⟨h1, h2⟩, h3⟩ := hc
      have := hl k (by simp)
      unfold Known.ok at this
      rw [h1, AV.eqbs_sound _ _ h2, Hp.eqb_sound h3] at this
      exact this
    | false =>
      rw [hc] at hr
      exact ih (fun k hk => hl k (by simp [hk])) f args h r hr

/-- A known call, reckoned. -/
def Known.reckon (F : FuncId → Option AF) (l : List Known) (n : Nat) (k : Known) : Bool :=
  answers (callM F (memoOf l) n k.f k.args k.h) fun v h => AV.eqb v k.v && Hp.eqb h k.h'

theorem Known.ok_of {P : Program} (hm : P.follows .mixedOrders = true) {F : FuncId → Option AF} (hF : ∀ f af, F f = some af → fnc P f af = true) {l : List Known} (hl : ∀ k, k ∈ l → k.ok P) {n : Nat} {k : Known} (h : k.reckon F l n = true) : k.ok P := by
  obtain ⟨v, h', h1, h2⟩ := answers_of h
  rw [Bool.and_eq_true] at h2
  have := meets_of hm hF (memoOf_ok hl) h1
  unfold Known.ok
  rw [← AV.eqb_sound _ _ h2.1, ← Hp.eqb_sound h2.2]
  exact this

end Go.Proofs.YtpkimnaenlbbjaaGreat.AM

/- The check that a simplified instruction is the program's operation, and what the plain ones do. Conditions: none. -/
import Derived.Test.YtpkimnaenlbbjaaGreatM2
namespace Go.Proofs.YtpkimnaenlbbjaaGreat.AM
open Go

def avc1 : Value → Option AV
  | .bool t => some (.b t)
  | .int k n => some (.i k n)
  | .string t => some (.s t)
  | .pointer none => some .np
  | .slice none 0 0 => some .ns
  | .nilFunc => some .nf
  | .nilIface => some .ni
  | _ => none

def avcs : List Value → Option (List AV)
  | [] => some []
  | v :: vs => match avc1 v, avcs vs with
    | some a, some as => some (a :: as)
    | _, _ => none

def avc : Value → Option AV
  | .agg cs => (avcs cs.toList).map .ag
  | v => avc1 v

theorem avc1_VR {r : PM} {v : Value} {a : AV} (h : avc1 v = some a) : VR r a v ∧ a.cell = true := by
  unfold avc1 at h
  split at h <;> first | (cases h; exact ⟨by simp only [VR], rfl⟩) | (cases h; done)

theorem avcs_VR {r : PM} : ∀ {l : List Value} {as : List AV}, avcs l = some as → VRs r as l ∧ as.all AV.cell = true := by
  intro l
  induction l with
  | nil => intro as h; simp only [avcs] at h; cases h; exact ⟨rfl, rfl⟩
  | cons v vs ih =>
    intro as h
    simp only [avcs] at h
    split at h
    · rename_i a as' h1 h2
      cases h
      obtain ⟨g1, g2⟩ := ih h2
      obtain ⟨f1, f2⟩ := avc1_VR (r := r) h1
      refine ⟨⟨v, vs, rfl, f1, g1⟩, ?_⟩
      simp [f2, g2]
    · cases h

theorem avc_VR {r : PM} {v : Value} {a : AV} (h : avc v = some a) : VR r a v := by
  unfold avc at h
  split at h
  · rename_i cs
    cases hc : avcs cs.toList with
    | none => rw [hc] at h; cases h
    | some as =>
      rw [hc] at h; cases h
      exact ⟨cs, rfl, (avcs_VR hc).1⟩
  · exact (avc1_VR h).1

def opdc (ntm : Nat) : Operand → Opd → Bool
  | .tmp t, .t n => Nat.beq t n && Nat.blt t ntm
  | .const v, .c a => match avc v with | some a' => AV.eqb a' a | none => false
  | .func f, .c (.fn g [] []) => Nat.beq f g
  | _, _ => false

def opdcs (ntm : Nat) : List Operand → List Opd → Bool
  | [], [] => true
  | o :: os, x :: xs => opdc ntm o x && opdcs ntm os xs
  | _, _ => false

def opdco (ntm : Nat) : Option Operand → Option Opd → Bool
  | none, none => true
  | some o, some x => opdc ntm o x
  | _, _ => false

section
variable {B0 : Nat} {O : Nat → Prop} {n0 ntm : Nat} {r : PM} {FP : Nat → List Nat} {dl : Nat → Option Nat} {e : Env} {h : Hp} {w : World} {s : KS} {a : Act}

theorem EV.of_VR {v : AV} {v' : Value} (hv : VR r v v') : EV r dl v v' := by
  cases v <;> first | exact hv | (simp only [VR] at hv)

theorem EV.mono {r' : PM} {dl' : Nat → Option Nat} (hr : r.le r') (hd : ∀ j b, dl j = some b → dl' j = some b) {v : AV} {v' : Value} (hv : EV r dl v v') : EV r' dl' v v' := by
  cases v <;> first
    | (obtain ⟨b, h1, h2⟩ := hv; exact ⟨b, hd _ _ h1, h2⟩)
    | exact VR.mono hr _ _ hv

theorem EV.VR_of {v : AV} {v' : Value} (hv : EV r dl v v') (hp : v.pass = true) : VR r v v' := by
  cases v <;> first | exact hv | (simp [AV.pass] at hp)

theorem opd_EV (F : Fst B0 O n0 ntm r FP dl e h w s a) {o : Operand} {x : Opd} (hk : opdc ntm o x = true) : EV r dl (x.ev e) (a.eval o) := by
  unfold opdc at hk
  split at hk
  · rename_i t n
    simp only [Bool.and_eq_true, Nat.beq_eq, Nat.blt_eq] at hk
    obtain ⟨h1, h2⟩ := hk
    subst h1
    exact F.tmp t h2
  · rename_i v a'
    split at hk
    · rename_i a'' hv
      have := AV.eqb_sound _ _ hk
      subst this
      exact EV.of_VR (avc_VR hv)
    · cases hk
  · rename_i f g
    have := Nat.eq_of_beq_eq_true hk
    subst this
    exact ⟨#[], #[], rfl, rfl, rfl⟩
  · cases hk

theorem opds_EV (F : Fst B0 O n0 ntm r FP dl e h w s a) : ∀ {os : List Operand} {xs : List Opd}, opdcs ntm os xs = true →
    (xs.map (Opd.ev e)).all AV.pass = true → VRs r (xs.map (Opd.ev e)) (os.map a.eval) := by
  intro os
  induction os with
  | nil => intro xs hk _; cases xs with | nil => rfl | cons _ _ => simp [opdcs] at hk
  | cons o os ih =>
    intro xs hk hp
    cases xs with
    | nil => simp [opdcs] at hk
    | cons x xs =>
      simp only [opdcs, Bool.and_eq_true] at hk
      simp only [List.map_cons, List.all_cons, Bool.and_eq_true] at hp
      exact ⟨_, _, rfl, (opd_EV F hk.1).VR_of hp.1, ih hk.2 hp.2⟩

/-- What an operation has come to: a value, or nothing. -/
def nv : Next → Option Value
  | .value v => some v
  | .skip => some undef
  | _ => none

/-- An operation that is no call has been carried out as the machine did it. -/
def Done (P : Program) (B0 : Nat) (O : Nat → Prop) (n0 ntm : Nat) (r : PM) (w : World) (s : KS) (a : Act) (o : Oper) (k : AV → Env → Hp → Acc R) (out : R × KS) (dl : Nat → Option Nat) (made : Option Nat) : Prop :=
  ∃ nx v' v e' h' w' r' FP' dl', (execOp a.eval o).run P w = .ok nx w' ∧ nv nx = some v' ∧ Fst B0 O n0 ntm r' FP' dl' e' h' w' s a ∧ EV r' dl' v v' ∧ r.le r' ∧ Keep O n0 w w' ∧ (k v e' h').run s = some out ∧ ∀ j, dl j = none → made = some j ∨ dl' j = none

theorem Done.pure {P : Program} {o : Oper} {k : AV → Env → Hp → Acc R} {out : R × KS} {v : AV} {v' : Value} (F : Fst B0 O n0 ntm r FP dl e h w s a)
    (hr : (execOp a.eval o).run P w = .ok (.value v') w) (hv : EV r dl v v') (hk : (k v e h).run s = some out) {made : Option Nat} : Done P B0 O n0 ntm r w s a o k out dl made :=
  ⟨.value v', v', v, e, h, w, r, FP, dl, hr, rfl, F, hv, r.le_refl, Keep.refl _ _ _, hk, fun _ hj => .inr hj⟩

end
end Go.Proofs.YtpkimnaenlbbjaaGreat.AM

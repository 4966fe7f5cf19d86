/- The plain operations are carried out alike: moves, arithmetic, tests, addresses, parts. Conditions: none. -/
import Derived.Test.YtpkimnaenlbbjaaGreatM7
namespace Go.Proofs.YtpkimnaenlbbjaaGreat.AM
open Go

section
variable {P : Program} {B0 : Nat} {O : Nat → Prop} {n0 ntm : Nat} {r : PM} {FP : Nat → List Nat} {dl : Nat → Option Nat} {e : Env} {h : Hp} {w : World} {s : KS} {a : Act}

/-- The operations without memory: kind of the operands, and the operator. -/
def binc (P : Program) (t : TypeId) (ek : EqK) (x y : Operand) : Bool :=
  match ek, P.underlying t with
  | .int, some (.int _) => true
  | .bool, some .bool => true
  | .str, some .string => true
  | .ptr, some (.pointer _) => true
  | .slc, some (.slice _) => true
  | .fnc, some (.func _ _ _) => true
  | .ifc, some (.interface _) => Region.isConst x || Region.isConst y
  | _, _ => false

theorem EV_int {av : AV} {v : Value} {k : IntKind} {n : Int} (hv : EV r dl av v) (ha : av = .i k n) : v = .int k n := by subst ha; exact hv

theorem VR_int {k : IntKind} {n : Int} : VR r (.i k n) (.int k n) := by simp only [VR]
theorem VR_bool {t : Bool} : VR r (.b t) (.bool t) := by simp only [VR]
theorem VR_str {t : ByteArray} : VR r (.s t) (.string t) := by simp only [VR]

theorem run_shift {t : TypeId} {op : BinOp} {k l : IntKind} {n m : Int} {v : AV} (ho : op = .shl ∨ op = .shr) (hb : shiftBin op k n m = some v) :
    ∃ v', (Go.binOp op t (.int k n) (.int l m)).run P w = .ok v' w ∧ VR r v v' := by
  unfold shiftBin at hb
  split at hb
  · cases hb
  · rename_i hneg
    rcases ho with rfl | rfl
    · cases hb
      refine ⟨.int k _, ?_, VR_int⟩
      simp only [Go.binOp, Op.shift, hneg, if_false]
      rfl
    · cases hb
      refine ⟨.int k _, ?_, VR_int⟩
      simp only [Go.binOp, Op.shift, hneg, if_false]
      rfl

theorem run_intBin {t : TypeId} {op : BinOp} {k : IntKind} {n m : Int} {v : AV} (hb : intBin op k n m = some v) :
    ∃ v', (Go.binOp op t (.int k n) (.int k m)).run P w = .ok v' w ∧ VR r v v' := by
  cases op <;> simp only [intBin] at hb
  all_goals first
    | (cases hb; done)
    | (cases hb
       refine ⟨.int k _, ?_, VR_int⟩
       simp only [Go.binOp, ne_eq, not_true_eq_false, if_false, Op.intArith, Op.intBits]
       rfl)
    | (cases hb
       refine ⟨.bool _, ?_, VR_bool⟩
       simp only [Go.binOp, ne_eq, not_true_eq_false, if_false, Op.intCmp]
       rfl)
    | (split at hb
       · cases hb
       · rename_i hz
         cases hb
         refine ⟨.int k _, ?_, VR_int⟩
         simp only [Go.binOp, ne_eq, not_true_eq_false, if_false, Op.intDiv, hz]
         rfl)

theorem run_binOp_int {t : TypeId} {op : BinOp} {k l : IntKind} {n m : Int} {v : AV} (hb : binA .int op (.i k n) (.i l m) = some v) :
    ∃ v', (Go.binOp op t (.int k n) (.int l m)).run P w = .ok v' w ∧ VR r v v' := by
  unfold binA at hb
  dsimp only at hb
  split at hb
  · exact run_shift (.inl rfl) hb
  · exact run_shift (.inr rfl) hb
  · split at hb
    · rename_i hkl
      subst hkl
      exact run_intBin hb
    · cases hb

theorem run_equal_step {t : TypeId} {d : TypeDesc} (hu : P.underlying t = some d) {x y : Value} {f : TypeDesc → Value → Value → Sem Bool} (hf : ∀ d, Op.equalIn (d + 1) t x y = (do f (← underlying t) x y)) :
    (Op.equal t x y).run P w = (f d x y).run P w := by
  rw [Op.equal, Op.maxDepth, hf]
  simp only [Sem.run_bind, run_underlying' hu, Result.andThen_ok]

theorem run_eqGuard_int {op : BinOp} {t : TypeId} {x y : Operand} {k l : IntKind} {n m : Int} : (eqGuard op t x y (.int k n) (.int l m)).run P w = .ok () w := by
  unfold eqGuard; cases op <;> rfl

theorem run_equal_bool {t : TypeId} (hu : P.underlying t = some .bool) (x y : Bool) : (Op.equal t (.bool x) (.bool y)).run P w = .ok (x == y) w := by
  rw [Op.equal, Op.maxDepth, Op.equalIn]
  simp only [Sem.run_bind, run_underlying' hu, Result.andThen_ok, Sem.run_pure]

/-- A value that is held against nil. -/
theorem run_equal_nil {t : TypeId} {ek : EqK} {x y : Operand} {av bv : AV} {a' b' : Value} {o : Bool} (hk : binc P t ek x y = true) (ha : EV r dl av a') (hb : EV r dl bv b') (h : eqNil ek av bv = some o) :
    (Op.equal t a' b').run P w = .ok o w ∧ ∀ op, (eqGuard op t x y a' b').run P w = .ok () w := by
  unfold binc at hk
  unfold eqNil at h
  split at h <;> try (cases h; done)
  all_goals
    cases h
    split at hk <;> try (cases hk; done)
    all_goals first
      | (rename_i hne _; cases hne; done)
      | skip
  all_goals
    rename_i hu
    simp only [EV, VR] at ha hb
  all_goals first
    | (subst ha; subst hb
       refine ⟨?_, ?_⟩
       · rw [Op.equal, Op.maxDepth, Op.equalIn]
         simp only [Sem.run_bind, run_underlying' hu, Result.andThen_ok, Sem.run_pure, Option.isNone_none]
       · intro op
         unfold eqGuard
         cases op <;> first | rfl | (cases x <;> cases y <;> first | rfl | (simp [Region.isConst] at hk; done)))
    | (obtain ⟨_, _, rfl⟩ := ha; subst hb
       refine ⟨?_, ?_⟩
       · rw [Op.equal, Op.maxDepth, Op.equalIn]
         simp only [Sem.run_bind, run_underlying' hu, Result.andThen_ok, Sem.run_pure, Option.isNone_none]
       · intro op
         unfold eqGuard
         cases op <;> first | rfl | (cases x <;> cases y <;> simp_all [Region.isConst]; done))
    | (obtain ⟨_, _, rfl⟩ := hb; subst ha
       refine ⟨?_, ?_⟩
       · rw [Op.equal, Op.maxDepth, Op.equalIn]
         simp only [Sem.run_bind, run_underlying' hu, Result.andThen_ok, Sem.run_pure, Option.isNone_some]
       · intro op
         unfold eqGuard
         cases op <;> first | rfl | (cases x <;> cases y <;> simp_all [Region.isConst]; done))
    | (obtain ⟨_, rfl, _⟩ := ha; subst hb
       refine ⟨?_, ?_⟩
       · rw [Op.equal, Op.maxDepth, Op.equalIn]
         simp only [Sem.run_bind, run_underlying' hu, Result.andThen_ok, Sem.run_pure, Option.isNone_none]
       · intro op
         unfold eqGuard
         cases op <;> first | rfl | (cases x <;> cases y <;> simp_all [Region.isConst]; done))
    | (obtain ⟨_, rfl, _⟩ := hb; subst ha
       refine ⟨?_, ?_⟩
       · rw [Op.equal, Op.maxDepth, Op.equalIn]
         simp only [Sem.run_bind, run_underlying' hu, Result.andThen_ok, Sem.run_pure, Option.isNone_some]
       · intro op
         unfold eqGuard
         cases op <;> first | rfl | (cases x <;> cases y <;> simp_all [Region.isConst]; done))
    | (obtain ⟨_, _, _, rfl, _⟩ := ha; subst hb
       refine ⟨?_, ?_⟩
       · rw [Op.equal, Op.maxDepth, Op.equalIn]
         simp only [Sem.run_bind, run_underlying' hu, Result.andThen_ok, Sem.run_pure, Option.isNone_none]
         try simp
       · intro op
         unfold eqGuard
         cases op <;> first | rfl | (cases x <;> cases y <;> simp_all [Region.isConst]; done))
    | (obtain ⟨_, _, _, rfl, _⟩ := hb; subst ha
       refine ⟨?_, ?_⟩
       · rw [Op.equal, Op.maxDepth, Op.equalIn]
         simp only [Sem.run_bind, run_underlying' hu, Result.andThen_ok, Sem.run_pure, Option.isNone_some]
       · intro op
         unfold eqGuard
         cases op <;> first | rfl | (cases x <;> cases y <;> simp_all [Region.isConst]; done))
    | (obtain ⟨_, _, rfl, _⟩ := ha; subst hb
       refine ⟨?_, ?_⟩
       · rw [Op.equal, Op.maxDepth, Op.equalIn]
         simp only [Sem.run_bind, run_underlying' hu, Result.andThen_ok, Sem.run_pure, Option.isNone_none]
       · intro op
         unfold eqGuard
         cases op <;> first | rfl | (cases x <;> cases y <;> simp_all [Region.isConst]; done))
    | (obtain ⟨_, _, rfl, _⟩ := hb; subst ha
       refine ⟨?_, ?_⟩
       · rw [Op.equal, Op.maxDepth, Op.equalIn]
         simp only [Sem.run_bind, run_underlying' hu, Result.andThen_ok, Sem.run_pure, Option.isNone_some]
       · intro op
         unfold eqGuard
         cases op <;> first | rfl | (cases x <;> cases y <;> simp_all [Region.isConst]; done))

theorem run_bin {op : BinOp} {t : TypeId} {ek : EqK} {x y : Operand} {av bv v : AV} {a' b' : Value} (hk : binc P t ek x y = true) (hb : binA ek op av bv = some v) (ha : EV r dl av a') (hbv : EV r dl bv b') :
    ∃ v', ((do eqGuard op t x y a' b'; Go.binOp op t a' b') : Sem Value).run P w = .ok v' w ∧ VR r v v' := by
  have hnil : ∀ o, eqNil ek av bv = some o → ∀ op, (op = .eql ∧ v = .b o ∨ op = .neq ∧ v = .b (!o)) →
      ∃ v', ((do eqGuard op t x y a' b'; Go.binOp op t a' b') : Sem Value).run P w = .ok v' w ∧ VR r v v' := by
    intro o ho op hop
    obtain ⟨h1, h2⟩ := run_equal_nil (P := P) (w := w) hk ha hbv ho
    have hne : ∀ k n l m, ¬ (a' = .int k n ∧ b' = .int l m) := by
      rintro k n l m ⟨rfl, rfl⟩
      unfold eqNil at ho
      split at ho <;> first | (cases ho; done) | skip
      all_goals
        simp only [EV, VR] at ha hbv
        first
          | (cases ha; done)
          | (cases hbv; done)
    have hbo : ∀ op, op = .eql ∨ op = .neq → Go.binOp op t a' b' = (if op = .eql then (do pure (.bool (← Op.equal t a' b'))) else (do pure (.bool (!(← Op.equal t a' b'))))) := by
      intro op hop
      unfold eqNil at ho
      split at ho <;> first | (cases ho; done) | skip
      all_goals
        simp only [EV, VR] at ha hbv
        first
          | (subst ha; subst hbv; rcases hop with rfl | rfl <;> rfl)
          | (obtain ⟨_, _, rfl⟩ := ha; subst hbv; rcases hop with rfl | rfl <;> rfl)
          | (obtain ⟨_, _, rfl⟩ := hbv; subst ha; rcases hop with rfl | rfl <;> rfl)
          | (obtain ⟨_, rfl, _⟩ := ha; subst hbv; rcases hop with rfl | rfl <;> rfl)
          | (obtain ⟨_, rfl, _⟩ := hbv; subst ha; rcases hop with rfl | rfl <;> rfl)
          | (obtain ⟨_, _, _, rfl, _⟩ := ha; subst hbv; rcases hop with rfl | rfl <;> rfl)
          | (obtain ⟨_, _, _, rfl, _⟩ := hbv; subst ha; rcases hop with rfl | rfl <;> rfl)
          | (obtain ⟨_, _, rfl, _⟩ := ha; subst hbv; rcases hop with rfl | rfl <;> rfl)
          | (obtain ⟨_, _, rfl, _⟩ := hbv; subst ha; rcases hop with rfl | rfl <;> rfl)
    rcases hop with ⟨rfl, rfl⟩ | ⟨rfl, rfl⟩
    · exact ⟨.bool o, by rw [hbo _ (.inl rfl), if_pos rfl]; simp only [Sem.run_bind, h2, h1, Result.andThen_ok, Sem.run_pure], VR_bool⟩
    · exact ⟨.bool (!o), by rw [hbo _ (.inr rfl), if_neg (by decide)]; simp only [Sem.run_bind, h2, h1, Result.andThen_ok, Sem.run_pure], VR_bool⟩
  cases ek with
  | int =>
    have : ∃ k n l m, av = .i k n ∧ bv = .i l m := by
      unfold binA at hb
      dsimp only at hb
      split at hb
      · exact ⟨_, _, _, _, rfl, rfl⟩
      · cases hb
    obtain ⟨k, n, l, m, rfl, rfl⟩ := this
    simp only [EV, VR] at ha hbv
    subst ha; subst hbv
    obtain ⟨v', h1, h2⟩ := run_binOp_int (P := P) (w := w) (r := r) (t := t) hb
    exact ⟨v', by simp only [Sem.run_bind, run_eqGuard_int, Result.andThen_ok, h1], h2⟩
  | bool =>
    have hu : P.underlying t = some .bool := by
      unfold binc at hk
      split at hk <;> first | (cases hk; done) | (rename_i hu; exact hu) | (rename_i hne _; cases hne; done)
    unfold binA at hb
    dsimp only at hb
    split at hb
    · cases hb
      simp only [EV, VR] at ha hbv
      subst ha; subst hbv
      refine ⟨.bool _, ?_, VR_bool⟩
      simp only [Sem.run_bind, eqGuard]
      show Result.andThen (Sem.run P (pure ()) w) _ = _
      simp only [Sem.run_pure, Result.andThen_ok, Go.binOp, Sem.run_bind, run_equal_bool hu]
    · cases hb
      simp only [EV, VR] at ha hbv
      subst ha; subst hbv
      refine ⟨.bool _, ?_, VR_bool⟩
      simp only [Sem.run_bind, eqGuard]
      show Result.andThen (Sem.run P (pure ()) w) _ = _
      simp only [Sem.run_pure, Result.andThen_ok, Go.binOp, Sem.run_bind, run_equal_bool hu]
    · cases hb
  | str =>
    unfold binA at hb
    dsimp only at hb
    split at hb
    · split at hb
      · cases hb
        simp only [EV, VR] at ha hbv
        subst ha; subst hbv
        exact ⟨.bool _, rfl, VR_bool⟩
      · cases hb
        simp only [EV, VR] at ha hbv
        subst ha; subst hbv
        exact ⟨.bool _, rfl, VR_bool⟩
      · split at hb
        · rename_i hsz
          cases hb
          simp only [EV, VR] at ha hbv
          subst ha; subst hbv
          refine ⟨.string _, ?_, VR_str⟩
          simp only [Sem.run_bind, eqGuard]
          show Result.andThen (Sem.run P (pure ()) w) _ = _
          simp only [Sem.run_pure, Result.andThen_ok, Go.binOp, Op.stringOp]
          rw [if_neg (by simp; omega)]
          rfl
        · cases hb
      · cases hb
    · cases hb
  | ptr =>
    unfold binA at hb
    dsimp only at hb
    split at hb
    · obtain ⟨o, h1, h2⟩ := Option.map_eq_some_iff.1 hb
      exact hnil o h1 _ (.inl ⟨rfl, h2.symm⟩)
    · obtain ⟨o, h1, h2⟩ := Option.map_eq_some_iff.1 hb
      exact hnil o h1 _ (.inr ⟨rfl, h2.symm⟩)
    · cases hb
  | slc =>
    unfold binA at hb
    dsimp only at hb
    split at hb
    · obtain ⟨o, h1, h2⟩ := Option.map_eq_some_iff.1 hb
      exact hnil o h1 _ (.inl ⟨rfl, h2.symm⟩)
    · obtain ⟨o, h1, h2⟩ := Option.map_eq_some_iff.1 hb
      exact hnil o h1 _ (.inr ⟨rfl, h2.symm⟩)
    · cases hb
  | fnc =>
    unfold binA at hb
    dsimp only at hb
    split at hb
    · obtain ⟨o, h1, h2⟩ := Option.map_eq_some_iff.1 hb
      exact hnil o h1 _ (.inl ⟨rfl, h2.symm⟩)
    · obtain ⟨o, h1, h2⟩ := Option.map_eq_some_iff.1 hb
      exact hnil o h1 _ (.inr ⟨rfl, h2.symm⟩)
    · cases hb
  | ifc =>
    unfold binA at hb
    dsimp only at hb
    split at hb
    · obtain ⟨o, h1, h2⟩ := Option.map_eq_some_iff.1 hb
      exact hnil o h1 _ (.inl ⟨rfl, h2.symm⟩)
    · obtain ⟨o, h1, h2⟩ := Option.map_eq_some_iff.1 hb
      exact hnil o h1 _ (.inr ⟨rfl, h2.symm⟩)
    · cases hb

theorem run_un {op : UnOp} {av v : AV} {a' : Value} (hb : unA op av = some v) (ha : EV r dl av a') : ∃ v', (Op.unary op a').run P w = .ok v' w ∧ VR r v v' := by
  unfold unA at hb
  split at hb
  · cases hb
    simp only [EV, VR] at ha
    subst ha
    exact ⟨.int _ _, rfl, VR_int⟩
  · cases hb
    simp only [EV, VR] at ha
    subst ha
    exact ⟨.bool _, rfl, VR_bool⟩
  · cases hb

end
end Go.Proofs.YtpkimnaenlbbjaaGreat.AM

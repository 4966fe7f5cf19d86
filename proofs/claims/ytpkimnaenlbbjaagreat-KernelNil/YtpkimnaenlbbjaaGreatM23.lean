/- From a law's run in the machine to the law's row. Conditions: none. -/
import Derived.Test.YtpkimnaenlbbjaaGreatM22
import Derived.Below
import Derived.Carry
namespace Go.Proofs.YtpkimnaenlbbjaaGreat.AM
open Go Go.RowKit

/-- What answers with nothing at hand answers so whatever is at hand. -/
theorem Meets.lift {P : Program} {f : FuncId} {v : AV} {h0 : Hp} (hv : ∀ r r' v', VR r v v' → VR r' v v') (hk : Meets P f [] Hp.empty v h0) (h : Hp) : Meets P f [] h v h := by
  refine ⟨hk.1, fun s B0 O n0 r FP w args' S ha => ?_⟩
  have S' : St B0 (fun _ => False) w.heap.size (fun _ => none) FP Hp.empty w s :=
    ⟨Nat.le_trans S.b0 S.low, fun b hb => hb.elim, Nat.le_refl _, fun id pl hp => (by cases hp), fun id B hB => (by rw [Hp.blk_empty] at hB; cases hB), fun id B hB => (by rw [Hp.blk_empty] at hB; cases hB), fun id id' B B' hB => (by rw [Hp.blk_empty] at hB; cases hB), fun id B hB => (by rw [Hp.blk_empty] at hB; cases hB)⟩
  refine (hk.2 s B0 _ _ _ FP w args' S' ha).mono fun e w' hq => ?_
  obtain ⟨r', FP', v', h1, _, h3, _, h5⟩ := hq
  have hkeep : ∀ k, k < w.heap.size → w'.heap[k]? = w.heap[k]? := fun k hk => h5.block k hk (fun hh => hh)
  refine ⟨r, FP, v', h1, r.le_refl, hv _ _ _ h3, ⟨S.b0, S.ob, Nat.le_trans S.low h5.size, S.dom, fun id B hB => ?_, S.own, S.apart, S.rob⟩, ⟨h5.os, h5.tape, h5.output, h5.size, fun k hk _ => hkeep k (Nat.lt_of_lt_of_le hk S.low)⟩⟩
  obtain ⟨pl, g1, g2⟩ := S.live id B hB
  exact ⟨pl, g1, g2.keep r.le_refl fun b hb => hkeep b (g2.lt b hb)⟩

/-- One function known to answer so, whatever is at hand. -/
def memo1 (f : FuncId) (v : AV) : Memo := fun g args h => bif Nat.beq g f then (match args with | [] => some (v, h) | _ => none) else none

theorem memo1_ok {P : Program} {f : FuncId} {v : AV} {h0 : Hp} (hv : ∀ r r' v', VR r v v' → VR r' v v') (hk : Meets P f [] Hp.empty v h0) : MemoOK P (memo1 f v) := by
  intro g args h r hr
  unfold memo1 at hr
  cases hg : Nat.beq g f with
  | false => rw [hg] at hr; cases hr
  | true =>
    rw [hg] at hr
    rw [Nat.beq_eq] at hg
    subst hg
    cases args with
    | nil => cases hr; exact hk.lift hv h
    | cons _ _ => cases hr

/-- The world from which a law's run begins. -/
theorem St.start (W : World) (s : KS) : St W.heap.size (fun _ => False) W.heap.size (fun _ => none) (fun _ => []) Hp.empty W s :=
  ⟨Nat.le_refl _, fun b hb => hb.elim, Nat.le_refl _, fun id pl hp => (by cases hp), fun id B hB => (by rw [Hp.blk_empty] at hB; cases hB), fun id B hB => (by rw [Hp.blk_empty] at hB; cases hB), fun id id' B B' hB => (by rw [Hp.blk_empty] at hB; cases hB), fun id B hB => (by rw [Hp.blk_empty] at hB; cases hB)⟩

theorem Keep.below {W W' : World} (h : Keep (fun _ => False) W.heap.size W W') : Below W.heap.size W W' :=
  ⟨h.os, h.tape, h.output, h.size, fun k hk => h.block k hk fun hh => hh⟩

/-- A law that answers true in the machine. -/
theorem law_calls {P : Program} {f : FuncId} {args : List AV} {args' : Array Value} {h h' : Hp} {r : PM} {FP : Nat → List Nat} {W : World} {s : KS} (S : St W.heap.size (fun _ => False) W.heap.size r FP h W s) (ha : VRs r args args'.toList)
    (hm : Meets P f args h (.b true) h') : Calls P f args' W fun e W' => e = .returned (.bool true) ∧ Below W.heap.size W W' := by
  refine (hm.2 s _ _ _ r FP W args' S ha).mono fun e w' hq => ?_
  obtain ⟨r', FP', v', rfl, _, h3, _, h5⟩ := hq
  simp only [VR] at h3
  subst h3
  exact ⟨rfl, h5.below⟩

/-- Arguments, one after the other, as they are read. -/
inductive ShAll : List TS → List AV → Hp → Prop
  | nil (h : Hp) : ShAll [] [] h
  | cons {t : TS} {ts : List TS} {a : AV} {as : List AV} {h : Hp} : (t.sz = 1 ∧ a.cell = true ∧ Sh t [a] h ∨ ∃ cs, a = .ag cs ∧ Sh t cs h) → ShAll ts as h → ShAll (t :: ts) (a :: as) h

end Go.Proofs.YtpkimnaenlbbjaaGreat.AM

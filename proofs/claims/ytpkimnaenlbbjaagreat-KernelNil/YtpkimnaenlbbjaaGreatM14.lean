/- A region with an open order: an operation that may come first gives the same when it comes first. No program in sight. Conditions: none. -/
import Derived.Test.YtpkimnaenlbbjaaGreatM5
namespace Go.Proofs.YtpkimnaenlbbjaaGreat.AM
open Go

inductive Cl where
  | P | L | S | A | E | X
  deriving DecidableEq

def AOp.cl : AOp → Cl
  | .alloc _ | .box _ _ | .bslice _ _ _ _ | .mkslice _ _ _ _ _ => .A
  | .allocD _ _ | .bslD _ _ _ _ _ => .S
  | .ld _ _ => .L
  | .st _ _ _ | .call _ _ | .callv _ _ | .app _ _ _ _ | .clear _ _ => .E
  | .allocS _ _ | .boxS _ _ _ | .bslS _ _ _ _ _ => .X
  | _ => .P

def AOp.opds : AOp → List Opd
  | .mv x | .box x _ | .boxS _ x _ | .ld _ x | .nilck x | .un _ x | .conv _ x | .fld _ _ x | .fad _ x | .ext x _ | .len x | .lens x | .clear _ x => [x]
  | .pick c a b => [c, a, b]
  | .alloc _ | .allocS _ _ | .allocD _ _ => []
  | .build _ ps | .bslice _ _ _ ps | .bslS _ _ _ _ ps | .bslD _ _ _ _ ps => ps.map fun q => q.2.2
  | .st _ a v => [a, v]
  | .bin _ _ x y | .ias _ x y | .iaa _ _ x y | .ixs x y | .max2 x y | .min2 x y => [x, y]
  | .mkfn _ f c => f ++ c
  | .mkslice _ _ _ l c => [l, c]
  | .slc _ x lo hi mx => x :: (lo.toList ++ hi.toList ++ mx.toList)
  | .call _ as => as
  | .callv f as => f :: as
  | .app _ _ s x => [s, x]

def Opd.tm : Opd → List Nat
  | .t n => [n]
  | .c _ => []

def AOper.rds (o : AOper) : List Nat := (match o.guard with | some (t, _) => [t] | none => []) ++ o.op.opds.flatMap Opd.tm

theorem map_ev {e E : Env} {l : List Opd} (h : ∀ x, x ∈ l → x.ev E = x.ev e) : l.map (Opd.ev E) = l.map (Opd.ev e) :=
  List.map_congr_left h

theorem parts_ev {e E : Env} {l : List (Nat × Nat × Opd)} (h : ∀ x, x ∈ l.map (fun q => q.2.2) → x.ev E = x.ev e) : l.map (fun q => (q.1, q.2.1, q.2.2.ev E)) = l.map (fun q => (q.1, q.2.1, q.2.2.ev e)) := by
  refine List.map_congr_left fun q hq => ?_
  rw [h q.2.2 (List.mem_map.2 ⟨q, hq, rfl⟩)]

theorem omap_ev {e E : Env} {o : Option Opd} (h : ∀ x, x ∈ o.toList → x.ev E = x.ev e) : o.map (Opd.ev E) = o.map (Opd.ev e) := by
  cases o with
  | none => rfl
  | some x => simp [h x (by simp)]

/-- What is computed of operands alone. -/
theorem aop_P {β : Type} {o : AOp} (hc : o.cl = .P) {call : Call} {e : Env} {h : Hp} {k : AV → Env → Hp → Acc β} {s : KS} {out : β × KS} (hr : (aop call o e h k).run s = some out) :
    ∃ v, (k v e h).run s = some out ∧ ∀ (γ : Type) (E : Env) (H : Hp) (k' : AV → Env → Hp → Acc γ), (∀ x, x ∈ o.opds → x.ev E = x.ev e) → aop call o E H k' = k' v E H := by
  cases o <;> first | (cases hc; done) | skip
  case mv x => exact ⟨_, hr, fun γ E H k' ha => by simp only [aop, ha x (by simp [AOp.opds])]⟩
  case pick c a b =>
    simp only [aop] at hr
    split at hr
    · rename_i hb
      exact ⟨_, hr, fun γ E H k' ha => by simp only [aop, ha c (by simp [AOp.opds]), ha a (by simp [AOp.opds]), hb]⟩
    · rename_i hb
      exact ⟨_, hr, fun γ E H k' ha => by simp only [aop, ha c (by simp [AOp.opds]), ha b (by simp [AOp.opds]), hb]⟩
    · cases hr
  case build z ps =>
    simp only [aop, Acc.orF] at hr
    split at hr
    · rename_i cs hcs
      exact ⟨_, hr, fun γ E H k' ha => by simp only [aop, Acc.orF, parts_ev ha, hcs]⟩
    · cases hr
  case nilck x =>
    simp only [aop] at hr
    split at hr <;> first | (cases hr; done) | skip
    all_goals
      rename_i hb
      exact ⟨_, hr, fun γ E H k' ha => by simp only [aop, ha x (by simp [AOp.opds]), hb]⟩
  case bin ek op x y =>
    simp only [aop, Acc.orF] at hr
    split at hr
    · rename_i v hv
      exact ⟨_, hr, fun γ E H k' ha => by simp only [aop, Acc.orF, ha x (by simp [AOp.opds]), ha y (by simp [AOp.opds]), hv]⟩
    · cases hr
  case un op x =>
    simp only [aop, Acc.orF] at hr
    split at hr
    · rename_i v hv
      exact ⟨_, hr, fun γ E H k' ha => by simp only [aop, Acc.orF, ha x (by simp [AOp.opds]), hv]⟩
    · cases hr
  case conv kd x =>
    simp only [aop] at hr
    split at hr
    · rename_i hb
      exact ⟨_, hr, fun γ E H k' ha => by simp only [aop, ha x (by simp [AOp.opds]), hb]⟩
    · cases hr
  case mkfn f fi ca =>
    simp only [aop] at hr
    split at hr
    · rename_i hb
      refine ⟨_, hr, fun γ E H k' ha => ?_⟩
      have h1 := map_ev (l := fi) fun x hx => ha x (by simp [AOp.opds, hx])
      have h2 := map_ev (l := ca) fun x hx => ha x (by simp [AOp.opds, hx])
      simp only [aop, h1, h2, hb, if_true]
    · cases hr
  case slc z x lo hi mx =>
    simp only [aop, Acc.orF] at hr
    split at hr
    · rename_i v hv
      refine ⟨_, hr, fun γ E H k' ha => ?_⟩
      have h1 := omap_ev (o := lo) fun x hx => ha x (by simp only [AOp.opds, List.mem_cons, List.mem_append]; exact .inr (.inl (.inl hx)))
      have h2 := omap_ev (o := hi) fun x hx => ha x (by simp only [AOp.opds, List.mem_cons, List.mem_append]; exact .inr (.inl (.inr hx)))
      have h3 := omap_ev (o := mx) fun x hx => ha x (by simp only [AOp.opds, List.mem_cons, List.mem_append]; exact .inr (.inr hx))
      simp only [aop, Acc.orF, h1, h2, h3, ha x (by simp [AOp.opds]), hv]
    · cases hr
  case fld off n x =>
    simp only [aop] at hr
    split at hr
    · rename_i cs hb
      cases n with
      | none =>
        simp only [Acc.orF] at hr
        split at hr
        · rename_i v hv
          exact ⟨_, hr, fun γ E H k' ha => by simp only [aop, Acc.orF, ha x (by simp [AOp.opds]), hb, hv]⟩
        · cases hr
      | some m =>
        dsimp only at hr
        split at hr
        · rename_i hm
          exact ⟨_, hr, fun γ E H k' ha => by simp only [aop, ha x (by simp [AOp.opds]), hb, if_pos hm]⟩
        · cases hr
    · cases hr
  case fad off x =>
    simp only [aop] at hr
    split at hr <;> first | (cases hr; done) | skip
    all_goals
      rename_i hb
      exact ⟨_, hr, fun γ E H k' ha => by simp only [aop, ha x (by simp [AOp.opds]), hb]⟩
  case ias z x i =>
    simp only [aop] at hr
    split at hr
    · rename_i h1 h2
      split at hr
      · rename_i hm
        exact ⟨_, hr, fun γ E H k' ha => by simp only [aop, ha x (by simp [AOp.opds]), ha i (by simp [AOp.opds]), h1, h2, if_pos hm]⟩
      · cases hr
    · cases hr
  case iaa len sz x i =>
    simp only [aop] at hr
    split at hr
    · rename_i h2
      split at hr
      · rename_i hm
        split at hr <;> first | (cases hr; done) | skip
        all_goals
          rename_i hb
          exact ⟨_, hr, fun γ E H k' ha => by simp only [aop, ha x (by simp [AOp.opds]), ha i (by simp [AOp.opds]), hb, h2, if_pos hm]⟩
      · cases hr
    · cases hr
  case ixs x i =>
    simp only [aop] at hr
    split at hr
    · rename_i h1 h2
      split at hr
      · rename_i hm
        exact ⟨_, hr, fun γ E H k' ha => by simp only [aop, ha x (by simp [AOp.opds]), ha i (by simp [AOp.opds]), h1, h2, if_pos hm]⟩
      · cases hr
    · cases hr
  case ext x ix =>
    simp only [aop] at hr
    split at hr
    · rename_i h1
      simp only [Acc.orF] at hr
      split at hr
      · rename_i v hv
        exact ⟨_, hr, fun γ E H k' ha => by simp only [aop, Acc.orF, ha x (by simp [AOp.opds]), h1, hv]⟩
      · cases hr
    · cases hr
  case len x =>
    simp only [aop, Acc.orF] at hr
    split at hr
    · rename_i v hv
      exact ⟨_, hr, fun γ E H k' ha => by simp only [aop, Acc.orF, ha x (by simp [AOp.opds]), hv]⟩
    · cases hr
  case lens x =>
    simp only [aop, Acc.orF] at hr
    split at hr
    · rename_i v hv
      exact ⟨_, hr, fun γ E H k' ha => by simp only [aop, Acc.orF, ha x (by simp [AOp.opds]), hv]⟩
    · cases hr
  case max2 x y =>
    simp only [aop] at hr
    split at hr
    · rename_i h1 h2
      split at hr
      · rename_i hm
        exact ⟨_, hr, fun γ E H k' ha => by simp only [aop, ha x (by simp [AOp.opds]), ha y (by simp [AOp.opds]), h1, h2, if_pos hm]⟩
      · cases hr
    · cases hr
  case min2 x y =>
    simp only [aop] at hr
    split at hr
    · rename_i h1 h2
      split at hr
      · rename_i hm
        exact ⟨_, hr, fun γ E H k' ha => by simp only [aop, ha x (by simp [AOp.opds]), ha y (by simp [AOp.opds]), h1, h2, if_pos hm]⟩
      · cases hr
    · cases hr

/-- A variable of the stack. -/
theorem aop_S {β : Type} {o : AOp} {sl : Nat} (hc : o.slotD = some sl) {call : Call} {e : Env} {h : Hp} {k : AV → Env → Hp → Acc β} {s : KS} {out : β × KS} (hr : (aop call o e h k).run s = some out) :
    ∃ v cs, (k v (e.set sl (.ag cs)) h).run s = some out ∧ ∀ (γ : Type) (E : Env) (H : Hp) (k' : AV → Env → Hp → Acc γ), (∀ x, x ∈ o.opds → x.ev E = x.ev e) → aop call o E H k' = k' v (E.set sl (.ag cs)) H := by
  cases o <;> first | (cases hc; done) | skip
  case allocD sl' cells =>
    cases hc
    simp only [aop] at hr
    split at hr
    · rename_i hm
      exact ⟨_, _, hr, fun γ E H k' ha => by simp only [aop, if_pos hm]⟩
    · cases hr
  case bslD sl' sz n z ps =>
    cases hc
    simp only [aop, Acc.orF] at hr
    split at hr
    · rename_i cs hcs
      exact ⟨_, _, hr, fun γ E H k' ha => by simp only [aop, Acc.orF, parts_ev ha, hcs]⟩
    · cases hr

/-- A new block. -/
theorem aop_A {β : Type} {o : AOp} (hc : o.cl = .A) {call : Call} {e : Env} {h : Hp} {k : AV → Env → Hp → Acc β} {s : KS} {out : β × KS} (hr : (aop call o e h k).run s = some out) :
    ∃ (f : Nat → AV) (B : Blk), (k (f h.next) e (h.new B)).run s = some out ∧ ∀ (γ : Type) (E : Env) (H : Hp) (k' : AV → Env → Hp → Acc γ), (∀ x, x ∈ o.opds → x.ev E = x.ev e) → aop call o E H k' = k' (f H.next) E (H.new B) := by
  cases o <;> first | (cases hc; done) | skip
  case alloc cells =>
    simp only [aop] at hr
    split at hr
    · rename_i hm
      exact ⟨fun n => .p n 0 0, _, hr, fun γ E H k' ha => by simp only [aop, if_pos hm]⟩
    · cases hr
  case box x sz =>
    simp only [aop] at hr
    split at hr
    · rename_i hm
      exact ⟨fun n => .p n 0 0, _, hr, fun γ E H k' ha => by simp only [aop, ha x (by simp [AOp.opds]), if_pos hm]⟩
    · cases hr
  case bslice sz n z ps =>
    simp only [aop, Acc.orF] at hr
    split at hr
    · rename_i cs hcs
      exact ⟨fun m => .sl sz m 0 n true, _, hr, fun γ E H k' ha => by simp only [aop, Acc.orF, parts_ev ha, hcs]⟩
    · cases hr
  case mkslice sz z by_ l c =>
    simp only [aop] at hr
    split at hr
    · rename_i n _ m h1 h2
      split at hr
      · rename_i hm
        exact ⟨fun x => .sl sz x 0 n.toNat true, _, hr, fun γ E H k' ha => by simp only [aop, ha l (by simp [AOp.opds]), ha c (by simp [AOp.opds]), h1, h2, if_pos hm]⟩
      · cases hr
    · cases hr

end Go.Proofs.YtpkimnaenlbbjaaGreat.AM

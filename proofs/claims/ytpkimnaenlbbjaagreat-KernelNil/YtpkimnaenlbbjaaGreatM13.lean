/- Calls and regions without an open order: carried out alike. Conditions: none. -/
import Derived.Test.YtpkimnaenlbbjaaGreatM12
import Derived.Orders
namespace Go.Proofs.YtpkimnaenlbbjaaGreat.AM
open Go

section
variable {P : Program} {B0 : Nat} {O : Nat → Prop} {n0 ntm : Nat} {r : PM} {FP : Nat → List Nat} {dl : Nat → Option Nat} {e : Env} {h : Hp} {w : World} {s : KS} {a : Act}

/-- What may be known at the end of a call of the frame's. -/
def After (B0 : Nat) (O : Nat → Prop) (n0 ntm : Nat) (r : PM) (dl : Nat → Option Nat) (e : Env) (h' : Hp) (s' : KS) (w : World) (a : Act) (v : AV) : Ending → World → Prop
  | .returned v', w' => ∃ r' FP', r.le r' ∧ VR r' v v' ∧ Fst B0 O n0 ntm r' FP' dl e h' w' s' a ∧ Keep O n0 w w'
  | _, _ => False

/-- A call out of a function at work. -/
theorem call_sim (F : Fst B0 O n0 ntm r FP dl e h w s a) {call : Call} (hcall : CallOK P call) {f : FuncId} {args : List AV} {args' : Array Value} {v : AV} {h' : Hp} {s' : KS} (hr : (call f args h).run s = some ((v, h'), s')) (ha : VRs r args args'.toList) :
    (∃ fn, P.funcs[f]? = some fn ∧ (fn.name == "runtime.NumGoroutine") = false ∧ fn.body.isSome = true) ∧ Calls P f args' w (After B0 O n0 ntm r dl e h' s' w a v) := by
  obtain ⟨h1, h2⟩ := hcall f args h s v h' s' hr
  refine ⟨h1, ?_⟩
  have hown : ∀ b, (∃ id B, h.blk id = some B ∧ B.ro = false ∧ b ∈ FP id) → O b ∨ n0 ≤ b := by
    rintro b ⟨id, B, g1, g2, g3⟩
    exact F.st.own id B g1 g2 b g3
  have S' : St B0 (fun b => ∃ id B, h.blk id = some B ∧ B.ro = false ∧ b ∈ FP id) w.heap.size r FP h w s := by
    refine ⟨Nat.le_trans F.st.b0 F.st.low, ?_, Nat.le_refl _, F.st.dom, F.st.live, fun id B g1 g2 b g3 => .inl ⟨id, B, g1, g2, g3⟩, F.st.apart, F.st.rob⟩
    intro b hb
    rcases hown b hb with g | g
    · exact F.st.ob b g
    · exact Nat.le_trans F.st.b0 g
  refine (h2 B0 _ _ r FP w args' S' ha).mono fun e1 w' hq => ?_
  obtain ⟨r', FP', v', rfl, g1, g2, g3, g4⟩ := hq
  have hback : ∀ b, (∃ id B, h.blk id = some B ∧ B.ro = false ∧ b ∈ FP id) ∨ w.heap.size ≤ b → O b ∨ n0 ≤ b := by
    rintro b (hb | hb)
    · exact hown b hb
    · exact .inr (Nat.le_trans F.st.low hb)
  have S2 : St B0 O n0 r' FP' h' w' s' := ⟨F.st.b0, F.st.ob, Nat.le_trans F.st.low g4.size, g3.dom, g3.live, fun id B k1 k2 b k3 => hback b (g3.own id B k1 k2 b k3), g3.apart, g3.rob⟩
  have F2 := F.move S2 g1 g4.size (fun b hb _ hn => g4.block b hb (by
    rintro ⟨id, B, k1, k2, k3⟩
    exact hn id B k1 k2 k3)) (fun id B k1 k2 b k3 => g3.own id B k1 k2 b k3)
  refine ⟨r', FP', g1, g2, F2, ⟨g4.os, g4.tape, g4.output, g4.size, fun k hk ho => g4.block k (Nat.lt_of_lt_of_le hk F.st.low) ?_⟩⟩
  intro hb
  rcases hown k hb with g | g
  · exact ho g
  · omega

def guardc (ops : Array Oper) (ntm : Nat) : Option (Nat × Bool) → Option (Nat × Bool) → Bool
  | none, none => true
  | some (j, v), some (t, v') => (v == v') && (match (ops[j]?).bind (·.dst) with | some d => Nat.beq d t | none => false) && Nat.blt t ntm
  | _, _ => false

def dstc (ntm : Nat) : Option Nat → Option Nat → Bool
  | none, none => true
  | some d, some d' => Nat.beq d d' && Nat.blt d ntm
  | _, _ => false

def opc (P : Program) (ntm ntot : Nat) (ops : Array Oper) (i : Nat) (ao : AOper) : Bool :=
  match ops[i]? with
  | some o => dstc ntm o.dst ao.dst && guardc ops ntm o.guard ao.guard && opk P ntm ntot o.op ao.op
  | none => false

theorem dstc_of {d d' : Option Nat} (hk : dstc ntm d d' = true) : d = d' ∧ ∀ n, d = some n → n < ntm := by
  unfold dstc at hk
  split at hk
  · exact ⟨rfl, fun n h => by cases h⟩
  · rw [Bool.and_eq_true, Nat.beq_eq, Nat.blt_eq] at hk
    exact ⟨by rw [hk.1], fun n h => by cases h; exact hk.2⟩
  · cases hk

/-- What is told by the slot of a test. -/
theorem yielded_of (F : Fst B0 O n0 ntm r FP dl e h w s a) {ops : Array Oper} {j t : Nat} (hd : (ops[j]?).bind (·.dst) = some t) (ht : t < ntm) :
    (∀ b, e.getD t .unk = .b b → yielded ops a.tmps j = some b) ∧ (e.getD t .unk = .und → yielded ops a.tmps j = none) := by
  have hev := F.tmp t ht
  have hget : a.tmps[t]? = some (a.tmps.getD t undef) := by
    have : t < a.tmps.size := by rw [F.size]; exact ht
    simp [Array.getD, this]
  refine ⟨fun b hb => ?_, fun hu => ?_⟩
  · rw [hb] at hev
    simp only [EV, VR] at hev
    rw [hev] at hget
    simp [yielded, hd, hget]
  · rw [hu] at hev
    simp only [EV, VR] at hev
    rw [hev] at hget
    simp [yielded, hd, hget]

theorem chk_run {β : Type} {e : Env} {h : Hp} : ∀ {l : List (Option Nat × Opd × Opd)} {k : Acc β} {s : KS} {out : β × KS}, (chk e h l k).run s = some out →
    k.run s = some out ∧ ∀ x, x ∈ l → ldA e h x.1 (x.2.1.ev e) = some (x.2.2.ev e) := by
  intro l
  induction l with
  | nil => intro k s out hr; exact ⟨hr, fun x hx => by cases hx⟩
  | cons y l ih =>
    intro k s out hr
    obtain ⟨n, p, v⟩ := y
    simp only [chk] at hr
    split at hr
    · rename_i v' hv
      split at hr
      · rename_i heq
        obtain ⟨g1, g2⟩ := ih hr
        have := AV.eqb_sound _ _ heq
        refine ⟨g1, fun x hx => ?_⟩
        rcases List.mem_cons.1 hx with rfl | hx
        · rw [hv, this]
        · exact g2 x hx
      · cases hr
    · cases hr

/-- One operation that is carried out, calls among them. -/
theorem oper_sim (F : Fst B0 O n0 ntm r FP dl e h w s a) {call : Call} (hcall : CallOK P call) {ntot : Nat} {o : Oper} {ao : AOp} (hk : opk P ntm ntot o.op ao = true) {k : AV → Env → Hp → Acc R} {out : R × KS} (hr : (aop call ao e h k).run s = some out) (hD : ∀ sl, ao.slotD = some sl → dl sl = none)
    {next : Act → World → Prop} {Q : Exit → Act → World → Prop}
    (hn : ∀ v v' e' h' w' s' r' FP' dl', (∀ j, dl j = none → ao.slot1 = some j ∨ dl' j = none) → Fst B0 O n0 ntm r' FP' dl' e' h' w' s' a → EV r' dl' v v' → r.le r' → Keep O n0 w w' → (k v e' h').run s' = some out → next (a.put o.dst v') w') : o.wp P a w next Q := by
  have plain : ((∀ f as, ao ≠ .call f as) ∧ (∀ f as, ao ≠ .callv f as)) → o.wp P a w next Q := by
    intro hnc
    obtain ⟨nx, v', v, e', h', w', r', FP', dl', g1, g2, g3, g4, g5, g6, g7, g8⟩ := op_sim hk F hr hnc hD
    have := hn v v' e' h' w' s r' FP' dl' g8 g3 g4 g5 g6 g7
    unfold Oper.wp
    rw [g1]
    cases nx <;> simp only [nv] at g2 <;> first | (cases g2; done) | (cases g2; exact this)
  have calls : ∀ {f : FuncId} {args : List AV} {args' : Array Value}, (callA call f args h fun v h' => k v e h').run s = some out → VRs r args args'.toList →
      (execOp a.eval o).run P w = (callFunc f args').run P w → o.wp P a w next Q := by
    intro f args args' hr ha hex
    simp only [callA] at hr
    split at hr
    · rw [Acc.run_bind] at hr
      split at hr
      · rename_i v' s' hc
        obtain ⟨v, h'⟩ := v'
        obtain ⟨⟨fn, g1, g2, g3⟩, g4⟩ := call_sim F hcall hc ha
        unfold Oper.wp
        rw [hex]
        have hcf : (callFunc f args').run P w = .ok (.enter f args') w := by
          have hb : fn.body.isNone = false := by cases hq : fn.body <;> simp_all
          simp only [callFunc, Sem.run_bind, run_program, Result.andThen_ok, g1, g2, hb]
          rfl
        rw [hcf, Oper.upon_enter]
        refine g4.mono fun e1 w1 hq => ?_
        cases e1 with
        | returned v1 =>
          obtain ⟨r', FP', k1, k2, k3, k4⟩ := hq
          exact hn v v1 e h' w1 s' r' FP' dl (fun _ hj => .inr hj) k3 (EV.of_VR k2) k1 k4 hr
        | panicked c => exact hq.elim
        | outgrown => exact hq.elim
      · cases hr
    · cases hr
  cases ao with
  | call f as =>
    obtain ⟨dst, op, ty, pos, after, guard⟩ := o
    dsimp only at hk
    cases op <;> simp only [opk] at hk <;> try (cases hk; done)
    rename_i c
    obtain ⟨callee, args, argTypes⟩ := c
    cases callee with
    | value fo =>
      cases fo <;> simp only [opk] at hk <;> try (cases hk; done)
      rename_i g
      rw [Bool.and_eq_true, Nat.beq_eq] at hk
      obtain ⟨rfl, hargs⟩ := hk
      simp only [aop] at hr
      have hp : (as.map (Opd.ev e)).all AV.pass = true := by
        simp only [callA] at hr
        split at hr
        · assumption
        · cases hr
      refine calls (args' := args.map a.eval) hr (by simpa using opds_EV F hargs hp) ?_
      simp [execOp, resolve, Deferred.ofValue, Act.eval, invoke]
    | invoke _ _ => simp only [opk] at hk; cases hk
    | builtin b => cases b <;> simp only [opk] at hk <;> cases hk
  | callv f as =>
    obtain ⟨dst, op, ty, pos, after, guard⟩ := o
    dsimp only at hk
    cases op <;> simp only [opk] at hk <;> try (cases hk; done)
    rename_i c
    obtain ⟨callee, args, argTypes⟩ := c
    cases callee with
    | value fo =>
      cases fo <;> simp only [opk] at hk <;> try (cases hk; done)
      rename_i t
      rw [Bool.and_eq_true] at hk
      obtain ⟨hf, hargs⟩ := hk
      have hfe := opd_EV F hf
      simp only [aop] at hr
      split at hr
      · rename_i g first cap hfv
        rw [hfv] at hfe
        obtain ⟨fi', ca', g1, g2, g3⟩ := hfe
        have hp : (as.map (Opd.ev e)).all AV.pass = true := by
          simp only [callA] at hr
          split at hr
          · rename_i hall
            simp only [List.all_append, Bool.and_eq_true] at hall
            exact hall.1.2
          · cases hr
        refine calls (args' := fi' ++ args.map a.eval ++ ca') hr ?_ ?_
        · simp only [Array.toList_append, Array.toList_map]
          exact (g2.append (opds_EV F hargs hp)).append g3
        · have : a.eval (.tmp t) = .func (.func g) fi' ca' := g1
          simp [execOp, resolve, Deferred.ofValue, this, invoke]
      · cases hr
    | invoke _ _ => simp only [opk] at hk; cases hk
    | builtin b => cases b <;> simp only [opk] at hk <;> cases hk
  | _ => exact plain ⟨(fun _ _ h => by cases h), (fun _ _ h => by cases h)⟩

theorem putdef (a : Act) (d : Option Nat) (v : Value) : (a.put d v).defers = a.defers := by cases d <;> rfl

/-- One operation, its guard and all. -/
theorem oper1_sim {call : Call} (hcall : CallOK P call) {ntot : Nat} {ops : Array Oper} {Q : Exit → Act → World → Prop} {K : Act → World → Prop} {k : Env → Hp → Acc R} {out : R × KS} {i : Nat} {ao : AOper} {aos : List AOper}
    (hop : opc P ntm ntot ops i ao = true) (hD : ∀ sl, ao.op.slotD = some sl → dl sl = none) (F : Fst B0 O n0 ntm r FP dl e h w s a) (hr : (runOps call (ao :: aos) e h k).run s = some out)
    (hn : ∀ e' h' w' s' r' FP' dl' a', (∀ j, dl j = none → ao.op.slot1 = some j ∨ dl' j = none) → Fst B0 O n0 ntm r' FP' dl' e' h' w' s' a' → r.le r' → Keep O n0 w w' → a'.defers = a.defers → (runOps call aos e' h' k).run s' = some out → K a' w') :
    wpOp P ops Q i K a w := by
  unfold opc at hop
  unfold wpOp
  split at hop
  · rename_i o ho
    simp only [Bool.and_eq_true] at hop
    obtain ⟨⟨hd, hg⟩, hk⟩ := hop
    obtain ⟨hd1, hd2⟩ := dstc_of hd
    simp only [ho]
    have yes : ∀ {e1 : Env}, Fst B0 O n0 ntm r FP dl e1 h w s a → (aop call ao.op e1 h fun v e' h' => chk (setD e' ao.dst v) h' ao.re (runOps call aos (setD e' ao.dst v) h' k)).run s = some out → o.wp P a w K Q := by
      intro e1 F1 hr1
      refine oper_sim F1 hcall hk hr1 hD fun v v' e' h' w' s' r' FP' dl' hdl F2 hv hle hkeep hr2 => ?_
      have hr3 := (chk_run hr2).1
      exact hn _ _ _ _ _ _ _ _ hdl (F2.put (d := o.dst) hv hd2) hle hkeep (putdef _ _ _) (by rw [← hd1] at hr3; exact hr3)
    have no : ∀ {e1 : Env}, Fst B0 O n0 ntm r FP dl e1 h w s a → (runOps call aos (setD e1 ao.dst .und) h k).run s = some out → K (a.put o.dst undef) w := by
      intro e1 F1 hr1
      exact hn _ _ _ _ _ _ _ _ (fun _ hj => .inr hj) (F1.put (d := o.dst) (v := .und) (v' := undef) rfl hd2) r.le_refl (Keep.refl _ _ _) (putdef _ _ _) (by rw [← hd1] at hr1; exact hr1)
    simp only [runOps] at hr
    unfold guardc at hg
    split at hg
    · rename_i g1 g2
      rw [g2] at hr
      have : Region.wanted o (yielded ops a.tmps) = true := by unfold Region.wanted; rw [g1]
      rw [if_pos this]
      exact .inl (yes F hr)
    · rename_i j v t v' g1 g2
      simp only [Bool.and_eq_true, beq_iff_eq, Nat.blt_eq] at hg
      obtain ⟨⟨rfl, hg2⟩, ht⟩ := hg
      split at hg2
      · rename_i d hdd
        rw [Nat.beq_eq] at hg2
        subst hg2
        obtain ⟨y1, y2⟩ := yielded_of F hdd ht
        rw [g2] at hr
        dsimp only at hr
        split at hr
        · rename_i hb
          have hy := y1 true hb
          have F1 := F.lit hb ht
          split at hr
          · rename_i hv
            subst hv
            have : Region.wanted o (yielded ops a.tmps) = true := by unfold Region.wanted; rw [g1]; simp [hy]
            rw [if_pos this]
            exact .inl (yes F1 hr)
          · rename_i hv
            have : ¬ Region.wanted o (yielded ops a.tmps) = true := by unfold Region.wanted; rw [g1]; simp [hy]; simpa using hv
            rw [if_neg this]
            exact no F1 hr
        · rename_i hb
          have hy := y1 false hb
          have F1 := F.lit hb ht
          split at hr
          · rename_i hv
            subst hv
            have : ¬ Region.wanted o (yielded ops a.tmps) = true := by unfold Region.wanted; rw [g1]; simp [hy]
            rw [if_neg this]
            exact no F1 hr
          · rename_i hv
            have : Region.wanted o (yielded ops a.tmps) = true := by unfold Region.wanted; rw [g1]; simp [hy]; simpa using hv
            rw [if_pos this]
            exact .inl (yes F1 hr)
        · rename_i hb
          have hy := y2 hb
          have : ¬ Region.wanted o (yielded ops a.tmps) = true := by unfold Region.wanted; rw [g1]; simp [hy]
          rw [if_neg this]
          exact no F hr
        · cases hr
      · cases hg2
    · cases hg
  · cases hop

def opsc (P : Program) (ntm ntot : Nat) (ops : Array Oper) : List Nat → List AOper → Bool
  | [], [] => true
  | i :: is, ao :: aos => ao.op.slotD.isNone && opc P ntm ntot ops i ao && opsc P ntm ntot ops is aos
  | _, _ => false

/-- Operations in the order in which the instructions stand. -/
theorem ops_sim {call : Call} (hcall : CallOK P call) {ntot : Nat} {ops : Array Oper} {Q : Exit → Act → World → Prop} {k : Env → Hp → Acc R} {out : R × KS} : ∀ {is : List Nat} {aos : List AOper} {r : PM} {FP : Nat → List Nat} {dl : Nat → Option Nat} {e : Env} {h : Hp} {w : World} {s : KS} {a : Act},
    opsc P ntm ntot ops is aos = true → Fst B0 O n0 ntm r FP dl e h w s a → (runOps call aos e h k).run s = some out →
    (∀ e' h' w' s' r' FP' dl' a', Fst B0 O n0 ntm r' FP' dl' e' h' w' s' a' → r.le r' → Keep O n0 w w' → a'.defers = a.defers → (k e' h').run s' = some out → Q .normal a' w') →
    wpOps P ops Q is a w := by
  intro is
  induction is with
  | nil =>
    intro aos r FP dl e h w s a hk F hr hn
    cases aos with
    | nil => exact hn e h w s r FP dl a F r.le_refl (Keep.refl _ _ _) rfl hr
    | cons _ _ => simp [opsc] at hk
  | cons i is ih =>
    intro aos r FP dl e h w s a hk F hr hn
    cases aos with
    | nil => simp [opsc] at hk
    | cons ao aos =>
      simp only [opsc, Bool.and_eq_true] at hk
      obtain ⟨⟨hS, hop⟩, hrest⟩ := hk
      rw [wpOps_cons]
      refine oper1_sim hcall hop (fun sl hsl => by rw [hsl] at hS; cases hS) F hr fun e1 h1 w1 s1 r1 FP1 dl1 a1 _ F1 hle hkeep hdf hr1 => ?_
      refine ih hrest F1 hr1 fun e4 h4 w4 s4 r4 FP4 dl4 a4 F4 k1 k2 k3 k4 => ?_
      exact hn e4 h4 w4 s4 r4 FP4 dl4 a4 F4 (PM.le_trans hle k1) (hkeep.trans k2) (k3.trans hdf) k4

end
end Go.Proofs.YtpkimnaenlbbjaaGreat.AM

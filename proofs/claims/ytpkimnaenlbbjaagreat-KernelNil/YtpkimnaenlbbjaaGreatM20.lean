/- Whole functions: from the check to the call. Conditions: none. -/
import Derived.Test.YtpkimnaenlbbjaaGreatM19
import Derived.Laws.Sem
namespace Go.Proofs.YtpkimnaenlbbjaaGreat.AM
open Go

section
variable {P : Program} {B0 : Nat} {O : Nat → Prop} {n0 ntm : Nat}

def rvc (P : Program) (ntm : Nat) : ResultVar → RV → Bool
  | .tmp t, .t n => Nat.beq t n && Nat.blt t ntm
  | .cell t ty, .cell a n => Nat.beq t a && Nat.blt t ntm && ldc P ty n
  | _, _ => false

def rvcs (P : Program) (ntm : Nat) : List ResultVar → List RV → Bool
  | [], [] => true
  | a :: as, b :: bs => rvc P ntm a b && rvcs P ntm as bs
  | _, _ => false

def ngo (n : String) : Bool := n == "runtime.NumGoroutine"

def fnc (P : Program) (f : FuncId) (af : AF) : Bool :=
  match P.funcs[f]? with
  | some fn => !ngo fn.name && (match fn.body with | some c => cc P af.ntm (af.ntm + af.nsl) c af.body | none => false) && Nat.beq fn.ntmps af.ntm && rvcs P af.ntm fn.results.toList af.res
  | none => false

def resultOf (tmps : Array Value) : ResultVar → Sem Value
  | .tmp t => pure (tmps.getD t undef)
  | .cell a t => do loadVar t (← asAddr (tmps.getD a undef))

theorem resV_run {r : PM} {FP : Nat → List Nat} {dl : Nat → Option Nat} {e : Env} {h : Hp} {w : World} {s : KS} {a : Act} (F : Fst B0 O n0 ntm r FP dl e h w s a) {x : ResultVar} {rv : RV} (hk : rvc P ntm x rv = true) {v : AV} (hr : resV e h rv = some v) :
    ∃ v', (resultOf a.tmps x).run P w = .ok v' w ∧ EV r dl v v' := by
  cases x with
  | tmp t =>
    cases rv <;> simp only [rvc] at hk <;> try (cases hk; done)
    rw [Bool.and_eq_true, Nat.beq_eq, Nat.blt_eq] at hk
    obtain ⟨rfl, ht⟩ := hk
    cases hr
    exact ⟨_, by simp [resultOf], F.tmp t ht⟩
  | cell t ty =>
    cases rv <;> simp only [rvc] at hk <;> try (cases hk; done)
    simp only [Bool.and_eq_true, Nat.beq_eq, Nat.blt_eq] at hk
    obtain ⟨⟨rfl, ht⟩, hl⟩ := hk
    simp only [resV] at hr
    obtain ⟨v', g1, g2, _⟩ := run_loadVar (P := P) F hl (F.tmp t ht) hr
    obtain ⟨b, off, c, t1, fr, h1, h2, h3⟩ := ldA_cells F (F.tmp t ht) hr
    refine ⟨v', ?_, EV.of_VR g2⟩
    rw [h1] at g1
    simp only [resultOf, h1]
    simpa [Instr.loadAt, Instr.sureAddr, asAddr] using g1

theorem resVs_run {r : PM} {FP : Nat → List Nat} {dl : Nat → Option Nat} {e : Env} {h : Hp} {w : World} {s : KS} {a : Act} (F : Fst B0 O n0 ntm r FP dl e h w s a) : ∀ {xs : List ResultVar} {rs : List RV} {vs : List AV}, rvcs P ntm xs rs = true → resVs e h rs = some vs →
    ∃ vs', (xs.mapM (resultOf a.tmps)).run P w = .ok (vs' : List Value) w ∧ vs'.length = vs.length ∧ ∀ (i : Nat) (v : AV), vs[i]? = some v → ∃ v' : Value, vs'[i]? = some v' ∧ EV r dl v v' := by
  intro xs
  induction xs with
  | nil =>
    intro rs vs hk hr
    cases rs with
    | nil => cases hr; exact ⟨[], by simp, rfl, fun i v hv => by simp at hv⟩
    | cons _ _ => simp [rvcs] at hk
  | cons x xs ih =>
    intro rs vs hk hr
    cases rs with
    | nil => simp [rvcs] at hk
    | cons rv rs =>
      simp only [rvcs, Bool.and_eq_true] at hk
      simp only [resVs] at hr
      split at hr
      · rename_i v vs1 h1 h2
        cases hr
        obtain ⟨v', g1, g2⟩ := resV_run F hk.1 h1
        obtain ⟨vs', k1, k2, k3⟩ := ih hk.2 h2
        refine ⟨v' :: vs', by simp [g1, k1], by simp [k2], fun i u hu => ?_⟩
        cases i with
        | zero => simp at hu; subst hu; exact ⟨v', rfl, g2⟩
        | succ i => simp at hu; simpa using k3 i u hu
      · cases hr

theorem results_run {r : PM} {FP : Nat → List Nat} {dl : Nat → Option Nat} {e : Env} {h : Hp} {w : World} {s : KS} {a : Act} (F : Fst B0 O n0 ntm r FP dl e h w s a) {fn : Func} {rs : List RV} {v : AV} (hk : rvcs P ntm fn.results.toList rs = true) (hr : AM.results e h rs = some v) :
    ∃ v', (Go.results fn a.tmps).run P w = .ok v' w ∧ VR r v v' := by
  have hgo : Go.results fn a.tmps = (do let vs ← fn.results.mapM (resultOf a.tmps); pure (if h : vs.size = 1 then vs[0] else Value.tuple vs)) := by
    unfold Go.results
    congr 1
  have hm : fn.results.mapM (resultOf a.tmps) = List.toArray <$> fn.results.toList.mapM (resultOf a.tmps) := by
    rw [← List.mapM_toArray]
  rw [hgo, hm]
  unfold AM.results at hr
  split at hr
  · rename_i v0 h1
    split at hr
    · rename_i hp
      cases hr
      obtain ⟨vs', g1, g2, g3⟩ := resVs_run F hk h1
      obtain ⟨v', k1, k2⟩ := g3 0 v rfl
      refine ⟨v', ?_, k2.VR_of hp⟩
      cases vs' with
      | nil => simp at k1
      | cons y ys =>
        cases ys with
        | nil => simp at k1; subst k1; simp [g1, Sem.run_map]
        | cons _ _ => simp at g2
    · cases hr
  · rename_i vs hne h1
    split at hr
    · rename_i hp
      cases hr
      obtain ⟨vs', g1, g2, g3⟩ := resVs_run F hk h1
      refine ⟨.tuple vs'.toArray, ?_, ⟨_, rfl, ?_⟩⟩
      · have : ¬ vs'.length = 1 := by
          intro hh
          rw [g2] at hh
          match vs, hh with
          | [u], _ => exact hne u rfl
        simp [g1, Sem.run_map, this]
      · refine VRs.of_get (by simpa using g2) fun i x hx => ?_
        obtain ⟨y, k1, k2⟩ := g3 i x hx
        refine ⟨y, by simpa using k1, k2.VR_of ?_⟩
        exact List.all_eq_true.1 hp x (List.mem_of_getElem? hx)
    · cases hr
  · cases hr

/-- A function that is checked. -/
theorem enter_sim (hm : P.follows .mixedOrders = true) {call : Call} (hcall : CallOK P call) {n : Nat} {f : FuncId} {af : AF} (hk : fnc P f af = true) {args : List AV} (hargs : args.length ≤ af.ntm) {h : Hp} {s : KS} {v : AV} {h' : Hp} {s' : KS} (hr : (enter call n af args h).run s = some ((v, h'), s')) :
    (∃ fn, P.funcs[f]? = some fn ∧ (fn.name == "runtime.NumGoroutine") = false ∧ fn.body.isSome = true) ∧
    ∀ (B0 : Nat) (O : Nat → Prop) (n0 : Nat) (r : PM) (FP : Nat → List Nat) (w : World) (args' : Array Value), St B0 O n0 r FP h w s → VRs r args args'.toList →
      Calls P f args' w fun e w' => ∃ r' FP' v', e = .returned v' ∧ r.le r' ∧ VR r' v v' ∧ St B0 O n0 r' FP' h' w' s' ∧ Keep O n0 w w' := by
  unfold fnc at hk
  split at hk
  · rename_i fn hf
    simp only [Bool.and_eq_true, Nat.beq_eq, Bool.not_eq_true'] at hk
    obtain ⟨⟨⟨h1, h2⟩, h3⟩, h4⟩ := hk
    split at h2
    · rename_i c hb
      refine ⟨⟨fn, hf, h1, by rw [hb]; rfl⟩, ?_⟩
      intro B0 O n0 r FP w args' S hv
      have hlen : args'.size = args.length := by simpa using hv.length
      have F : Fst B0 O n0 af.ntm r FP (fun _ => none) (args ++ List.replicate (af.ntm - args.length) .und ++ List.replicate af.nsl .unk) h w s { tmps := args' ++ Array.replicate (fn.ntmps - args'.size) undef, defers := [] } := by
        refine ⟨S, by simp [h3, hlen]; omega, fun i hi => ?_, fun j cs hj hc => ?_, fun j b hb => (by cases hb), fun j b hb => (by cases hb), fun j j' b hb => (by cases hb)⟩
        · rw [List.append_assoc]
          rcases Nat.lt_or_ge i args.length with hlt | hge
          · obtain ⟨y, k1, k2⟩ := hv.get i args[i] (List.getElem?_eq_getElem hlt)
            have e1 : (args ++ (List.replicate (af.ntm - args.length) AV.und ++ List.replicate af.nsl AV.unk)).getD i AV.unk = args[i] := by
              rw [List.getD_eq_getElem?_getD, List.getElem?_append_left hlt, List.getElem?_eq_getElem hlt]; rfl
            have e2 : (args' ++ Array.replicate (fn.ntmps - args'.size) undef).getD i undef = y := by
              have k3 : args'[i]? = some y := by simpa using k1
              rw [Array.getD_eq_getD_getElem?, Array.getElem?_append_left (by omega), k3]; rfl
            rw [e1, e2]
            exact EV.of_VR k2
          · have e1 : (args ++ (List.replicate (af.ntm - args.length) AV.und ++ List.replicate af.nsl AV.unk)).getD i AV.unk = .und := by
              rw [List.getD_eq_getElem?_getD, List.getElem?_append_right hge, List.getElem?_append_left (by simp; omega), List.getElem?_replicate, if_pos (by omega)]; rfl
            have e2 : (args' ++ Array.replicate (fn.ntmps - args'.size) undef).getD i undef = undef := by
              rw [Array.getD_eq_getD_getElem?, Array.getElem?_append_right (by omega), Array.getElem?_replicate]
              split <;> rfl
            rw [e1, e2]
            exact EV.of_VR (by simp only [VR, undef])
        · exfalso
          rw [List.getD_eq_getElem?_getD] at hc
          have hl : (args ++ List.replicate (af.ntm - args.length) AV.und).length = af.ntm := by simp; omega
          rw [List.getElem?_append_right (by rw [hl]; exact hj), List.getElem?_replicate] at hc
          split at hc <;> simp at hc
      refine calls_of_wp hf hb ?_
      refine exec_sim hm hcall c af.body h2 F hr fun x e1 h1' w1 s1 r1 FP1 dl1 a1 F1 g1 g2 g3 g4 => ?_
      cases x with
      | ext id => cases g4
      | nrm =>
        obtain ⟨u, j1, j2⟩ := orF_run g4
        cases j2
        obtain ⟨v', k1, k2⟩ := results_run F1 h4 j1
        exact ⟨g3, v', k1, r1, FP1, v', rfl, g1, k2, F1.st, g2⟩
      | ret =>
        obtain ⟨u, j1, j2⟩ := orF_run g4
        cases j2
        obtain ⟨v', k1, k2⟩ := results_run F1 h4 j1
        exact ⟨g3, v', k1, r1, FP1, v', rfl, g1, k2, F1.st, g2⟩
    · cases h2
  · cases hk

end
end Go.Proofs.YtpkimnaenlbbjaaGreat.AM

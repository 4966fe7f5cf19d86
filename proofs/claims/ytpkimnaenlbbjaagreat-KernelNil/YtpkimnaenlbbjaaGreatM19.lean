/- Whole functions: the check that the simplified instructions are the program's, and what follows. Conditions: none. -/
import Derived.Test.YtpkimnaenlbbjaaGreatM18
namespace Go.Proofs.YtpkimnaenlbbjaaGreat.AM
open Go

section
variable {P : Program} {B0 : Nat} {O : Nat → Prop} {n0 ntm : Nat}

/-- The slots of a region are cleared. -/
theorem Fst.clears : ∀ {sl : List Nat} {r : PM} {FP : Nat → List Nat} {dl : Nat → Option Nat} {e : Env} {h : Hp} {w : World} {s : KS} {a : Act}, Fst B0 O n0 ntm r FP dl e h w s a → (∀ t, t ∈ sl → ntm ≤ t) →
    ∃ dl', Fst B0 O n0 ntm r FP dl' (clearSlots sl e) h w s a ∧ (∀ t, t ∈ sl → dl' t = none ∧ (clearSlots sl e).getD t .unk = .unk) ∧ ∀ t, dl t = none → e.getD t .unk = .unk → dl' t = none ∧ (clearSlots sl e).getD t .unk = .unk := by
  intro sl
  induction sl with
  | nil => intro r FP dl e h w s a F _; exact ⟨dl, F, fun t ht => by (cases ht), fun t h1 h2 => ⟨h1, h2⟩⟩
  | cons x sl ih =>
    intro r FP dl e h w s a F hs
    have F1 := F.clear (hs x (by simp))
    obtain ⟨dl', F2, g1, g2⟩ := ih F1 fun t ht => hs t (by simp [ht])
    have hone : ∀ t, dl t = none ∨ t = x → (e.getD t .unk = .unk ∨ t = x) → dl' t = none ∧ (clearSlots sl ((forgetSlot x e).set x .unk)).getD t .unk = .unk := by
      intro t h1 h2
      refine g2 t ?_ ?_
      · by_cases htx : t = x
        · simp [htx]
        · simp only [if_neg htx]; exact h1.resolve_right htx
      · rw [List.getD_set']
        split
        · rfl
        · rename_i hne
          rw [forget_get]
          by_cases htx : t = x
          · subst htx
            have : ¬ t < (forgetSlot t e).length := fun hh => hne ⟨rfl, hh⟩
            have hlen : (forgetSlot t e).length = e.length := by simp [forgetSlot]
            have : e.getD t .unk = .unk := by
              rw [List.getD_eq_getElem?_getD, List.getElem?_eq_none (by omega)]; rfl
            rw [this]
          · rw [h2.resolve_right htx]
    refine ⟨dl', F2, fun t ht => ?_, fun t h1 h2 => hone t (.inl h1) (.inl h2)⟩
    by_cases htx : t = x
    · exact hone t (.inr htx) (.inr htx)
    · rcases List.mem_cons.1 ht with ht | ht
      · exact absurd ht htx
      · exact g1 t ht

theorem Fst.drawn {r : PM} {FP : Nat → List Nat} {dl : Nat → Option Nat} {e : Env} {h : Hp} {w : World} {s : KS} {a : Act} (F : Fst B0 O n0 ntm r FP dl e h w s a) (d : Nat) : Fst B0 O n0 ntm r FP dl e h { w with drawn := d } s a := by
  have hbr : ∀ {pl : Pl} {B : Blk} {F : List Nat}, BR r w s pl B F → BR r { w with drawn := d } s pl B F := fun hb => BR.keep (w := w) r.le_refl (fun _ _ => rfl) hb
  refine ⟨⟨F.st.b0, F.st.ob, F.st.low, F.st.dom, fun id B hB => ?_, F.st.own, F.st.apart, F.st.rob⟩, F.size, F.tmp, F.slot, F.free, F.ge, F.alone⟩
  obtain ⟨pl, h1, h2⟩ := F.st.live id B hB
  exact ⟨pl, h1, hbr h2⟩

/-- A region with an open order. -/
theorem dreg_sim (hm : P.follows .mixedOrders = true) {call : Call} (hcall : CallOK P call) {ntot id : Nat} {ops : Array Oper} {sl ord : List Nat} {aos : List AOper} (hk : dregc P ntm ntot ops sl ord aos = true)
    {r : PM} {FP : Nat → List Nat} {dl : Nat → Option Nat} {e : Env} {h : Hp} {w : World} {s : KS} {a : Act} (F : Fst B0 O n0 ntm r FP dl e h w s a) {k : Env → Hp → Acc R} {out : R × KS} (hr : (runD call ntm aos (clearSlots sl e) h k).run s = some out)
    {Q : Exit → Act → World → Prop} (hn : ∀ e' h' w' s' r' FP' dl' a', Fst B0 O n0 ntm r' FP' dl' e' h' w' s' a' → r.le r' → Keep O n0 w w' → a'.defers = a.defers → (k e' h').run s' = some out → Q .normal a' w') :
    (Code.region id ops true).wp P Q a w := by
  obtain ⟨hR, h1, h2, h3, h4⟩ := dregc_of hk
  refine wp_region_any hm ?_
  obtain ⟨dl', F1, g1, _⟩ := (F.drawn (w.drawn + 1)).clears h4
  have htodo : todo (ord.zip aos) (Array.replicate ops.size false) = ord.zip aos := by
    refine List.filter_eq_self.2 fun p hp => ?_
    have : p.1 < ops.size := (hR.all p.1).2 (List.mem_map.2 ⟨p, hp, rfl⟩)
    simp [this]
  refine any_sim hcall hR (k := k) (out := out) ops.size _ (by simp) ?_ (by rw [htodo]; exact h2) (by rw [htodo, h1]; exact hr) ?_ F1 fun e4 h4' w4 s4 r4 FP4 dl4 a4 F4 k1 k2 k3 k4 => ?_
  · intro j oj _ hl
    rcases Nat.lt_or_ge j ops.size with hlt | hlt
    · simp [hlt] at hl
    · simp [hlt] at hl
  · intro p hp s hs
    rw [htodo] at hp
    have := g1 s (h3 p.2 (by rw [← h1]; exact List.mem_map.2 ⟨p, hp, rfl⟩) s hs)
    exact ⟨this.2, this.1⟩
  · exact hn e4 h4' w4 s4 r4 FP4 dl4 a4 F4 k1 ⟨k2.os, k2.tape, k2.output, k2.size, k2.block⟩ k3 k4

def cc (P : Program) (ntm ntot : Nat) : Code → AC → Bool
  | .skip, .skip => true
  | .region _ ops false, .reg aos => opsc P ntm ntot ops (List.range ops.size) aos
  | .region _ ops true, .dreg nt sl ord aos => Nat.beq nt ntm && dregc P ntm ntot ops sl ord aos
  | .seq a b, .seq a' b' => cc P ntm ntot a a' && cc P ntm ntot b b'
  | .cond c a b, .cond c' a' b' => opdc ntm c c' && cc P ntm ntot a a' && cc P ntm ntot b b'
  | .block id c, .block id' c' => Nat.beq id id' && cc P ntm ntot c c'
  | .loop c, .loop c' => cc P ntm ntot c c'
  | .exit id, .exit id' => Nat.beq id id'
  | .ret, .ret => true
  | _, _ => false

def exx : Ex → Exit
  | .nrm => .normal
  | .ext id => .exit id
  | .ret => .ret

/-- So many rounds of a loop at most. -/
def Rounds (P : Program) (c : Code) (Q : Exit → Act → World → Prop) : Nat → Act → World → Prop
  | 0, _, _ => False
  | n + 1, a, w => c.wp P (Exit.then (Rounds P c Q n) Q) a w

theorem exists_least {p : Nat → Prop} : ∀ {n : Nat}, p n → ∃ m, p m ∧ ∀ k, p k → m ≤ k := by
  intro n
  induction n using Nat.strongRecOn with
  | _ n ih =>
    intro hn
    by_cases h : ∃ k, k < n ∧ p k
    · obtain ⟨k, h1, h2⟩ := h
      exact ih k h1 h2
    · exact ⟨n, hn, fun k hk => Nat.le_of_not_lt fun hlt => h ⟨k, hlt, hk⟩⟩

open Classical in
theorem wp_rounds {c : Code} {Q : Exit → Act → World → Prop} {n : Nat} {a : Act} {w : World} (h : Rounds P c Q n a w) : (Code.loop c).wp P Q a w := by
  let μ : Act → World → Nat := fun a w => if hh : ∃ m, Rounds P c Q m a w ∧ ∀ k, Rounds P c Q k a w → m ≤ k then hh.choose else 0
  refine wp_loop (fun a w => ∃ m, Rounds P c Q m a w) μ ⟨n, h⟩ fun a w ⟨m, hm⟩ => ?_
  have hl := exists_least (p := fun m => Rounds P c Q m a w) hm
  have hμ : μ a w = hl.choose := dif_pos hl
  have hsp := hl.choose_spec
  revert hμ hsp
  generalize hl.choose = j
  intro hμ hsp
  cases j with
  | zero => exact hsp.1.elim
  | succ j =>
    refine wp_mono (hsp.1 : c.wp P (Exit.then (Rounds P c Q j) Q) a w) fun x a' w' hx => ?_
    cases x with
    | normal =>
      have hx' : Rounds P c Q j a' w' := hx
      refine (⟨⟨j, hx'⟩, ?_⟩ : (∃ m, Rounds P c Q m a' w') ∧ μ a' w' < μ a w)
      have hl' := exists_least (p := fun m => Rounds P c Q m a' w') hx'
      have hμ' : μ a' w' = hl'.choose := dif_pos hl'
      rw [hμ, hμ']
      exact Nat.lt_succ_of_le (hl'.choose_spec.2 j hx')
    | exit _ => exact hx
    | goto _ => exact hx
    | ret => exact hx
    | panic _ => exact hx
    | outgrown => exact hx

/-- What comes behind. -/
def Next (B0 : Nat) (O : Nat → Prop) (n0 ntm : Nat) (r : PM) (w : World) (a : Act) (k : Kont) (out : R × KS) (Q : Exit → Act → World → Prop) : Prop :=
  ∀ x e' h' w' s' r' FP' dl' a', Fst B0 O n0 ntm r' FP' dl' e' h' w' s' a' → r.le r' → Keep O n0 w w' → a'.defers = a.defers → (k x e' h').run s' = some out → Q (exx x) a' w'

theorem exec_sim (hm : P.follows .mixedOrders = true) {call : Call} (hcall : CallOK P call) {ntot n : Nat} : ∀ (c : Code) (ac : AC), cc P ntm ntot c ac = true →
    ∀ {r : PM} {FP : Nat → List Nat} {dl : Nat → Option Nat} {e : Env} {h : Hp} {w : World} {s : KS} {a : Act} {k : Kont} {out : R × KS} {Q : Exit → Act → World → Prop},
    Fst B0 O n0 ntm r FP dl e h w s a → (exec call n ac e h k).run s = some out → Next B0 O n0 ntm r w a k out Q → c.wp P Q a w := by
  intro c
  induction c with
  | skip =>
    intro ac hk r FP dl e h w s a k out Q F hr hn
    cases ac <;> simp only [cc] at hk <;> try (cases hk; done)
    exact wp_skip (hn .nrm e h w s r FP dl a F r.le_refl (Keep.refl _ _ _) rfl hr)
  | region id ops d =>
    intro ac hk r FP dl e h w s a k out Q F hr hn
    cases d with
    | false =>
      cases ac <;> simp only [cc] at hk <;> try (cases hk; done)
      simp only [exec] at hr
      exact wp_region (ops_sim hcall hk F hr fun e4 h4 w4 s4 r4 FP4 dl4 a4 F4 k1 k2 k3 k4 => hn .nrm e4 h4 w4 s4 r4 FP4 dl4 a4 F4 k1 k2 k3 k4)
    | true =>
      cases ac <;> simp only [cc] at hk <;> try (cases hk; done)
      rw [Bool.and_eq_true, Nat.beq_eq] at hk
      obtain ⟨rfl, hk⟩ := hk
      simp only [exec] at hr
      exact dreg_sim hm hcall hk F hr fun e4 h4 w4 s4 r4 FP4 dl4 a4 F4 k1 k2 k3 k4 => hn .nrm e4 h4 w4 s4 r4 FP4 dl4 a4 F4 k1 k2 k3 k4
  | seq c1 c2 ih1 ih2 =>
    intro ac hk r FP dl e h w s a k out Q F hr hn
    cases ac <;> simp only [cc] at hk <;> try (cases hk; done)
    rw [Bool.and_eq_true] at hk
    simp only [exec] at hr
    refine wp_seq (ih1 _ hk.1 F hr fun x e1 h1 w1 s1 r1 FP1 dl1 a1 F1 g1 g2 g3 g4 => ?_)
    cases x with
    | nrm =>
      refine (ih2 _ hk.2 F1 g4 fun x e2 h2 w2 s2 r2 FP2 dl2 a2 F2 k1 k2 k3 k4 => ?_ : c2.wp P Q a1 w1)
      exact hn x e2 h2 w2 s2 r2 FP2 dl2 a2 F2 (PM.le_trans g1 k1) (g2.trans k2) (k3.trans g3) k4
    | ext id => exact hn (.ext id) e1 h1 w1 s1 r1 FP1 dl1 a1 F1 g1 g2 g3 g4
    | ret => exact hn .ret e1 h1 w1 s1 r1 FP1 dl1 a1 F1 g1 g2 g3 g4
  | cond c c1 c2 ih1 ih2 =>
    intro ac hk r FP dl e h w s a k out Q F hr hn
    cases ac <;> simp only [cc] at hk <;> try (cases hk; done)
    simp only [Bool.and_eq_true] at hk
    obtain ⟨⟨h1, h2⟩, h3⟩ := hk
    have hc := opd_EV F h1
    simp only [exec] at hr
    split at hr
    · rename_i hb
      rw [hb] at hc
      exact wp_cond_true hc (ih1 _ h2 F hr hn)
    · rename_i hb
      rw [hb] at hc
      exact wp_cond_false hc (ih2 _ h3 F hr hn)
    · cases hr
  | block id c ih =>
    intro ac hk r FP dl e h w s a k out Q F hr hn
    cases ac <;> simp only [cc] at hk <;> try (cases hk; done)
    rw [Bool.and_eq_true, Nat.beq_eq] at hk
    obtain ⟨rfl, hk⟩ := hk
    simp only [exec] at hr
    refine wp_block (ih _ hk F hr fun x e1 h1 w1 s1 r1 FP1 dl1 a1 F1 g1 g2 g3 g4 => ?_)
    cases x with
    | nrm => exact hn .nrm e1 h1 w1 s1 r1 FP1 dl1 a1 F1 g1 g2 g3 g4
    | ret => exact hn .ret e1 h1 w1 s1 r1 FP1 dl1 a1 F1 g1 g2 g3 g4
    | ext j =>
      dsimp only at g4
      simp only [exx, Exit.inBlock]
      split at g4
      · rename_i hj
        rw [if_pos hj]
        exact hn .nrm e1 h1 w1 s1 r1 FP1 dl1 a1 F1 g1 g2 g3 g4
      · rename_i hj
        rw [if_neg hj]
        exact hn (.ext j) e1 h1 w1 s1 r1 FP1 dl1 a1 F1 g1 g2 g3 g4
  | loop c ih =>
    intro ac hk r FP dl e h w s a k out Q F hr hn
    cases ac <;> simp only [cc] at hk <;> try (cases hk; done)
    rename_i ac
    simp only [exec] at hr
    have key : ∀ m {r : PM} {FP : Nat → List Nat} {dl : Nat → Option Nat} {e : Env} {h : Hp} {w : World} {s : KS} {a : Act}, Fst B0 O n0 ntm r FP dl e h w s a → (iter (exec call n ac) m e h k).run s = some out → Next B0 O n0 ntm r w a k out Q → Rounds P c Q m a w := by
      intro m
      induction m with
      | zero => intro r FP dl e h w s a _ hr _; cases hr
      | succ m ihm =>
        intro r FP dl e h w s a F hr hn
        simp only [iter] at hr
        refine (ih _ hk F hr fun x e1 h1 w1 s1 r1 FP1 dl1 a1 F1 g1 g2 g3 g4 => ?_ : c.wp P (Exit.then (Rounds P c Q m) Q) a w)
        cases x with
        | nrm =>
          refine ihm F1 g4 fun x e2 h2 w2 s2 r2 FP2 dl2 a2 F2 k1 k2 k3 k4 => ?_
          exact hn x e2 h2 w2 s2 r2 FP2 dl2 a2 F2 (PM.le_trans g1 k1) (g2.trans k2) (k3.trans g3) k4
        | ext id => exact hn (.ext id) e1 h1 w1 s1 r1 FP1 dl1 a1 F1 g1 g2 g3 g4
        | ret => exact hn .ret e1 h1 w1 s1 r1 FP1 dl1 a1 F1 g1 g2 g3 g4
    exact wp_rounds (key n F hr hn)
  | exit id =>
    intro ac hk r FP dl e h w s a k out Q F hr hn
    cases ac <;> simp only [cc] at hk <;> try (cases hk; done)
    rw [Nat.beq_eq] at hk
    subst hk
    exact wp_exit (hn (.ext _) e h w s r FP dl a F r.le_refl (Keep.refl _ _ _) rfl hr)
  | ret =>
    intro ac hk r FP dl e h w s a k out Q F hr hn
    cases ac <;> simp only [cc] at hk <;> try (cases hk; done)
    exact wp_ret (hn .ret e h w s r FP dl a F r.le_refl (Keep.refl _ _ _) rfl hr)
  | rangeFunc _ _ _ _ => intro ac hk; cases ac <;> cases hk
  | scope _ => intro ac hk; cases ac <;> cases hk
  | label _ => intro ac hk; cases ac <;> cases hk
  | goto _ => intro ac hk; cases ac <;> cases hk
  | refuse _ => intro ac hk; cases ac <;> cases hk

end
end Go.Proofs.YtpkimnaenlbbjaaGreat.AM

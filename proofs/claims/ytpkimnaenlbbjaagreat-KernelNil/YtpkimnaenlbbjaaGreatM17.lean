/- A region with an open order: carried out alike in every order. Conditions: none. -/
import Derived.Test.YtpkimnaenlbbjaaGreatM16
import Derived.Test.YtpkimnaenlbbjaaGreatM13
namespace Go.Proofs.YtpkimnaenlbbjaaGreat.AM
open Go

/-- x may come ahead of all of these. -/
def Movs (nt : Nat) (x : AOper) : List AOper → Prop
  | [] => True
  | y :: r => Wf nt y ∧ Okp x y ∧ (x.op.cl = .E → ∀ n a, y.op = .ld n a → ∃ m d, a = .t m ∧ y.dst = some d ∧ d ∉ y.rds ∧ x.dst ≠ some m ∧ (n, Opd.t m, Opd.t d) ∈ x.re ∧ ∀ z, z ∈ r → z.dst ≠ some m ∧ z.dst ≠ some d) ∧ Movs nt x r

section
variable {β : Type} {x : AOper} {nt : Nat} {call : Call} {k : Env → Hp → Acc β} {out : β × KS} {L2 : List AOper}

open Classical in
theorem pull (wx : Wf nt x) : ∀ (L1 : List AOper) (e : Env) (h : Hp) (s : KS), (runD call nt (L1 ++ x :: L2) e h k).run s = some out → Movs nt x L1 → (∀ sl, x.op.slotD = some sl → e.getD sl .unk = .unk) →
    ∃ ex hx sx, Stp call x e h s ex hx sx ∧ dok nt x.op e h = true ∧ (∃ us, ex = upd e us ∧ UOK nt e x us) ∧ (∀ q, q ∈ x.re → (∀ z, z ∈ L1 → ∀ d, z.dst = some d → d ∉ q.2.1.tm ++ q.2.2.tm) → chk1 nt ex hx q = true) ∧ (runD call nt (L1 ++ L2) ex hx k).run sx = some out := by
  intro L1
  induction L1 with
  | nil =>
    intro e h s hr _ _
    simp only [List.nil_append, runD] at hr
    split at hr
    · rename_i hd
      obtain ⟨us, h', s', g1, g2, g3⟩ := run1_env wx.X hd hr
      split at g2
      · rename_i hc
        rw [List.all_eq_true] at hc
        exact ⟨_, h', s', g3 e ⟨fun _ _ => rfl, fun _ _ _ hc => hc⟩, hd, ⟨us, rfl, g1⟩, fun q hq _ => hc q hq, g2⟩
      · cases g2
    · cases hr
  | cons y r ih =>
    intro e h s hr hm hslot
    obtain ⟨wy, hp, hre, hm⟩ := hm
    simp only [List.cons_append, runD] at hr
    split at hr
    · rename_i hdy
      obtain ⟨us, h', s', g1, g2, g3⟩ := run1_env wy.X hdy hr
      split at g2
      · rename_i hc
        rw [List.all_eq_true] at hc
        have hunk : ∀ sl, x.op.slotD = some sl → (upd e us).getD sl .unk = .unk := by
          intro sl hsl
          rw [upd_get]; exact hslot sl hsl
          intro p hp' hh
          have := wx.slot _ hsl
          rcases g1 p hp' with h1 | h1 | ⟨_, cs, h1⟩
          · have := wy.dst _ h1; omega
          · rw [hh] at h1; exact hp.sl sl hsl h1
          · rw [hh, hslot sl hsl] at h1; cases h1
        have hr2 : (runOps call [y.bare] e h fun e' h' => if (∀ q, q ∈ y.re → chk1 nt e' h' q = true) ∧ (∀ sl, x.op.slotD = some sl → e'.getD sl .unk = .unk) then runD call nt (r ++ x :: L2) e' h' k else .no).run s = some out := by
          rw [g3 e ⟨fun _ _ => rfl, fun _ _ _ hc => hc⟩, if_pos ⟨hc, hunk⟩]
          exact g2
        have hsw := swap (C := fun e2 h2 s2 => (∀ q, q ∈ x.re → (∀ z, z ∈ r → ∀ d, z.dst = some d → d ∉ q.2.1.tm ++ q.2.2.tm) → chk1 nt e2 h2 q = true) ∧ (runD call nt (r ++ L2) e2 h2 k).run s2 = some out) wx wy hp hslot hdy hr2 (by
          intro ey hy sy hk
          split at hk
          · rename_i hcc
            obtain ⟨ex, hx, sx, j1, j2, _, j4, j5⟩ := ih ey hy sy hk hm hcc.2
            exact ⟨j2, ex, hx, sx, j1, j4, j5⟩
          · cases hk) (by
          intro hE n a hya
          obtain ⟨m, d, j1, j2, j3, j4, j5, j6⟩ := hre hE n a hya
          refine ⟨m, d, j1, j2, j3, j4, fun e2 h2 s2 hC => hC.1 _ j5 fun z hz d' hd' hmem => ?_⟩
          simp only [Opd.tm, List.cons_append, List.nil_append, List.mem_cons, List.not_mem_nil, or_false] at hmem
          rcases hmem with rfl | rfl
          · exact (j6 z hz).1 hd'
          · exact (j6 z hz).2 hd')
        obtain ⟨ex, hx, sx, ey, hy, sy, e2, h2, s2, i1, i2, i3, i4, i5, i6, i7, i8, i9⟩ := hsw
        dsimp only at i6
        split at i6
        · rename_i hcc
          refine ⟨ex, hx, sx, i1, i2, i3, fun q hq hz => ?_, ?_⟩
          · exact i9 q hq (fun d hd => hz y (by simp) d hd) (i7.1 q hq fun z hz' d hd => hz z (by simp [hz']) d hd)
          · simp only [List.cons_append, runD]
            rw [if_pos i4, i5, if_pos]
            · exact i7.2
            · rw [List.all_eq_true]; exact fun q hq => i8 q hq (hcc.1 q hq)
        · cases i6
      · cases g2
    · cases hr

end

section
variable {P : Program} {B0 : Nat} {O : Nat → Prop} {n0 ntm : Nat}

/-- A set of operations that holds with each all that it waits for. -/
def Closed (ops : Array Oper) (listed : Array Bool) : Prop :=
  ∀ j oj, ops[j]? = some oj → listed.getD j false = true → ∀ t ∈ oj.after, Region.binds .any t = true → listed.getD t.on false = true

/-- j is carried out ahead of i, in every order. -/
def Bef (ops : Array Oper) (i j : Nat) : Prop :=
  ∀ listed, Closed ops listed → i ∈ Region.ready .any ops listed → listed.getD j false = true

/-- A region with an open order, as it is checked. -/
structure Reg (P : Program) (ntm ntot : Nat) (ops : Array Oper) (L : List (Nat × AOper)) : Prop where
  nd : (L.map Prod.fst).Nodup
  all : ∀ i, i < ops.size ↔ i ∈ L.map Prod.fst
  opc : ∀ p, p ∈ L → opc P ntm ntot ops p.1 p.2 = true
  wf : ∀ p, p ∈ L → Wf ntm p.2
  sd : ∀ p q, p ∈ L → q ∈ L → p.1 ≠ q.1 → ∀ sl, p.2.op.slotD = some sl → q.2.op.slotD ≠ some sl
  ord : ∀ pre p post, L = pre ++ p :: post → (∀ o, ops[p.1]? = some o → ∀ t ∈ o.after, Region.binds .any t = true → t.on ∈ pre.map Prod.fst) ∧
    ∀ sub : List (Nat × AOper), sub.Sublist pre → (∀ q, q ∈ sub → ¬ Bef ops p.1 q.1) → Movs ntm p.2 (sub.map Prod.snd)

theorem getD_both' {listed : Array Bool} {i : Nat} (h : listed.getD i true = false) : listed.getD i false = false ∧ i < listed.size := by
  rcases Nat.lt_or_ge i listed.size with h' | h'
  · simp [h'] at h ⊢; exact h
  · simp [Array.getElem?_eq_none h'] at h

theorem getD_up {listed : Array Bool} {i : Nat} (hi : i < listed.size) (h : ¬ listed.getD i true = false) : listed.getD i false = true := by
  simp [hi] at h ⊢; exact h

def todo (L : List (Nat × AOper)) (listed : Array Bool) : List (Nat × AOper) := L.filter fun p => !listed.getD p.1 true

theorem Closed.step {ops : Array Oper} {listed : Array Bool} {i : Nat} (hc : Closed ops listed) (hi : i ∈ Region.ready .any ops listed) : Closed ops (listed.setIfInBounds i true) := by
  obtain ⟨h0, o, ho, hall⟩ := mem_ready.1 hi
  intro j oj hj hl t ht hb
  by_cases hij : i = j
  · subst hij
    rw [ho] at hj; cases hj
    exact getD_set_true (hall t ht hb)
  · rw [getD_set_ne false hij] at hl
    exact getD_set_true (hc j oj hj hl t ht hb)

theorem any_sim {call : Call} (hcall : CallOK P call) {ntot : Nat} {ops : Array Oper} {L : List (Nat × AOper)} (hR : Reg P ntm ntot ops L) {Q : Exit → Act → World → Prop} {k : Env → Hp → Acc R} {out : R × KS} :
    ∀ (fuel : Nat) (listed : Array Bool) {r : PM} {FP : Nat → List Nat} {dl : Nat → Option Nat} {e : Env} {h : Hp} {w : World} {s : KS} {a : Act},
    listed.size = ops.size → Closed ops listed → (todo L listed).length = fuel → (runD call ntm ((todo L listed).map Prod.snd) e h k).run s = some out →
    (∀ p, p ∈ todo L listed → ∀ sl, p.2.op.slotD = some sl → e.getD sl .unk = .unk ∧ dl sl = none) → Fst B0 O n0 ntm r FP dl e h w s a →
    (∀ e' h' w' s' r' FP' dl' a', Fst B0 O n0 ntm r' FP' dl' e' h' w' s' a' → r.le r' → Keep O n0 w w' → a'.defers = a.defers → (k e' h').run s' = some out → Q .normal a' w') →
    wpAny P .any ops Q fuel listed a w := by
  intro fuel
  induction fuel with
  | zero =>
    intro listed r FP dl e h w s a hsz hcl hlen hr hslot F hn
    have hnil := List.length_eq_zero_iff.1 hlen
    refine ⟨?_, ?_⟩
    · apply List.eq_nil_iff_forall_not_mem.2
      intro i hi
      obtain ⟨h0, o, ho, _⟩ := mem_ready.1 hi
      have hlt : i < ops.size := (Array.getElem?_eq_some_iff.1 ho).1
      obtain ⟨p, hp, rfl⟩ := List.mem_map.1 ((hR.all i).1 hlt)
      have : p ∈ todo L listed := List.mem_filter.2 ⟨hp, by rw [h0]; rfl⟩
      rw [hnil] at this; cases this
    · rw [hnil] at hr
      exact hn e h w s r FP dl a F r.le_refl (Keep.refl _ _ _) rfl hr
  | succ fuel ih =>
    intro listed r FP dl e h w s a hsz hcl hlen hr hslot F hn
    refine ⟨fun hready => ?_, fun i hi => ?_⟩
    · exfalso
      -- the head of what is left is ready
      cases htodo : todo L listed with
      | nil => rw [htodo] at hlen; cases hlen
      | cons p t =>
        have hmem : p ∈ todo L listed := by rw [htodo]; simp
        obtain ⟨hpL, hpl⟩ := List.mem_filter.1 hmem
        obtain ⟨pre, post, hLe⟩ := List.append_of_mem hpL
        have hlt : p.1 < ops.size := (hR.all p.1).2 (List.mem_map.2 ⟨p, hpL, rfl⟩)
        have hlp : listed.getD p.1 true = false := by simpa using hpl
        have hprel : ∀ q, q ∈ pre → listed.getD q.1 false = true := by
          intro q hq
          have hqL : q ∈ L := by rw [hLe]; simp [hq]
          have hqlt : q.1 < ops.size := (hR.all q.1).2 (List.mem_map.2 ⟨q, hqL, rfl⟩)
          apply getD_up (by rw [hsz]; exact hqlt)
          intro hh
          -- q stands ahead of p in what is left
          have hnd := hR.nd
          rw [hLe] at htodo hnd
          unfold todo at htodo
          rw [List.filter_append, List.filter_cons, if_pos hpl] at htodo
          have hq2 : q ∈ pre.filter fun p => !listed.getD p.1 true := List.mem_filter.2 ⟨hq, by rw [hh]; rfl⟩
          cases hf : pre.filter (fun p => !listed.getD p.1 true) with
          | nil => rw [hf] at hq2; cases hq2
          | cons z zs =>
            rw [hf] at htodo
            simp only [List.cons_append, List.cons.injEq] at htodo
            have hz : z ∈ pre := (List.mem_filter.1 (by rw [hf]; simp)).1
            rw [htodo.1] at hz
            rw [List.map_append, List.map_cons, List.nodup_append] at hnd
            exact hnd.2.2 p.1 (List.mem_map.2 ⟨p, hz, rfl⟩) p.1 (by simp) rfl
        have : p.1 ∈ Region.ready .any ops listed := by
          rw [mem_ready]
          refine ⟨hlp, ops[p.1], Array.getElem?_eq_getElem hlt, fun t ht hb => ?_⟩
          obtain ⟨q, hq, hqe⟩ := List.mem_map.1 ((hR.ord pre p post hLe).1 _ (Array.getElem?_eq_getElem hlt) t ht hb)
          rw [← hqe]; exact hprel q hq
        rw [hready] at this; cases this
    · obtain ⟨h0, o, ho, _⟩ := mem_ready.1 hi
      have hlt : i < ops.size := (Array.getElem?_eq_some_iff.1 ho).1
      obtain ⟨p, hpL, rfl⟩ := List.mem_map.1 ((hR.all i).1 hlt)
      obtain ⟨pre, post, hLe⟩ := List.append_of_mem hpL
      have hnd := hR.nd
      rw [hLe, List.map_append, List.map_cons, List.nodup_append] at hnd
      have hpre : ∀ q, q ∈ pre → p.1 ≠ q.1 := fun q hq hh => hnd.2.2 q.1 (List.mem_map.2 ⟨q, hq, rfl⟩) p.1 (by simp) hh.symm
      have hpost : ∀ q, q ∈ post → p.1 ≠ q.1 := fun q hq hh => (List.nodup_cons.1 hnd.2.1).1 (by rw [hh]; exact List.mem_map.2 ⟨q, hq, rfl⟩)
      have ht1 : todo L listed = todo pre listed ++ p :: todo post listed := by
        unfold todo
        rw [hLe, List.filter_append, List.filter_cons, if_pos (by rw [h0]; rfl)]
      have hfil : ∀ l : List (Nat × AOper), (∀ q, q ∈ l → p.1 ≠ q.1) → todo l (listed.setIfInBounds p.1 true) = todo l listed := by
        intro l hl
        unfold todo
        refine List.filter_congr fun q hq => ?_
        rw [getD_set_ne true (hl q hq)]
      have ht2 : todo L (listed.setIfInBounds p.1 true) = todo pre listed ++ todo post listed := by
        rw [hLe]
        unfold todo
        rw [List.filter_append, List.filter_cons, if_neg]
        · have e1 := hfil pre hpre
          have e2 := hfil post hpost
          unfold todo at e1 e2
          rw [e1, e2]
        · have := (getD_both' h0).2
          simp [this]
      have hm : Movs ntm p.2 ((todo pre listed).map Prod.snd) := by
        refine (hR.ord pre p post hLe).2 _ List.filter_sublist fun q hq hb => ?_
        have h1 := hb listed hcl hi
        have h2 := (List.mem_filter.1 hq).2
        have h3 : listed.getD q.1 true = false := by simpa using h2
        rw [(getD_both' h3).1] at h1; cases h1
      have hpt : p ∈ todo L listed := by rw [ht1]; simp
      rw [ht1, List.map_append, List.map_cons] at hr
      obtain ⟨ex, hx, sx, g1, _, ⟨us, hus, hUOK⟩, _, g5⟩ := pull (hR.wf p hpL) _ e h s hr hm fun sl hsl => (hslot p hpt sl hsl).1
      have hrest : ∀ q, q ∈ todo L (listed.setIfInBounds p.1 true) → q ∈ todo L listed ∧ q.1 ≠ p.1 := by
        intro q hq
        rw [ht2] at hq
        refine ⟨by rw [ht1]; rcases List.mem_append.1 hq with h1 | h1 <;> simp [h1], ?_⟩
        rcases List.mem_append.1 hq with h1 | h1
        · exact (hpre q (List.mem_filter.1 h1).1).symm
        · exact (hpost q (List.mem_filter.1 h1).1).symm
      have hunk : ∀ q, q ∈ todo L (listed.setIfInBounds p.1 true) → ∀ sl, q.2.op.slotD = some sl → ex.getD sl .unk = .unk := by
        intro q hq sl hsl
        obtain ⟨h1, h2⟩ := hrest q hq
        rw [hus, upd_get]
        · exact (hslot q h1 sl hsl).1
        · intro z hz hh
          have h3 := (hR.wf q (List.mem_filter.1 h1).1).slot sl hsl
          rcases hUOK z hz with h4 | h4 | ⟨_, cs, h4⟩
          · have := (hR.wf p hpL).dst _ h4; omega
          · rw [hh] at h4
            exact hR.sd p q hpL (List.mem_filter.1 h1).1 (fun hh => h2 hh.symm) sl h4 hsl
          · rw [hh, (hslot q h1 sl hsl).1] at h4; cases h4
      have hrun : (runOps call [p.2.bare] e h (fun e' h' => @ite _ (∀ q, q ∈ todo L (listed.setIfInBounds p.1 true) → ∀ sl, q.2.op.slotD = some sl → e'.getD sl .unk = .unk) (Classical.propDecidable _) (runD call ntm ((todo L (listed.setIfInBounds p.1 true)).map Prod.snd) e' h' k) .no)).run s = some out := by
        rw [g1, if_pos hunk, ht2, List.map_append]
        exact g5
      have hopc : AM.opc P ntm ntot ops p.1 p.2.bare = true := hR.opc p hpL
      refine oper1_sim hcall hopc (fun sl hsl => (hslot p hpt sl hsl).2) F hrun fun e1 h1 w1 s1 r1 FP1 dl1 a1 hdl F1 hle hkeep hdf hr1 => ?_
      simp only [runOps] at hr1
      split at hr1
      · rename_i hun
        refine ih (listed.setIfInBounds p.1 true) (by simp [hsz]) (hcl.step hi) ?_ hr1 (fun q hq sl hsl => ⟨hun q hq sl hsl, ?_⟩) F1 fun e4 h4 w4 s4 r4 FP4 dl4 a4 F4 k1 k2 k3 k4 => ?_
        · rw [ht2]; rw [ht1] at hlen; simp at hlen ⊢; omega
        · obtain ⟨h2, h3⟩ := hrest q hq
          rcases hdl sl (hslot q h2 sl hsl).2 with h4 | h4
          · exfalso
            have hS : p.2.op.slotD = some sl := by
              revert h4
              have hX := (hR.wf p hpL).X
              show AOp.slot1 p.2.op = some sl → _
              revert hX
              cases p.2.op <;> intro hX h4 <;> first | exact h4 | (exact absurd rfl hX) | (cases h4)
            exact hR.sd p q hpL (List.mem_filter.1 h2).1 (fun hh => h3 hh.symm) sl hS hsl
          · exact h4
        · exact hn e4 h4 w4 s4 r4 FP4 dl4 a4 F4 (PM.le_trans hle k1) (hkeep.trans k2) (k3.trans hdf) k4
      · cases hr1

end
end Go.Proofs.YtpkimnaenlbbjaaGreat.AM

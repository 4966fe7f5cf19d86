/- Slices cut, elements' addresses, parts taken out: carried out alike. Conditions: none. -/
import Derived.Test.YtpkimnaenlbbjaaGreatM9
namespace Go.Proofs.YtpkimnaenlbbjaaGreat.AM
open Go

section
variable {P : Program} {B0 : Nat} {O : Nat → Prop} {n0 ntm : Nat} {r : PM} {FP : Nat → List Nat} {dl : Nat → Option Nat} {e : Env} {h : Hp} {w : World} {s : KS} {a : Act}

theorem run_sliceBound {k : IntKind} {n : Int} {y : Nat} {c : BoundsCode} (h0 : 0 ≤ n) (h1 : n ≤ y) : (Instr.sliceBound (.int k n) y c).run P w = .ok n.toNat w := by
  simp only [Instr.sliceBound, asIntOf, Sem.run_bind, Sem.run_pure, Result.andThen_ok, Sem.run_ite]
  rw [if_pos ⟨h0, h1⟩]

/-- A bound that stands, or none. -/
def OV (r : PM) (dl : Nat → Option Nat) : Option AV → Option Value → Prop
  | none, none => True
  | some v, some v' => EV r dl v v'
  | _, _ => False

theorem opdo_OV (F : Fst B0 O n0 ntm r FP dl e h w s a) {o : Option Operand} {x : Option Opd} (hk : opdco ntm o x = true) : OV r dl (x.map (Opd.ev e)) (o.map a.eval) := by
  unfold opdco at hk
  split at hk
  · trivial
  · exact opd_EV F hk
  · cases hk

theorem run_bnds {len cap : Nat} {lo hi : Option AV} {lo' hi' : Option Value} {l hh : Nat} (hl : OV r dl lo lo') (hhi : OV r dl hi hi') (hb : bnds len lo hi = some (l, hh)) (hc : len ≤ cap) :
    l ≤ hh ∧ hh ≤ len ∧ (Instr.sliceBounds true len cap lo' hi' none).run P w = .ok (l, hh, cap) w := by
  unfold bnds at hb
  split at hb
  · cases hb
  · rename_i h2 hhq
    have hH : h2 ≤ len ∧ ∀ c, (match hi' with | some v => Instr.sliceBound v cap c | none => pure len : Sem Nat).run P w = .ok h2 w := by
      split at hhq
      · cases hhq
        cases hi' with
        | none => exact ⟨Nat.le_refl _, fun _ => rfl⟩
        | some v => exact hhi.elim
      · rename_i k n
        split at hhq
        · rename_i hn
          cases hhq
          cases hi' with
          | none => exact hhi.elim
          | some v =>
            simp only [OV, EV, VR] at hhi
            subst hhi
            exact ⟨by omega, fun c => run_sliceBound hn.1 (by omega)⟩
        · cases hhq
      · cases hhq
    have hL : ∀ c, l ≤ h2 ∧ hh = h2 ∧ (match lo' with | some v => Instr.sliceBound v h2 c | none => pure 0 : Sem Nat).run P w = .ok l w := by
      intro c
      split at hb
      · cases hb
        cases lo' with
        | none => exact ⟨Nat.zero_le _, rfl, rfl⟩
        | some v => exact hl.elim
      · rename_i k n
        split at hb
        · rename_i hn
          cases hb
          cases lo' with
          | none => exact hl.elim
          | some v =>
            simp only [OV, EV, VR] at hl
            subst hl
            exact ⟨by omega, rfl, run_sliceBound hn.1 hn.2⟩
        · cases hb
      · cases hb
    obtain ⟨g1, g2⟩ := hH
    obtain ⟨k1, rfl, k2⟩ := hL .sliceB
    refine ⟨k1, g1, ?_⟩
    have g3 := g2 .sliceAcap
    unfold Instr.sliceBounds
    simp only [Sem.run_bind, Sem.run_pure, Result.andThen_ok]
    cases hi' with
    | none =>
      simp only [Sem.run_pure, Result.ok.injEq, and_true] at g3
      subst g3
      cases lo' with
      | none => simp only [Sem.run_pure, Result.ok.injEq, and_true] at k2; subst k2; simp
      | some v => dsimp only at k2; simp [k2]
    | some v =>
      dsimp only at g3
      cases lo' with
      | none => simp only [Sem.run_pure, Result.ok.injEq, and_true] at k2; subst k2; simp [g3]
      | some v => dsimp only at k2; simp [g3, k2]

theorem run_bnds3 {len cap : Nat} {lo hi : Option AV} {lo' hi' : Option Value} {l hh : Nat} {k : IntKind} {m : Int} (hl : OV r dl lo lo') (hhi : OV r dl hi hi') (hb : bnds len lo hi = some (l, hh)) (hc : len ≤ cap) (hm : m = hh) (hsome : hi.isSome = true) :
    l ≤ hh ∧ hh ≤ len ∧ (Instr.sliceBounds true len cap lo' hi' (some (.int k m))).run P w = .ok (l, hh, hh) w := by
  unfold bnds at hb
  split at hb
  · cases hb
  · rename_i h2 hhq
    have hH : h2 ≤ len ∧ ∀ c, ∃ v, hi' = some v ∧ (Instr.sliceBound v h2 c).run P w = .ok h2 w := by
      split at hhq
      · cases hsome
      · rename_i k n
        split at hhq
        · rename_i hn
          cases hhq
          cases hi' with
          | none => exact hhi.elim
          | some v =>
            simp only [OV, EV, VR] at hhi
            subst hhi
            exact ⟨by omega, fun c => ⟨_, rfl, run_sliceBound hn.1 (by omega)⟩⟩
        · cases hhq
      · cases hhq
    have hL : ∀ c, l ≤ h2 ∧ hh = h2 ∧ (match lo' with | some v => Instr.sliceBound v h2 c | none => pure 0 : Sem Nat).run P w = .ok l w := by
      intro c
      split at hb
      · cases hb
        cases lo' with
        | none => exact ⟨Nat.zero_le _, rfl, rfl⟩
        | some v => exact hl.elim
      · rename_i k n
        split at hb
        · rename_i hn
          cases hb
          cases lo' with
          | none => exact hl.elim
          | some v =>
            simp only [OV, EV, VR] at hl
            subst hl
            exact ⟨by omega, rfl, run_sliceBound hn.1 hn.2⟩
        · cases hb
      · cases hb
    obtain ⟨g1, g2⟩ := hH
    obtain ⟨k1, rfl, k2⟩ := hL .slice3C
    refine ⟨k1, g1, ?_⟩
    obtain ⟨v, rfl, g3⟩ := g2 .slice3B
    have g4 : (Instr.sliceBound (.int k m) cap .slice3Acap).run P w = .ok hh w := by
      rw [run_sliceBound (by omega) (by omega), hm]; simp
    unfold Instr.sliceBounds
    cases lo' with
    | none => simp only [Sem.run_pure, Result.ok.injEq, and_true] at k2; subst k2; simp [g3, g4]
    | some v => dsimp only at k2; simp [g3, g4, k2]

/-- x[lo:hi:mx] -/
theorem run_slc {t el : TypeId} {sz : Nat} {x v : AV} {lo hi mx : Option AV} {x' : Value} {lo' hi' mx' : Option Value} (hk : elemc P t sz = some el) (hx : EV r dl x x') (hl : OV r dl lo lo') (hhi : OV r dl hi hi') (hmx : OV r dl mx mx') (hmh : mx.isSome = true → hi.isSome = true)
    (hs : slcA sz x lo hi mx = some v) : ∃ v', (Instr.sliceAt t x' lo' hi' mx').run P w = .ok v' w ∧ VR r v v' := by
  obtain ⟨hu, i, hi1, hi2⟩ := elemc_of hk
  unfold slcA at hs
  have hres : ∀ (b0 : Option Addr) (av : AV), VR r av (.slice b0 0 0) → ∀ m, (mx' = none ∧ m = 0 ∨ ∃ k, mx' = some (.int k 0) ∧ m = 0) → (∃ q, bnds 0 lo hi = some q) → v = av → (mx = none → mx' = none) → ∃ v', (Instr.sliceAt t (.slice b0 0 0) lo' hi' mx').run P w = .ok v' w ∧ VR r v v' := by
    rintro b0 av hb0 m hm ⟨⟨l, hh⟩, hq⟩ rfl _
    refine ⟨.slice b0 0 0, ?_, hb0⟩
    rcases hm with ⟨rfl, rfl⟩ | ⟨k, rfl, rfl⟩
    · obtain ⟨g1, g2, g3⟩ := run_bnds (P := P) (w := w) hl hhi hq (Nat.le_refl 0)
      have e1 : hh = 0 := by omega
      have e2 : l = 0 := by omega
      subst e1; subst e2
      simp only [Instr.sliceAt, Sem.run_bind, run_underlying' hu, Result.andThen_ok, Instr.slice, g3, run_sizeOf hi1]
      simp
    · have hsome : hi.isSome = true := hmh (by cases mx with | none => exact hmx.elim | some _ => rfl)
      have hh0 : hh = 0 := by
        have := (run_bnds (P := P) (w := w) hl hhi hq (Nat.le_refl 0)).2.1
        omega
      subst hh0
      obtain ⟨g1, g2, g3⟩ := run_bnds3 (P := P) (w := w) (k := k) (m := 0) hl hhi hq (Nat.le_refl 0) rfl hsome
      have e2 : l = 0 := by omega
      subst e2
      simp only [Instr.sliceAt, Sem.run_bind, run_underlying' hu, Result.andThen_ok, Instr.slice, g3, run_sizeOf hi1]
      simp
  split at hs
  · simp only [EV, VR] at hx
    subst hx
    split at hs
    · rename_i q hq
      cases hs
      cases mx' with
      | none => exact hres none .ns (by simp only [VR]) 0 (.inl ⟨rfl, rfl⟩) ⟨_, hq⟩ rfl (fun _ => rfl)
      | some _ => exact hmx.elim
    · rename_i q k m hq
      split at hs
      · rename_i hm0
        cases hs
        subst hm0
        cases mx' with
        | none => exact hmx.elim
        | some y =>
          simp only [OV, EV, VR] at hmx
          subst hmx
          exact hres none .ns (by simp only [VR]) 0 (.inr ⟨k, rfl, rfl⟩) ⟨_, hq⟩ rfl (fun h => by cases h)
      · cases hs
    · cases hs
  · simp only [EV, VR] at hx
    obtain ⟨a1, rfl⟩ := hx
    split at hs
    · rename_i q hq
      cases hs
      cases mx' with
      | none => exact hres (some a1) .es ⟨a1, rfl⟩ 0 (.inl ⟨rfl, rfl⟩) ⟨_, hq⟩ rfl (fun _ => rfl)
      | some _ => exact hmx.elim
    · rename_i q k m hq
      split at hs
      · rename_i hm0
        cases hs
        subst hm0
        cases mx' with
        | none => exact hmx.elim
        | some y =>
          simp only [OV, EV, VR] at hmx
          subst hmx
          exact hres (some a1) .es ⟨a1, rfl⟩ 0 (.inr ⟨k, rfl, rfl⟩) ⟨_, hq⟩ rfl (fun h => by cases h)
      · cases hs
    · cases hs
  · rename_i sz' id idx len tight
    split at hs
    · rename_i hsz
      subst hsz
      simp only [EV, VR] at hx
      obtain ⟨b, off, cap, rfl, h1, h2, h3⟩ := hx
      split at hs
      · rename_i l hh hq
        split at hs
        · cases hs
          cases mx' with
          | some _ => exact hmx.elim
          | none =>
            obtain ⟨g1, g2, g3⟩ := run_bnds (P := P) (w := w) hl hhi hq h1
            refine ⟨.slice (if cap = l then some ⟨b, off, none⟩ else (some (⟨b, off, none⟩ : Addr)).map (·.add (l * i.size))) (hh - l) (cap - l), ?_, ?_⟩
            · simp only [Instr.sliceAt, Sem.run_bind, run_underlying' hu, Result.andThen_ok, Instr.slice, g3, run_sizeOf hi1, Sem.run_pure]
            · have hv : ∃ b2 off2, (if cap = l then some ⟨b, off, none⟩ else (some (⟨b, off, none⟩ : Addr)).map (·.add (l * i.size))) = some (⟨b2, off2, none⟩ : Addr) ∧ (cap ≠ l → b2 = b ∧ off2 = off + l * sz') := by
                by_cases hcl : cap = l
                · exact ⟨b, off, by rw [if_pos hcl], fun h => absurd hcl h⟩
                · exact ⟨b, off + l * i.size, by rw [if_neg hcl]; simp [addr_add], fun _ => ⟨rfl, by rw [hi2]⟩⟩
              obtain ⟨b2, off2, e1, e2⟩ := hv
              rw [e1]
              refine ⟨b2, off2, cap - l, rfl, by omega, ?_, ?_⟩
              · intro ht
                simp only [Bool.and_eq_true, beq_iff_eq] at ht
                have := h2 ht.1
                omega
              · intro hc
                obtain ⟨rfl, rfl⟩ := e2 (by omega)
                obtain ⟨pl, k1, k2, k3, k4, k5⟩ := h3 (by omega)
                refine ⟨pl, k1, k2, k3, by rw [k4, Nat.add_mul]; omega, ?_⟩
                have : idx + l + (cap - l) = idx + cap := by omega
                rw [this]; exact k5
        · rename_i k m
          split at hs
          · rename_i hm
            cases hs
            have hsome := hmh rfl
            cases mx' with
            | none => exact hmx.elim
            | some y =>
              simp only [OV, EV, VR] at hmx
              subst hmx
              obtain ⟨g1, g2, g3⟩ := run_bnds3 (P := P) (w := w) (k := k) hl hhi hq h1 hm hsome
              refine ⟨.slice (if hh = l then some ⟨b, off, none⟩ else (some (⟨b, off, none⟩ : Addr)).map (·.add (l * i.size))) (hh - l) (hh - l), ?_, ?_⟩
              · simp only [Instr.sliceAt, Sem.run_bind, run_underlying' hu, Result.andThen_ok, Instr.slice, g3, run_sizeOf hi1, Sem.run_pure]
              · have hv : ∃ b2 off2, (if hh = l then some ⟨b, off, none⟩ else (some (⟨b, off, none⟩ : Addr)).map (·.add (l * i.size))) = some (⟨b2, off2, none⟩ : Addr) ∧ (hh ≠ l → b2 = b ∧ off2 = off + l * sz') := by
                  by_cases hcl : hh = l
                  · exact ⟨b, off, by rw [if_pos hcl], fun h => absurd hcl h⟩
                  · exact ⟨b, off + l * i.size, by rw [if_neg hcl]; simp [addr_add], fun _ => ⟨rfl, by rw [hi2]⟩⟩
                obtain ⟨b2, off2, e1, e2⟩ := hv
                rw [e1]
                refine ⟨b2, off2, hh - l, rfl, Nat.le_refl _, fun _ => rfl, ?_⟩
                intro hc
                obtain ⟨rfl, rfl⟩ := e2 (by omega)
                obtain ⟨pl, k1, k2, k3, k4, k5⟩ := h3 (by omega)
                refine ⟨pl, k1, k2, k3, by rw [k4, Nat.add_mul]; omega, ?_⟩
                have h7 : (idx + l + (hh - l)) * sz' ≤ (idx + cap) * sz' := Nat.mul_le_mul_right _ (by omega)
                omega
          · cases hs
        · cases hs
      · cases hs
    · cases hs
  · cases hs

end
end Go.Proofs.YtpkimnaenlbbjaaGreat.AM

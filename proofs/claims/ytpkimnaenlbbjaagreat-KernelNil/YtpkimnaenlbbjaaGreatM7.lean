/- The check of operations against instructions, and that the plain ones are carried out alike: addresses, loads, stores, arithmetic. Conditions: none. -/
import Derived.Test.YtpkimnaenlbbjaaGreatM6
namespace Go.Proofs.YtpkimnaenlbbjaaGreat.AM
open Go

def szc (P : Program) (t : TypeId) (n : Nat) : Bool := match P.info? t with | some i => Nat.beq i.size n | none => false
def ldc (P : Program) (t : TypeId) (n : Option Nat) : Bool :=
  match P.underlying t with
  | some (.struct _) => (match n with | some m => szc P t m | none => false)
  | some (.array _ _) => (match n with | some m => szc P t m | none => false)
  | some _ => n.isNone
  | none => false
def zeroc (P : Program) (t : TypeId) (cells : List AV) : Bool :=
  match P.info? t with
  | some i => (match i.zero with
    | some z => (match avcs z.cells.toList with | some as => AV.eqbs as cells | none => false)
    | none => false)
  | none => false

section
variable {P : Program} {B0 : Nat} {O : Nat → Prop} {n0 ntm : Nat} {r : PM} {FP : Nat → List Nat} {dl : Nat → Option Nat} {e : Env} {h : Hp} {w : World} {s : KS} {a : Act}

theorem szc_run {t : TypeId} {n : Nat} (hk : szc P t n = true) : ∃ i, P.info? t = some i ∧ i.size = n := by
  unfold szc at hk
  split at hk
  · rename_i i hi
    exact ⟨i, hi, Nat.eq_of_beq_eq_true hk⟩
  · cases hk

theorem run_typeInfo {t : TypeId} {i : TypeInfo} (hi : P.info? t = some i) : (typeInfo t).run P w = .ok i w := by
  simp [typeInfo, hi]
theorem run_sizeOf {t : TypeId} {i : TypeInfo} (hi : P.info? t = some i) : (sizeOf t).run P w = .ok i.size w := by
  simp [sizeOf, run_typeInfo hi]
theorem run_underlying' {t : TypeId} {d : TypeDesc} (hd : P.underlying t = some d) : (underlying t).run P w = .ok d w := by
  simp [underlying, hd]

theorem zeroc_run {t : TypeId} {cells : List AV} (hk : zeroc P t cells = true) :
    ∃ i z, P.info? t = some i ∧ i.zero = some z ∧ (∀ r, VRs r cells z.cells.toList) ∧ cells.all AV.cell = true ∧ (zeroValue t).run P w = .ok z w := by
  unfold zeroc at hk
  split at hk
  · rename_i i hi
    split at hk
    · rename_i z hz
      split at hk
      · rename_i as has
        have := AV.eqbs_sound _ _ hk
        subst this
        exact ⟨i, z, hi, hz, fun r => (avcs_VR has).1, (avcs_VR (r := fun _ => none) has).2, by simp [zeroValue, run_typeInfo hi, hz]⟩
      · cases hk
    · cases hk
  · cases hk

theorem ldE_cells (F : Fst B0 O n0 ntm r FP dl e h w s a) {t off b : Nat} {n : Option Nat} {v : AV} (hb : dl t = some b) (hl : ldE e t off n = some v) :
    ∃ c t1 fr, w.heap[b]? = some (.cells c t1 fr) ∧
      Loaded r c off n v := by
  unfold AM.ldE at hl
  split at hl
  · rename_i cs hcs
    obtain ⟨h1, b', c, t1, h2, h3, h4⟩ := F.slot t cs (F.ge t b hb) hcs
    rw [hb] at h2; cases h2
    refine ⟨c, t1, (0, 0), h3, ?_⟩
    rw [List.all_eq_true] at h1
    cases n with
    | none =>
      obtain ⟨v', k1, k2⟩ := h4.get _ _ hl
      exact ⟨h1 v (List.mem_of_getElem? hl), v', by simpa using k1, k2⟩
    | some m =>
      dsimp only at hl
      split at hl
      · rename_i hm
        cases hl
        refine ⟨_, (c.toList.drop off).take m, rfl, by simp; omega, ?_, (h4.drop off).take m, ?_⟩
        · rw [List.all_eq_true]
          intro x hx
          exact h1 x (List.mem_of_mem_drop (List.mem_of_mem_take hx))
        · intro j v' hj
          rw [List.getElem?_take] at hj
          split at hj
          · rw [List.getElem?_drop] at hj; simpa using hj
          · cases hj
      · cases hl
  · cases hl

/-- What the machine loads lies at the address. -/
theorem ldA_cells (F : Fst B0 O n0 ntm r FP dl e h w s a) {av : AV} {v0 : Value} {n : Option Nat} {v : AV} (hev : EV r dl av v0) (hl : ldA e h n av = some v) :
    ∃ b off c t fr, v0 = .pointer (some ⟨b, off, none⟩) ∧ w.heap[b]? = some (.cells c t fr) ∧
      Loaded r c off n v := by
  unfold AM.ldA at hl
  split at hl
  · rename_i id idx off
    obtain ⟨pl, h1, h2⟩ := hev
    obtain ⟨pl', c, t, fr, h3, h4, h5⟩ := F.st.ldH hl
    rw [h1] at h3; cases h3
    exact ⟨_, _, c, t, fr, h2, h4, h5⟩
  · rename_i t off
    obtain ⟨b, h1, h2⟩ := hev
    obtain ⟨c, t1, fr, h3, h4⟩ := ldE_cells F h1 hl
    exact ⟨b, off, c, t1, fr, h2, h3, h4⟩
  · cases hl

theorem cell_of {b off : Nat} {c : Array Value} {t : TypeId} {fr : Nat × Nat} {v : Value} (hb : w.heap[b]? = some (.cells c t fr)) (hv : c[off]? = some v) : w.cell? ⟨b, off, none⟩ = some v := by
  simp [World.cell?, hb, hv]

theorem addr_add (b off n : Nat) : (⟨b, off, none⟩ : Addr).add n = ⟨b, off + n, none⟩ := by
  unfold Addr.add; split <;> simp_all

theorem isAgg_of {t : TypeId} {n : Option Nat} (hk : ldc P t n = true) :
    (∃ m i, n = some m ∧ P.info? t = some i ∧ i.size = m ∧ (isAgg t).run P w = .ok true w) ∨ (n = none ∧ (isAgg t).run P w = .ok false w) := by
  unfold ldc at hk
  split at hk
  · rename_i fs hu
    split at hk
    · rename_i m
      obtain ⟨i, h1, h2⟩ := szc_run hk
      exact .inl ⟨m, i, rfl, h1, h2, by simp [isAgg, run_underlying' hu]⟩
    · cases hk
  · rename_i l el hu
    split at hk
    · rename_i m
      obtain ⟨i, h1, h2⟩ := szc_run hk
      exact .inl ⟨m, i, rfl, h1, h2, by simp [isAgg, run_underlying' hu]⟩
    · cases hk
  · rename_i d hn1 hn2 hu
    refine .inr ⟨by simpa using hk, ?_⟩
    simp only [isAgg, Sem.run_bind, run_underlying' hu, Result.andThen_ok]
    cases d <;> first | rfl | (exact absurd rfl (hn1 _)) | (exact absurd rfl (hn2 _ _))
  · cases hk

/-- A load, carried out. -/
theorem run_loadVar (F : Fst B0 O n0 ntm r FP dl e h w s a) {t : TypeId} {av : AV} {v0 : Value} {n : Option Nat} {v : AV} (hk : ldc P t n = true) (hev : EV r dl av v0) (hl : ldA e h n av = some v) :
    ∃ v', (Instr.loadAt t v0).run P w = .ok v' w ∧ VR r v v' ∧ (v.cells.all AV.cell = true) := by
  obtain ⟨b, off, c, t1, fr, h1, h2, h3⟩ := ldA_cells F hev hl
  subst h1
  rcases isAgg_of (w := w) hk with ⟨m, i, rfl, h4, h5, h6⟩ | ⟨rfl, h6⟩
  · obtain ⟨cs, cs', rfl, g1, g2, g3, g4⟩ := h3
    have hl2 : cs'.length = m := by rw [g3.length]; exact g1
    have hld := run_loadCells_list (P := P) w ⟨b, off, none⟩ cs' (fun j v hj => by rw [addr_add]; exact cell_of h2 (g4 j v hj))
    refine ⟨.agg cs'.toArray, ?_, ⟨cs'.toArray, rfl, by simpa using g3⟩, g2⟩
    simp only [Instr.loadAt, Instr.sureAddr, loadVar, Sem.run_bind, Sem.run_pure, Result.andThen_ok, h6, if_true, run_sizeOf h4, h5]
    rw [hl2] at hld
    rw [hld]; rfl
  · obtain ⟨hc, v', g1, g2⟩ := h3
    refine ⟨v', ?_, g2, ?_⟩
    · simp only [Instr.loadAt, Instr.sureAddr, loadVar, Sem.run_bind, Sem.run_pure, Result.andThen_ok, h6]
      simp [cell_of h2 g1]
    · cases v <;> simp [AV.cell] at hc <;> simp [AV.cells, AV.cell]

/-- A store, carried out. -/
theorem run_storeVar (F : Fst B0 O n0 ntm r FP dl e h w s a) {t : TypeId} {av : AV} {v0 : Value} {n : Nat} {v : AV} {v' : Value} (hk : szc P t n = true) (hev : EV r dl av v0) (hv : EV r dl v v') (hn : v.cells.length = n)
    {e' : Env} {h' : Hp} (hst : (∃ id idx off, av = .p id idx off ∧ stH h id idx off v.cells = some h' ∧ e' = e) ∨ (∃ u off, av = .q u off ∧ stE e u off v.cells = some e' ∧ h' = h)) :
    ∃ w', (Instr.storeAt t v0 v').run P w = .ok () w' ∧ Fst B0 O n0 ntm r FP dl e' h' w' s a ∧ Keep O n0 w w' := by
  have hall : v.cells.all AV.cell = true := by
    rcases hst with ⟨id, idx, off, _, h1, _⟩ | ⟨u, off, _, h1, _⟩
    · unfold AM.stH at h1
      split at h1
      · split at h1
        · split at h1
          · rename_i hc; simp only [Bool.and_eq_true] at hc; exact hc.2
          · cases h1
        · cases h1
      · cases h1
    · unfold AM.stE at h1
      split at h1
      · split at h1
        · rename_i hc; simp only [Bool.and_eq_true] at hc; exact hc.2
        · cases h1
      · cases h1
  have hVR : VR r v v' := by
    refine hv.VR_of ?_
    cases v <;> first | rfl | (simp [AV.cells, AV.cell] at hall)
  have hcs := hVR.cells hall
  have hcl := hcs.length
  obtain ⟨i, hi1, hi2⟩ := szc_run hk
  have hone : ∀ x, x ∈ v'.cells.toList → x.oneCell' = true := by
    intro x hx
    obtain ⟨j, hj⟩ := List.getElem?_of_mem hx
    have hjl := (List.getElem?_eq_some_iff.1 hj).1
    rw [hcl] at hjl
    obtain ⟨y, k1, k2⟩ := hcs.get j _ (List.getElem?_eq_getElem hjl)
    rw [hj] at k1; cases k1
    exact k2.one (List.all_eq_true.1 hall _ (List.getElem_mem hjl))
  have hsize : (v'.cells.size ≠ i.size) = False := by
    rw [eq_iff_iff]; simp; rw [hi2, ← hn, ← hcl]; simp
  rcases hst with ⟨id, idx, off, rfl, h1, rfl⟩ | ⟨u, off, rfl, h1, rfl⟩
  · obtain ⟨pl, c, t1, g1, g2, g3, g4, g5⟩ := F.stH h1 hcs
    obtain ⟨pl', g6, rfl⟩ := hev
    rw [g1] at g6; cases g6
    refine ⟨_, ?_, g4, g5⟩
    have := run_storeCells_at P pl.b (pl.base + idx * pl.sz + off) t1 v'.cells.toList 0 c w g2 (by simpa using g3) hone
    simp only [Instr.storeAt, Instr.sureAddr, storeVar, Sem.run_bind, Sem.run_pure, Result.andThen_ok, run_sizeOf hi1, hsize, if_false]
    rw [this]; simp
  · obtain ⟨b, g0, rfl⟩ := hev
    obtain ⟨b', c, t1, g1, g2, g3, _, g4, g5⟩ := F.stE (F.ge u b g0) h1 hcs
    rw [g0] at g1; cases g1
    refine ⟨_, ?_, g4, g5⟩
    have := run_storeCells_at P b off t1 v'.cells.toList 0 c w g2 (by have := hcl; simp at this ⊢; omega) hone
    simp only [Instr.storeAt, Instr.sureAddr, storeVar, Sem.run_bind, Sem.run_pure, Result.andThen_ok, run_sizeOf hi1, hsize, if_false]
    rw [this]; simp

end
end Go.Proofs.YtpkimnaenlbbjaaGreat.AM

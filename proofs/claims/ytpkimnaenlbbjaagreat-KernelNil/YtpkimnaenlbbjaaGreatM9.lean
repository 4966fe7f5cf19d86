/- Structs and slices made, fields and elements, lengths: carried out alike. Conditions: none. -/
import Derived.Test.YtpkimnaenlbbjaaGreatM8
namespace Go.Proofs.YtpkimnaenlbbjaaGreat.AM
open Go

theorem foldl_over : ∀ (vs : List Value) (cells : Array Value) (off j : Nat), off + j + vs.length ≤ cells.size →
    ((vs.zipIdx j).foldl (fun cs (x : Value × Nat) => cs.setIfInBounds (off + x.2) x.1) cells).toList = cells.toList.take (off + j) ++ vs ++ cells.toList.drop (off + j + vs.length) := by
  intro vs
  induction vs with
  | nil => intro cells off j _; simp
  | cons v vs ih =>
    intro cells off j h
    simp only [List.length_cons] at h
    rw [List.zipIdx_cons, List.foldl_cons]
    have := ih (cells.setIfInBounds (off + j) v) off (j + 1) (by simp; omega)
    rw [this, Array.toList_setIfInBounds]
    have e := list_seg_step cells.toList (off + j) v vs (by simp; omega)
    simp only [List.length_cons]
    rw [← Nat.add_assoc off j 1, e]

section
variable {P : Program} {B0 : Nat} {O : Nat → Prop} {n0 ntm : Nat} {r : PM} {FP : Nat → List Nat} {dl : Nat → Option Nat} {e : Env} {h : Hp} {w : World} {s : KS} {a : Act}

def partc (ntm : Nat) (place : Nat → Option (Nat × Nat)) : List (Nat × Operand) → List (Nat × Nat × Opd) → Bool
  | [], [] => true
  | (i, o) :: ps, (off, sz, x) :: qs => (match place i with | some (p, q) => Nat.beq p off && Nat.beq q sz | none => false) && opdc ntm o x && partc ntm place ps qs
  | _, _ => false

/-- The parts, laid. -/
theorem fill_of (F : Fst B0 O n0 ntm r FP dl e h w s a) {place : Nat → Option (Nat × Nat)} : ∀ {ps : List (Nat × Operand)} {qs : List (Nat × Nat × Opd)} {cells : List AV} {cs : Array Value} {out : List AV}, partc ntm place ps qs = true → VRs r cells cs.toList → cells.all AV.cell = true →
    fillA cells (qs.map fun q => (q.1, q.2.1, q.2.2.ev e)) = some out →
    ∃ out', Instr.fill place cs (ps.map fun q => (q.1, a.eval q.2)) = some out' ∧ VRs r out out'.toList ∧ out.all AV.cell = true := by
  intro ps
  induction ps with
  | nil =>
    intro qs cells cs out hk hcs hall hf
    cases qs with
    | nil => simp only [List.map_nil, fillA] at hf; cases hf; exact ⟨cs, rfl, hcs, hall⟩
    | cons _ _ => simp [partc] at hk
  | cons q ps ih =>
    intro qs cells cs out hk hcs hall hf
    obtain ⟨i, o⟩ := q
    cases qs with
    | nil => simp [partc] at hk
    | cons q2 qs =>
      obtain ⟨off, sz, x⟩ := q2
      simp only [partc, Bool.and_eq_true] at hk
      obtain ⟨⟨hpl, hop⟩, hrest⟩ := hk
      split at hpl
      · rename_i p q hp
        simp only [Bool.and_eq_true, Nat.beq_eq] at hpl
        obtain ⟨rfl, rfl⟩ := hpl
        simp only [List.map_cons, fillA] at hf
        split at hf
        · rename_i hc
          simp only [Bool.and_eq_true, decide_eq_true_eq] at hc
          obtain ⟨⟨h1, h2⟩, h3⟩ := hc
          have hev := opd_EV F hop
          have hVR : VR r (x.ev e) (a.eval o) := by
            refine hev.VR_of ?_
            revert h3
            cases x.ev e <;> intro h3 <;> first | rfl | (simp [AV.cells, AV.cell] at h3)
          have hcv := hVR.cells h3
          have hl1 := hcv.length
          have hl2 := hcs.length
          simp at hl1 hl2
          simp only [List.map_cons, Instr.fill, hp]
          rw [if_neg (by simp; omega)]
          have hfo : ((a.eval o).cells.zipIdx.foldl (fun cs (x : Value × Nat) => cs.setIfInBounds (p + x.2) x.1) cs).toList = cs.toList.take p ++ (a.eval o).cells.toList ++ cs.toList.drop (p + (a.eval o).cells.toList.length) := by
            rw [← Array.foldl_toList, Array.toList_zipIdx]
            have := foldl_over (a.eval o).cells.toList cs p 0 (by simp; omega)
            simpa using this
          refine ih hrest ?_ (over_all _ _ _ hall h3) hf
          rw [hfo]
          exact hcs.over hcv (by omega)
        · cases hf
      · cases hpl

theorem run_mapM_list {α β : Type} {f : α → Sem β} {g : α → β} : ∀ {l : List α}, (∀ x, x ∈ l → (f x).run P w = .ok (g x) w) → (l.mapM f).run P w = .ok (l.map g) w := by
  intro l
  induction l with
  | nil => intro _; rfl
  | cons x l ih =>
    intro hl
    rw [List.mapM_cons]
    simp only [Sem.run_bind, hl x (by simp), Result.andThen_ok, ih (fun y hy => hl y (by simp [hy])), Sem.run_pure, List.map_cons]

theorem run_mapM_array {α β : Type} {f : α → Sem β} {g : α → β} {l : Array α} (hl : ∀ x, x ∈ l.toList → (f x).run P w = .ok (g x) w) : (l.mapM f).run P w = .ok (l.map g) w := by
  rw [Array.mapM_eq_mapM_toList]
  simp only [Sem.run_map, run_mapM_list hl, Result.andThen_ok]
  congr 1
  apply Array.ext'
  simp

def buildc (P : Program) (ntm : Nat) (t : TypeId) (ps : List (Nat × Operand)) (zero : List AV) (qs : List (Nat × Nat × Opd)) : Bool :=
  zeroc P t zero &&
  match P.underlying t with
  | some (.struct fs) => fs.toList.all (fun f => (P.info? f.type).isSome) && partc ntm (fun i => (fs[i]?).map fun f => (f.offset, P.cellsOf f.type)) ps qs
  | some (.array _ el) => (P.info? el).isSome && partc ntm (fun i => some (i * P.cellsOf el, P.cellsOf el)) ps qs
  | _ => false

theorem cellsOf_of {t : TypeId} {i : TypeInfo} (hi : P.info? t = some i) : P.cellsOf t = i.size := by simp [Program.cellsOf, hi]

theorem run_build (F : Fst B0 O n0 ntm r FP dl e h w s a) {t : TypeId} {ps : Array (Nat × Operand)} {zero : List AV} {qs : List (Nat × Nat × Opd)} {out : List AV} (hk : buildc P ntm t ps.toList zero qs = true)
    (hf : fillA zero (qs.map fun q => (q.1, q.2.1, q.2.2.ev e)) = some out) :
    ∃ out', (Instr.build t (ps.map fun q => (q.1, a.eval q.2))).run P w = .ok (.agg out') w ∧ VR r (.ag out) (.agg out') := by
  unfold buildc at hk
  rw [Bool.and_eq_true] at hk
  obtain ⟨hz, hk⟩ := hk
  obtain ⟨i, z, hi, hz1, hz2, hz3, hz4⟩ := zeroc_run (w := w) hz
  split at hk
  · rename_i fs hu
    rw [Bool.and_eq_true] at hk
    obtain ⟨hfs, hp⟩ := hk
    obtain ⟨out', h1, h2, h3⟩ := fill_of F hp (hz2 r) hz3 hf
    refine ⟨out', ?_, ⟨out', rfl, h2⟩⟩
    have hm : (fs.mapM fun (f : Go.Field) => (do pure (f.offset, ← sizeOf f.type) : Sem (Nat × Nat))).run P w = .ok (fs.map fun (f : Go.Field) => (f.offset, P.cellsOf f.type)) w := by
      refine run_mapM_array fun f hf => ?_
      have := List.all_eq_true.1 hfs f hf
      obtain ⟨j, hj⟩ := Option.isSome_iff_exists.1 this
      simp only [Sem.run_bind, run_sizeOf hj, Result.andThen_ok, Sem.run_pure, cellsOf_of hj]
    simp only [Instr.build, Sem.run_bind, hz4, Result.andThen_ok, run_underlying' hu, hm]
    have hpl : (fun i : Nat => (fs.map fun (f : Go.Field) => (f.offset, P.cellsOf f.type))[i]?) = fun i => (fs[i]?).map fun (f : Go.Field) => (f.offset, P.cellsOf f.type) := by
      funext i; simp
    have hl : (ps.map fun q => (q.1, a.eval q.2)).toList = ps.toList.map fun q => (q.1, a.eval q.2) := by simp
    rw [hpl, hl, h1]
    rfl
  · rename_i n el hu
    rw [Bool.and_eq_true] at hk
    obtain ⟨hel, hp⟩ := hk
    obtain ⟨j, hj⟩ := Option.isSome_iff_exists.1 hel
    obtain ⟨out', h1, h2, h3⟩ := fill_of F hp (hz2 r) hz3 hf
    refine ⟨out', ?_, ⟨out', rfl, h2⟩⟩
    have hl : (ps.map fun q => (q.1, a.eval q.2)).toList = ps.toList.map fun q => (q.1, a.eval q.2) := by simp
    simp only [Instr.build, Sem.run_bind, hz4, Result.andThen_ok, run_underlying' hu, run_sizeOf hj, hl]
    rw [cellsOf_of hj] at h1
    rw [h1]
    rfl
  · cases hk

theorem rep_get {sz : Nat} {z : List AV} (hz : z.length = sz) : ∀ (n i : Nat), i < n * sz → ((List.replicate n z).flatten)[i]? = z[i % sz]? := by
  intro n
  induction n with
  | zero => intro i hi; simp at hi
  | succ n ih =>
    intro i hi
    rw [List.replicate_succ, List.flatten_cons]
    rw [Nat.succ_mul] at hi
    by_cases h1 : i < sz
    · rw [List.getElem?_append_left (by omega), Nat.mod_eq_of_lt h1]
    · rw [List.getElem?_append_right (by omega), hz, ih (i - sz) (by omega)]
      congr 1
      exact (Nat.mod_eq_sub_mod (by omega)).symm

/-- Zeros, as many as wanted. -/
theorem VRs.zeros {sz : Nat} {z : List AV} {z' : Array Value} (hzz : VRs r z z'.toList) (hz : z.length = sz) (n : Nat) :
    VRs r (List.replicate n z).flatten ((Array.range (n * sz)).map (z'[· % z'.size]!)).toList := by
  have hl := hzz.length
  simp at hl
  refine VRs.of_get ?_ fun i x hx => ?_
  · rw [flat_length (sz := sz)]
    · simp
    · intro row hrow
      rw [List.mem_replicate] at hrow
      rw [hrow.2, hz]
  · have hi : i < n * sz := by
      have := (List.getElem?_eq_some_iff.1 hx).1
      rw [flat_length (sz := sz)] at this
      · simpa using this
      · intro row hrow
        rw [List.mem_replicate] at hrow
        rw [hrow.2, hz]
    rw [rep_get hz n i hi] at hx
    obtain ⟨y, h1, h2⟩ := hzz.get _ _ hx
    refine ⟨y, ?_, h2⟩
    have hsz : z'.size = sz := by omega
    simp only [Array.toList_map, List.getElem?_map]
    have : (Array.range (n * sz)).toList[i]? = some i := by simp [hi]
    rw [this, hsz]
    simp only [Option.map_some]
    congr 1
    have h3 := (List.getElem?_eq_some_iff.1 h1).1
    simp at h3
    rw [getElem!_pos z' (i % sz) h3]
    simpa using (List.getElem?_eq_some_iff.1 h1).2

theorem chunks_get {sz : Nat} : ∀ (n : Nat) (l : List AV), l.length = n * sz → (chunks sz n l).flatten = l ∧ (∀ row, row ∈ chunks sz n l → row.length = sz ∧ ∀ v, v ∈ row → v ∈ l) ∧ (chunks sz n l).length = n := by
  intro n
  induction n with
  | zero => intro l hl; simp at hl; subst hl; simp [chunks]
  | succ n ih =>
    intro l hl
    rw [Nat.succ_mul] at hl
    obtain ⟨h1, h2, h3⟩ := ih (l.drop sz) (by simp; omega)
    refine ⟨?_, ?_, ?_⟩
    · simp only [chunks, List.flatten_cons, h1, List.take_append_drop]
    · intro row hrow
      simp only [chunks, List.mem_cons] at hrow
      rcases hrow with rfl | hrow
      · exact ⟨by simp; omega, fun v hv => List.mem_of_mem_take hv⟩
      · obtain ⟨g1, g2⟩ := h2 row hrow
        exact ⟨g1, fun v hv => List.mem_of_mem_drop (g2 v hv)⟩
    · simp only [chunks, List.length_cons, h3]

def elemc (P : Program) (t : TypeId) (sz : Nat) : Option TypeId :=
  match P.underlying t with
  | some (.slice el) => if szc P el sz then some el else none
  | _ => none

theorem elemc_of {t el : TypeId} {sz : Nat} (hk : elemc P t sz = some el) : P.underlying t = some (.slice el) ∧ ∃ i, P.info? el = some i ∧ i.size = sz := by
  unfold elemc at hk
  split at hk
  · rename_i el' hu
    split at hk
    · rename_i hs
      cases hk
      exact ⟨hu, szc_run hs⟩
    · cases hk
  · cases hk

def bslicec (P : Program) (ntm : Nat) (t : TypeId) (n : Nat) (ps : List (Nat × Operand)) (sz m : Nat) (z : List AV) (qs : List (Nat × Nat × Opd)) : Bool :=
  match elemc P t sz with
  | some el => Nat.beq n m && Nat.ble (n * sz) (2 ^ 24) && Nat.blt 0 sz && zeroc P el z && Nat.beq z.length sz && partc ntm (fun i => some (i * sz, sz)) ps qs
  | none => false

theorem fillA_length : ∀ {ps : List (Nat × Nat × AV)} {cells out : List AV}, fillA cells ps = some out → out.length = cells.length := by
  intro ps
  induction ps with
  | nil => intro cells out hf; simp only [fillA] at hf; cases hf; rfl
  | cons q ps ih =>
    intro cells out hf
    obtain ⟨off, sz, v⟩ := q
    simp only [fillA] at hf
    split at hf
    · rw [ih hf, over_length]
    · cases hf

theorem all_flat {n : Nat} {z : List AV} (hz : z.all AV.cell = true) : (List.replicate n z).flatten.all AV.cell = true := by
  rw [List.all_eq_true] at hz ⊢
  intro v hv
  rw [List.mem_flatten] at hv
  obtain ⟨row, h1, h2⟩ := hv
  rw [List.mem_replicate] at h1
  rw [h1.2] at h2
  exact hz v h2

/-- A slice of so many elements laid on the stack: the cells, and the world's. -/
theorem run_bslS (F : Fst B0 O n0 ntm r FP dl e h w s a) {t : TypeId} {n m sz : Nat} {ps : Array (Nat × Operand)} {z : List AV} {qs : List (Nat × Nat × Opd)} {cs : List AV} (hk : bslicec P ntm t n ps.toList sz m z qs = true)
    (hf : fillA (List.replicate m z).flatten (qs.map fun q => (q.1, q.2.1, q.2.2.ev e)) = some cs) :
    n = m ∧ ∃ out' el, (Instr.buildSlice t n (ps.map fun q => (q.1, a.eval q.2))).run P w = .ok (.slice (some ⟨w.heap.size, 0, none⟩) m m) (w.alloc (.cells out' el)) ∧ VRs r cs out'.toList ∧ cs.all AV.cell = true := by
  unfold bslicec at hk
  split at hk
  · rename_i el hel
    simp only [Bool.and_eq_true, Nat.beq_eq, Nat.ble_eq, Nat.blt_eq] at hk
    obtain ⟨⟨⟨⟨⟨rfl, h2⟩, h3⟩, h4⟩, h5⟩, h6⟩ := hk
    obtain ⟨hu, i, hi1, hi2⟩ := elemc_of hel
    obtain ⟨i', z', hz0, hz1, hz2, hz3, hz4⟩ := zeroc_run (w := w) h4
    have hzz := (hz2 r).zeros h5 n
    obtain ⟨out', g1, g2, g3⟩ := fill_of F h6 hzz (all_flat hz3) hf
    refine ⟨rfl, out', el, ?_, g2, g3⟩
    have hl : (ps.map fun q => (q.1, a.eval q.2)).toList = ps.toList.map fun q => (q.1, a.eval q.2) := by simp
    simp only [Instr.buildSlice, Sem.run_bind, run_underlying' hu, Result.andThen_ok, run_sizeOf hi1, hi2, Sem.run_ite, Sem.run_pure, hl]
    rw [if_neg (by omega)]
    by_cases hn0 : n * sz = 0
    · rw [if_pos hn0]
      have : (Array.range (n * sz)).map (z'.cells[· % z'.cells.size]!) = (Array.range (n * sz)).map ((#[] : Array Value)[· % (#[] : Array Value).size]!) := by rw [hn0]; simp
      rw [this] at g1
      try simp only [Result.andThen_ok]
      rw [g1]
      simp [newRow]
    · rw [if_neg hn0]
      simp only [hz4, Result.andThen_ok, Sem.run_bind, Sem.run_pure]
      rw [g1]
      simp [newRow]
  · cases hk

theorem run_bslice (F : Fst B0 O n0 ntm r FP dl e h w s a) {t : TypeId} {n m sz : Nat} {ps : Array (Nat × Operand)} {z : List AV} {qs : List (Nat × Nat × Opd)} {cs : List AV} (hk : bslicec P ntm t n ps.toList sz m z qs = true)
    (hf : fillA (List.replicate m z).flatten (qs.map fun q => (q.1, q.2.1, q.2.2.ev e)) = some cs) :
    ∃ v' w' r' FP', (Instr.buildSlice t n (ps.map fun q => (q.1, a.eval q.2))).run P w = .ok v' w' ∧ VR r' (.sl sz h.next 0 m true) v' ∧ r.le r' ∧ Keep O n0 w w' ∧ Fst B0 O n0 ntm r' FP' dl e (h.new (.c sz (chunks sz m cs) false)) w' s a := by
  unfold bslicec at hk
  split at hk
  · rename_i el hel
    simp only [Bool.and_eq_true, Nat.beq_eq, Nat.ble_eq, Nat.blt_eq] at hk
    obtain ⟨⟨⟨⟨⟨rfl, h2⟩, h3⟩, h4⟩, h5⟩, h6⟩ := hk
    obtain ⟨hu, i, hi1, hi2⟩ := elemc_of hel
    obtain ⟨i', z', hz0, hz1, hz2, hz3, hz4⟩ := zeroc_run (w := w) h4
    have hzz := (hz2 r).zeros h5 n
    obtain ⟨out', g1, g2, g3⟩ := fill_of F h6 hzz (all_flat hz3) hf
    have hlen : cs.length = n * sz := by
      rw [fillA_length hf, flat_length (sz := sz)]
      · simp
      · intro row hrow
        rw [List.mem_replicate] at hrow
        rw [hrow.2, h5]
    obtain ⟨c1, c2, c3⟩ := chunks_get (sz := sz) n cs hlen
    have ho := g2.length
    simp at ho
    have F' := F.newRows (c := out') (rows := chunks sz n cs) (sz := sz) el [] (fun row hr => (c2 row hr).1) (fun row hr v hv => List.all_eq_true.1 g3 v ((c2 row hr).2 v hv)) (by rw [c1]; exact g2)
    refine ⟨.slice (some ⟨w.heap.size, 0, none⟩) n n, _, _, _, ?_, ?_, PM.le_put F.st.none_next, keep_alloc F.st.low, F'⟩
    · have hl : (ps.map fun q => (q.1, a.eval q.2)).toList = ps.toList.map fun q => (q.1, a.eval q.2) := by simp
      simp only [Instr.buildSlice, Sem.run_bind, run_underlying' hu, Result.andThen_ok, run_sizeOf hi1, hi2, Sem.run_ite, Sem.run_pure, hl]
      rw [if_neg (by omega)]
      by_cases hn0 : n * sz = 0
      · rw [if_pos hn0]
        have : (Array.range (n * sz)).map (z'.cells[· % z'.cells.size]!) = (Array.range (n * sz)).map ((#[] : Array Value)[· % (#[] : Array Value).size]!) := by rw [hn0]; simp
        rw [this] at g1
        try simp only [Result.andThen_ok]
        rw [g1]
        simp [newRow]
      · rw [if_neg hn0]
        simp only [hz4, Result.andThen_ok, Sem.run_bind, Sem.run_pure]
        rw [g1]
        simp [newRow]
    · refine ⟨w.heap.size, 0, n, rfl, Nat.le_refl _, fun _ => rfl, fun _ => ?_⟩
      refine ⟨_, by unfold PM.put; rw [if_pos rfl], rfl, rfl, by simp, ?_⟩
      show (0 + n) * sz ≤ out'.size + 0
      rw [Nat.zero_add]; omega
  · cases hk

theorem wrap_in {n : Int} (h1 : -9223372036854775808 ≤ n) (h2 : n < 9223372036854775808) : IntKind.i64.wrap n = n := by
  show (if (true && decide (n % 18446744073709551616 ≥ 9223372036854775808)) = true then n % 18446744073709551616 - 18446744073709551616 else n % 18446744073709551616) = n
  split
  · rename_i h; simp at h; omega
  · rename_i h; simp at h; omega

def mkslicec (P : Program) (t : TypeId) (sz : Nat) (z : List AV) (bytes : Nat) : Bool :=
  match elemc P t sz with
  | some el => zeroc P el z && Nat.beq z.length sz && (match P.info? el with | some i => Nat.beq i.bytes bytes | none => false)
  | none => false

theorem run_mkslice (F : Fst B0 O n0 ntm r FP dl e h w s a) {t : TypeId} {sz bytes : Nat} {z : List AV} {k l : IntKind} {n : Int} (hk : mkslicec P t sz z bytes = true) (h0 : 0 ≤ n) (hn : n ≤ most) (hb : bytes ≤ 2 ^ 12) :
    ∃ v' w' r' FP', (Instr.makeSlice t (.int k n) (.int l n)).run P w = .ok v' w' ∧ VR r' (.sl sz h.next 0 n.toNat true) v' ∧ r.le r' ∧ Keep O n0 w w' ∧ Fst B0 O n0 ntm r' FP' dl e (h.new (.c sz (List.replicate n.toNat z) false)) w' s a := by
  unfold mkslicec at hk
  split at hk
  · rename_i el hel
    simp only [Bool.and_eq_true, Nat.beq_eq] at hk
    obtain ⟨⟨h4, h5⟩, h6⟩ := hk
    obtain ⟨hu, i, hi1, hi2⟩ := elemc_of hel
    rw [hi1] at h6
    simp only [Nat.beq_eq] at h6
    obtain ⟨i', z', hz0, hz1, hz2, hz3, hz4⟩ := zeroc_run (w := w) h4
    have hzz := (hz2 r).zeros h5 n.toNat
    have hl : ∀ row, row ∈ List.replicate n.toNat z → row.length = sz := by
      intro row hrow; rw [List.mem_replicate] at hrow; rw [hrow.2, h5]
    have F' := F.newRows (c := (Array.range (n.toNat * sz)).map (z'.cells[· % z'.cells.size]!)) (rows := List.replicate n.toNat z) (sz := sz) el [] hl (fun row hr v hv => by rw [List.mem_replicate] at hr; rw [hr.2] at hv; exact List.all_eq_true.1 hz3 v hv) hzz
    have hwrap : IntKind.i64.wrap n = n := by
      unfold most at hn
      exact wrap_in (by omega) (by omega)
    have htl : (decide (n < 0) || decide ((i.bytes : Int) * n > 2 ^ 48)) = false := by
      unfold most at hn
      simp only [Bool.or_eq_false_iff, decide_eq_false_iff_not]
      refine ⟨by omega, ?_⟩
      rw [h6]
      have h1 : (bytes : Int) * n ≤ (2 ^ 12 : Int) * n := Int.mul_le_mul_of_nonneg_right (by exact_mod_cast hb) h0
      have h2 : (2 ^ 12 : Int) * n ≤ 2 ^ 12 * (2 ^ 33 : Nat) := Int.mul_le_mul_of_nonneg_left hn (by decide)
      have h3 : ((2 : Int) ^ 12) * ((2 ^ 33 : Nat) : Int) ≤ 2 ^ 48 := by decide
      omega
    refine ⟨.slice (some ⟨w.heap.size, 0, none⟩) n.toNat n.toNat, _, _, _, ?_, ?_, PM.le_put F.st.none_next, keep_alloc F.st.low, F'⟩
    · simp only [Instr.makeSlice, Sem.run_bind, run_underlying' hu, Result.andThen_ok, asInt, asIntOf, Sem.run_pure, run_typeInfo hi1, hwrap, Sem.run_ite]
      have hbig : (decide (n < 0) || decide (↑i.bytes * n > 2 ^ 48)) = false := htl
      rw [if_neg (by rw [hbig]; simp; omega)]
      simp only [run_askRoom, Result.andThen_ok, run_sizeOf hi1, hi2, Sem.run_bind, Sem.run_ite, Sem.run_pure]
      by_cases hn0 : n.toNat * sz = 0
      · rw [if_pos hn0]
        have : (Array.range (n.toNat * sz)).map (z'.cells[· % z'.cells.size]!) = (Array.range (n.toNat * sz)).map ((#[] : Array Value)[· % (#[] : Array Value).size]!) := by rw [hn0]; simp
        simp only [Result.andThen_ok, newRow, Sem.run_bind, run_newObj, Sem.run_pure]
        rw [this]
        simp
      · rw [if_neg hn0]
        simp only [hz4, Result.andThen_ok, Sem.run_bind, Sem.run_pure, newRow, run_newObj]
        simp
    · refine ⟨w.heap.size, 0, n.toNat, rfl, Nat.le_refl _, fun _ => rfl, fun _ => ?_⟩
      refine ⟨_, by unfold PM.put; rw [if_pos rfl], rfl, rfl, by simp, ?_⟩
      show (0 + n.toNat) * sz ≤ ((Array.range (n.toNat * sz)).map (z'.cells[· % z'.cells.size]!)).size + 0
      simp
  · cases hk

end
end Go.Proofs.YtpkimnaenlbbjaaGreat.AM

/- Loads, stores and new blocks: what the machine does, the world does. Conditions: none. -/
import Derived.Test.YtpkimnaenlbbjaaGreatM5
namespace Go.Proofs.YtpkimnaenlbbjaaGreat.AM
open Go

theorem flat_get {sz : Nat} : ∀ {rows : List (List AV)}, (∀ row, row ∈ rows → row.length = sz) → ∀ (idx : Nat) (row : List AV) (off : Nat), rows[idx]? = some row → off < sz → rows.flatten[idx * sz + off]? = row[off]? := by
  intro rows
  induction rows with
  | nil => intro _ idx row off h; simp at h
  | cons x xs ih =>
    intro hl idx row off h ho
    have hx := hl x (by simp)
    cases idx with
    | zero =>
      simp at h; subst h
      rw [List.flatten_cons, Nat.zero_mul, Nat.zero_add, List.getElem?_append_left (by omega)]
    | succ idx =>
      simp at h
      have := ih (fun row hr => hl row (by simp [hr])) idx row off h ho
      rw [List.flatten_cons, List.getElem?_append_right (by rw [hx, Nat.succ_mul]; omega), ← this]
      congr 1
      rw [hx, Nat.succ_mul]; omega

theorem flat_length {sz : Nat} : ∀ {rows : List (List AV)}, (∀ row, row ∈ rows → row.length = sz) → rows.flatten.length = rows.length * sz := by
  intro rows
  induction rows with
  | nil => intro _; simp
  | cons x xs ih =>
    intro hl
    rw [List.flatten_cons, List.length_append, ih (fun row hr => hl row (by simp [hr])), hl x (by simp), List.length_cons, Nat.succ_mul]
    omega

section
variable {B0 : Nat} {O : Nat → Prop} {n0 ntm : Nat} {r : PM} {FP : Nat → List Nat} {dl : Nat → Option Nat} {e : Env} {h : Hp} {w : World} {s : KS} {a : Act}

/-- A new block of rows. -/
theorem St.newRows (S : St B0 O n0 r FP h w s) {sz : Nat} {rows : List (List AV)} {c : Array Value} (t : TypeId) (extra : List Value) (hlen : ∀ row, row ∈ rows → row.length = sz) (hcell : ∀ row, row ∈ rows → ∀ v, v ∈ row → v.cell = true)
    (hc : VRs r rows.flatten c.toList) :
    St B0 O n0 (r.put h.next ⟨w.heap.size, 0, sz, c.size + extra.length⟩) (fput FP h.next [w.heap.size]) (h.new (.c sz rows false)) (w.alloc (.cells (c ++ extra.toArray) t)) s := by
  refine S.new _ _ _ rfl rfl ⟨rfl, rfl, c ++ extra.toArray, t, (0, 0), heap_push_eq, fun _ => rfl, by simp, ?_, ?_⟩
  · have := hc.length
    rw [flat_length hlen, Array.length_toList] at this
    show rows.length * sz ≤ c.size + extra.length
    omega
  · intro idx row hrow
    have hm := List.mem_of_getElem? hrow
    refine ⟨hlen row hm, fun off v hv => ⟨hcell row hm v (List.mem_of_getElem? hv), ?_⟩⟩
    have ho : off < sz := by
      have := (List.getElem?_eq_some_iff.1 hv).1
      rw [hlen row hm] at this; exact this
    have hf := flat_get hlen idx row off hrow ho
    obtain ⟨v', h1, h2⟩ := hc.get (idx * sz + off) v (by rw [hf]; exact hv)
    have hlt := (List.getElem?_eq_some_iff.1 h1).1
    simp at hlt
    refine ⟨v', ?_, h2.mono (PM.le_put S.none_next)⟩
    show (c ++ extra.toArray)[0 + idx * sz + off]? = some v'
    rw [Nat.zero_add, Array.getElem?_append_left (by omega)]
    simpa using h1

theorem Fst.newRows (F : Fst B0 O n0 ntm r FP dl e h w s a) {sz : Nat} {rows : List (List AV)} {c : Array Value} (t : TypeId) (extra : List Value) (hlen : ∀ row, row ∈ rows → row.length = sz) (hcell : ∀ row, row ∈ rows → ∀ v, v ∈ row → v.cell = true)
    (hc : VRs r rows.flatten c.toList) :
    Fst B0 O n0 ntm (r.put h.next ⟨w.heap.size, 0, sz, c.size + extra.length⟩) (fput FP h.next [w.heap.size]) dl e (h.new (.c sz rows false)) (w.alloc (.cells (c ++ extra.toArray) t)) s a := by
  refine F.move (F.st.newRows t extra hlen hcell hc) (PM.le_put F.st.none_next) (by simp) (fun b hb _ _ => heap_push_lt hb) ?_
  intro id B hB hro b hb
  rw [Hp.blk_new] at hB
  split at hB
  · rename_i e1; subst e1
    unfold fput at hb; rw [if_pos rfl] at hb
    simp at hb; exact .inr (by omega)
  · rename_i e1
    unfold fput at hb; rw [if_neg e1] at hb
    exact .inl ⟨id, B, hB, hro, hb⟩

theorem Fst.forget (F : Fst B0 O n0 ntm r FP dl e h w s a) (id0 : Nat) : Fst B0 O n0 ntm r FP dl e (h.set id0 none) w s a := by
  refine F.move (F.st.forget id0) r.le_refl (Nat.le_refl _) (fun _ _ _ _ => rfl) ?_
  intro id B hB hro b hb
  rw [Hp.blk_set] at hB
  split at hB
  · cases hB
  · exact .inl ⟨id, B, hB, hro, hb⟩

/-- What has been loaded, of an address on: a cell, or so many. -/
def Loaded (r : PM) (c : Array Value) (off : Nat) : Option Nat → AV → Prop
  | none, v => v.cell = true ∧ ∃ v', c[off]? = some v' ∧ VR r v v'
  | some m, v => ∃ cs cs', v = .ag cs ∧ cs.length = m ∧ cs.all AV.cell = true ∧ VRs r cs cs' ∧ ∀ (j : Nat) v', cs'[j]? = some v' → c[off + j]? = some v'

/-- The machine's cells are the world's. -/
theorem St.ldH (S : St B0 O n0 r FP h w s) {id idx off : Nat} {n : Option Nat} {v : AV} (hl : ldH h id idx off n = some v) :
    ∃ pl c t fr, r id = some pl ∧ w.heap[pl.b]? = some (.cells c t fr) ∧
      Loaded r c (pl.base + idx * pl.sz + off) n v := by
  unfold AM.ldH at hl
  split at hl
  · rename_i sz rows ro hb
    obtain ⟨pl, h1, h2, h3, c, t, fr, h4, h5, h6, h6', h7⟩ := S.live _ _ hb
    split at hl
    · rename_i row hrow
      obtain ⟨g1, g2⟩ := h7 idx row hrow
      refine ⟨pl, c, t, fr, h1, h4, ?_⟩
      cases n with
      | none =>
        obtain ⟨k1, v', k2, k3⟩ := g2 off v hl
        exact ⟨k1, v', by rw [h2]; exact k2, k3⟩
      | some m =>
        dsimp only at hl
        split at hl
        · rename_i hm
          cases hl
          have hx : ∀ j, j < m → ∃ v', c[pl.base + idx * pl.sz + off + j]? = some v' ∧ ∃ x, row[off + j]? = some x ∧ VR r x v' ∧ x.cell = true := by
            intro j hj
            have hlt : off + j < row.length := by omega
            obtain ⟨k1, v', k2, k3⟩ := g2 (off + j) row[off + j] (List.getElem?_eq_getElem hlt)
            exact ⟨v', by rw [h2, Nat.add_assoc]; exact k2, _, List.getElem?_eq_getElem hlt, k3, k1⟩
          refine ⟨_, (List.range m).map fun j => (c[pl.base + idx * pl.sz + off + j]?).getD undef, rfl, by simp; omega, ?_, ?_, ?_⟩
          · rw [List.all_eq_true]
            intro x hxm
            obtain ⟨j, hj⟩ := List.getElem?_of_mem hxm
            rw [List.getElem?_take] at hj
            split at hj
            · rename_i hjm
              obtain ⟨v', _, x', k2, _, k4⟩ := hx j hjm
              rw [List.getElem?_drop, k2] at hj
              cases hj; exact k4
            · cases hj
          · refine VRs.of_get (by simp; omega) fun j x hxj => ?_
            rw [List.getElem?_take] at hxj
            split at hxj
            · rename_i hjm
              obtain ⟨v', k1, x', k2, k3, _⟩ := hx j hjm
              rw [List.getElem?_drop, k2] at hxj
              cases hxj
              exact ⟨v', by simp [hjm, k1], k3⟩
            · cases hxj
          · intro j v' hj
            simp only [List.getElem?_map, Option.map_eq_some_iff] at hj
            obtain ⟨j', hj1, hj2⟩ := hj
            have hjl := (List.getElem?_eq_some_iff.1 hj1).1
            simp at hjl
            have : j' = j := by
              have := (List.getElem?_eq_some_iff.1 hj1).2
              simpa using this.symm
            subst this
            obtain ⟨v'', k1, _⟩ := hx j' hjl
            rw [k1] at hj2 ⊢
            simp at hj2; rw [hj2]
        · cases hl
    · cases hl
  · cases hl

/-- A store into the heap. -/
theorem Fst.stH (F : Fst B0 O n0 ntm r FP dl e h w s a) {id idx off : Nat} {vs : List AV} {vs' : List Value} {h' : Hp} (hst : stH h id idx off vs = some h') (hvs : VRs r vs vs') :
    ∃ pl c t, r id = some pl ∧ w.heap[pl.b]? = some (.cells c t (0, 0)) ∧ pl.base + idx * pl.sz + off + vs'.length ≤ c.size ∧
      Fst B0 O n0 ntm r FP dl e h' (w.setRow pl.b (c.toList.take (pl.base + idx * pl.sz + off) ++ vs' ++ c.toList.drop (pl.base + idx * pl.sz + off + vs'.length)).toArray) s a ∧
      Keep O n0 w (w.setRow pl.b (c.toList.take (pl.base + idx * pl.sz + off) ++ vs' ++ c.toList.drop (pl.base + idx * pl.sz + off + vs'.length)).toArray) := by
  unfold AM.stH at hst
  split at hst
  · rename_i sz rows hb
    split at hst
    · rename_i row hrow
      split at hst
      · rename_i hcond
        cases hst
        simp only [Bool.and_eq_true, decide_eq_true_eq] at hcond
        obtain ⟨hl, hall⟩ := hcond
        obtain ⟨pl, h1, h2, h3, c, t, fr, h4, h5, h6, h6', h7⟩ := F.st.live _ _ hb
        have hfr := h5 rfl
        subst hfr
        obtain ⟨g1, g2⟩ := h7 idx row hrow
        have hil := (List.getElem?_eq_some_iff.1 hrow).1
        have hvl := hvs.length
        have hmul : (idx + 1) * sz ≤ rows.length * sz := Nat.mul_le_mul_right _ hil
        rw [Nat.succ_mul] at hmul
        have hbound : pl.base + idx * pl.sz + off + vs'.length ≤ c.size := by rw [h2]; omega
        have hrowset := setRow_heap w pl.b c (c.toList.take (pl.base + idx * pl.sz + off) ++ vs' ++ c.toList.drop (pl.base + idx * pl.sz + off + vs'.length)).toArray t (0, 0) h4
        have hother : ∀ b, b < w.heap.size → b ∉ FP id → (w.setRow pl.b (c.toList.take (pl.base + idx * pl.sz + off) ++ vs' ++ c.toList.drop (pl.base + idx * pl.sz + off + vs'.length)).toArray).heap[b]? = w.heap[b]? := by
          intro b _ hnb
          refine setRow_other fun e1 => hnb ?_
          rw [h3, e1]; simp
        refine ⟨pl, c, t, h1, h4, hbound, ?_, F.st.keep_of hb rfl rfl rfl rfl (by rw [setRow_size]; exact Nat.le_refl _) hother⟩
        have S' := F.st.turn id _ (.c sz (rows.set idx (over row off vs)) false) (w.setRow pl.b (c.toList.take (pl.base + idx * pl.sz + off) ++ vs' ++ c.toList.drop (pl.base + idx * pl.sz + off + vs'.length)).toArray) (FP id) hb rfl rfl (by rw [setRow_size]; exact Nat.le_refl _) hother (fun b hb => .inl hb) (by
          intro pl2 hp2 _
          rw [h1] at hp2
          cases hp2
          refine ⟨h2, h3, _, t, (0, 0), hrowset, fun _ => rfl, ?_, by simpa using h6', ?_⟩
          · simp; omega
          · intro j row' hj
            rw [List.getElem?_set] at hj
            have hspl := fun k => splice_get (c := c.toList) (vs := vs') (o := pl.base + idx * pl.sz + off) (by simpa using hbound) k
            split at hj
            · rename_i hij
              subst hij
              try rw [if_pos hil] at hj
              cases hj
              refine ⟨by rw [over_length]; exact g1, fun o v hv => ?_⟩
              have hol := (List.getElem?_eq_some_iff.1 hv).1
              rw [over_length] at hol
              rw [over_get _ _ _ _ hl] at hv
              split at hv
              · rename_i hin
                obtain ⟨v', k1, k2⟩ := hvs.get _ _ hv
                refine ⟨List.all_eq_true.1 hall v (List.mem_of_getElem? hv), v', ?_, k2⟩
                rw [List.getElem?_toArray, hspl, if_pos (by rw [h2]; omega)]
                rw [← k1]; congr 1; rw [h2]; omega
              · rename_i hin
                obtain ⟨k1, v', k2, k3⟩ := g2 o v hv
                refine ⟨k1, v', ?_, k3⟩
                rw [List.getElem?_toArray, hspl, if_neg (by rw [h2]; omega)]
                simpa using k2
            · rename_i hij
              obtain ⟨k1, k2⟩ := h7 j row' hj
              have hjl := (List.getElem?_eq_some_iff.1 hj).1
              refine ⟨k1, fun o v hv => ?_⟩
              obtain ⟨m1, v', m2, m3⟩ := k2 o v hv
              have hol := (List.getElem?_eq_some_iff.1 hv).1
              refine ⟨m1, v', ?_, m3⟩
              rw [List.getElem?_toArray, hspl, if_neg ?_]
              · simpa using m2
              · rw [h2]
                rcases Nat.lt_or_gt_of_ne hij with g | g
                · have : (idx + 1) * sz ≤ j * sz := Nat.mul_le_mul_right _ g
                  rw [Nat.succ_mul] at this
                  omega
                · have : (j + 1) * sz ≤ idx * sz := Nat.mul_le_mul_right _ g
                  rw [Nat.succ_mul] at this
                  omega)
        have hFP : fput FP id (FP id) = FP := by
          funext j; unfold fput; split
          · rename_i e1; rw [e1]
          · rfl
        rw [hFP] at S'
        refine F.move S' r.le_refl (by rw [setRow_size]; exact Nat.le_refl _) (fun b hb' _ hn => hother b hb' (hn id _ hb rfl)) ?_
        intro id1 B hB hro b hbm
        rw [Hp.blk_set] at hB
        split at hB
        · rename_i e1; subst e1
          exact .inl ⟨id1, _, hb, rfl, hbm⟩
        · exact .inl ⟨id1, B, hB, hro, hbm⟩
      · cases hst
    · cases hst
  · cases hst

end
end Go.Proofs.YtpkimnaenlbbjaaGreat.AM

/- append, copy, clear: carried out alike, whatever the capacities. Conditions: none. -/
import Derived.Test.YtpkimnaenlbbjaaGreatM10
namespace Go.Proofs.YtpkimnaenlbbjaaGreat.AM
open Go

section
variable {P : Program} {B0 : Nat} {O : Nat → Prop} {n0 ntm : Nat} {r : PM} {FP : Nat → List Nat} {dl : Nat → Option Nat} {e : Env} {h : Hp} {w : World} {s : KS} {a : Act}

/-- The rows of a slice lie in the world. -/
theorem rows_cells (S : St B0 O n0 r FP h w s) {sz : Nat} {x : AV} {x' : Value} {rows : List (List AV)} (hx : VR r x x') (hr : rowsOr h sz x = some rows) :
    ∃ base len cap, x' = .slice base len cap ∧ len = rows.length ∧ len ≤ cap ∧ (∀ row, row ∈ rows → row.length = sz ∧ ∀ v, v ∈ row → v.cell = true) ∧
      (base = none → rows = []) ∧
      ∃ cs, VRs r rows.flatten cs ∧ ∀ ad, base = some ad → ∀ j v, cs[j]? = some v → w.cell? (ad.add j) = some v := by
  unfold rowsOr at hr
  split at hr
  · cases hr
    simp only [VR] at hx
    subst hx
    exact ⟨none, 0, 0, rfl, rfl, Nat.le_refl _, by simp, fun _ => rfl, [], by simp [VRs], (fun ad h => by cases h)⟩
  · cases hr
    simp only [VR] at hx
    obtain ⟨a, rfl⟩ := hx
    exact ⟨some a, 0, 0, rfl, rfl, Nat.le_refl _, by simp, (fun h => by cases h), [], by simp [VRs], fun ad _ j v hv => by simp at hv⟩
  · rename_i z id idx len tight
    split at hr
    · rename_i hz
      subst hz
      simp only [VR] at hx
      obtain ⟨b, off, cap, rfl, h1, h2, h3⟩ := hx
      split at hr
      · rename_i hl
        cases hr
        subst hl
        exact ⟨_, 0, cap, rfl, rfl, h1, by simp, (fun h => by cases h), [], by simp [VRs], fun ad _ j v hv => by simp at hv⟩
      · rename_i hl
        split at hr
        · rename_i y rows' ro hb
          split at hr
          · rename_i hc
            cases hr
            obtain ⟨rfl, hc⟩ := hc
            obtain ⟨pl, g1, g2, g3, c, t, fr, g4, g5, g6, g6', g7⟩ := S.live _ _ hb
            obtain ⟨pl', k1, k2, k3, k4, k5⟩ := h3 (by omega)
            rw [g1] at k1; cases k1
            have hrow : ∀ j row, ((rows'.drop idx).take len)[j]? = some row → j < len ∧ rows'[idx + j]? = some row := by
              intro j row hj
              rw [List.getElem?_take] at hj
              split at hj
              · rename_i hjl
                rw [List.getElem?_drop] at hj
                exact ⟨hjl, hj⟩
              · cases hj
            have hlen : ∀ row, row ∈ (rows'.drop idx).take len → row.length = y := by
              intro row hm
              obtain ⟨j, hj⟩ := List.getElem?_of_mem hm
              exact (g7 _ _ (hrow j row hj).2).1
            refine ⟨_, len, cap, rfl, by simp; omega, h1, ?_, (fun h => by cases h), ?_⟩
            · intro row hm
              refine ⟨hlen row hm, fun v hv => ?_⟩
              obtain ⟨j, hj⟩ := List.getElem?_of_mem hm
              obtain ⟨o, ho⟩ := List.getElem?_of_mem hv
              exact ((g7 _ _ (hrow j row hj).2).2 o v ho).1
            · have hfl := flat_length hlen
              have hll : ((rows'.drop idx).take len).length = len := by simp; omega
              rw [hll] at hfl
              have key : ∀ j x, ((rows'.drop idx).take len).flatten[j]? = some x → ∃ v', c[pl.base + idx * y + j]? = some v' ∧ VR r x v' := by
                intro j x hj
                have hjl := (List.getElem?_eq_some_iff.1 hj).1
                rw [hfl] at hjl
                have hy : 0 < y := by
                  rcases Nat.eq_zero_or_pos y with h0 | h0
                  · rw [h0] at hjl; simp at hjl
                  · exact h0
                have hd : j = (j / y) * y + j % y := by rw [Nat.mul_comm]; exact (Nat.div_add_mod j y).symm
                have hq : j / y < len := by rw [Nat.div_lt_iff_lt_mul hy]; exact hjl
                have hrow2 : ((rows'.drop idx).take len)[j / y]? = some ((rows'.drop idx).take len)[j / y] := List.getElem?_eq_getElem (by omega)
                have := flat_get hlen (j / y) _ (j % y) hrow2 (Nat.mod_lt _ hy)
                rw [← hd, hj] at this
                obtain ⟨m1, v', m2, m3⟩ := (g7 _ _ (hrow _ _ hrow2).2).2 _ _ this.symm
                refine ⟨v', ?_, m3⟩
                rw [← m2, Nat.add_mul]
                congr 1
                omega
              refine ⟨(List.range (len * y)).map fun j => (c[pl.base + idx * y + j]?).getD undef, ?_, ?_⟩
              · refine VRs.of_get (by rw [hfl]; simp) fun j x hj => ?_
                obtain ⟨v', m1, m2⟩ := key j x hj
                have hjl := (List.getElem?_eq_some_iff.1 hj).1
                rw [hfl] at hjl
                exact ⟨v', by simp [hjl, m1], m2⟩
              · intro ad had j v hv
                cases had
                have hjl := (List.getElem?_eq_some_iff.1 hv).1
                simp at hjl
                simp [hjl] at hv
                have hx : ((rows'.drop idx).take len).flatten[j]? = some (((rows'.drop idx).take len).flatten[j]'(by rw [hfl]; exact hjl)) := List.getElem?_eq_getElem _
                obtain ⟨v', m1, m2⟩ := key j _ hx
                rw [m1] at hv
                simp at hv
                subst hv
                rw [addr_add, k3, k4]
                exact cell_of g4 m1
          · cases hr
        · cases hr
    · cases hr
  · cases hr

/-- The rows of what is appended lie in the world. -/
theorem rowsX_cells (F : Fst B0 O n0 ntm r FP dl e h w s a) {sz : Nat} {x : AV} {x' : Value} {rows : List (List AV)} (hx : EV r dl x x') (hr : rowsX e h sz x = some rows) :
    ∃ base len cap, x' = .slice base len cap ∧ len = rows.length ∧ len ≤ cap ∧ (∀ row, row ∈ rows → row.length = sz ∧ ∀ v, v ∈ row → v.cell = true) ∧
      (base = none → rows = []) ∧
      ∃ cs, VRs r rows.flatten cs ∧ ∀ ad, base = some ad → ∀ j v, cs[j]? = some v → w.cell? (ad.add j) = some v := by
  unfold rowsX at hr
  split at hr
  · rename_i z slot n
    split at hr
    · rename_i hz
      subst hz
      obtain ⟨b, h1, rfl⟩ := hx
      split at hr
      · rename_i cs hcs
        split at hr
        · rename_i hl
          cases hr
          obtain ⟨h2, b', c, t1, h3, h4, h5⟩ := F.slot slot cs (F.ge slot b h1) hcs
          rw [h1] at h3; cases h3
          obtain ⟨g1, g2, g3⟩ := chunks_get (sz := z) n cs hl
          refine ⟨_, n, n, rfl, g3.symm, Nat.le_refl _, fun row hm => ⟨(g2 row hm).1, fun v hv => List.all_eq_true.1 h2 v ((g2 row hm).2 v hv)⟩, (fun h => by cases h), c.toList, by rw [g1]; exact h5, ?_⟩
          intro ad had j v hv
          cases had
          rw [addr_add, Nat.zero_add]
          exact cell_of h4 (by simpa using hv)
        · cases hr
      · cases hr
    · cases hr
  · have hxV : VR r x x' := hx.VR_of (by revert hr; unfold rowsOr; cases x <;> intro hr <;> first | rfl | (cases hr; done))
    exact rows_cells F.st hxV hr

/-- The first cells of a slice. -/
theorem run_firstCells {sz len cap : Nat} {base : Option Addr} {cs : List Value} {n : Nat} (hcs : ∀ ad, base = some ad → ∀ j v, cs[j]? = some v → w.cell? (ad.add j) = some v) (hl : cs.length = n * sz) (hnone : base = none → cs = []) :
    (Builtin.firstCells sz n (.slice base len cap)).run P w = .ok cs.toArray w := by
  cases base with
  | none => rw [hnone rfl]; rfl
  | some ad =>
    simp only [Builtin.firstCells]
    rw [← hl]
    exact run_loadCells_list w ad cs (hcs ad rfl)

theorem St.drew (S : St B0 O n0 r FP h w s) : St B0 O n0 r FP h w.drew s :=
  ⟨S.b0, S.ob, S.low, S.dom, fun id B hB => by obtain ⟨pl, h1, h2⟩ := S.live id B hB; exact ⟨pl, h1, h2.keep r.le_refl fun _ _ => rfl⟩, S.own, S.apart, S.rob⟩
theorem Fst.drew (F : Fst B0 O n0 ntm r FP dl e h w s a) : Fst B0 O n0 ntm r FP dl e h w.drew s a :=
  F.move F.st.drew r.le_refl (Nat.le_refl _) (fun _ _ _ _ => rfl) fun id B hB hro b hb => .inl ⟨id, B, hB, hro, hb⟩
theorem keep_drew : Keep O n0 w w.drew := ⟨rfl, rfl, rfl, Nat.le_refl _, fun _ _ _ => rfl⟩

/-- A block goes on under a new number, of another place in the same memory. -/
theorem St.rename (S : St B0 O n0 r FP h w s) {id0 : Nat} {B B' : Blk} {pl : Pl} {w' : World} (hB : h.blk id0 = some B) (hro : B.ro = false) (hro' : B'.ro = false) (hsz : w.heap.size ≤ w'.heap.size)
    (hw : ∀ b, b < w.heap.size → b ∉ FP id0 → w'.heap[b]? = w.heap[b]?) (hB' : BR (r.put h.next pl) w' s pl B' (FP id0)) :
    St B0 O n0 (r.put h.next pl) (fput FP h.next (FP id0)) ((h.set id0 none).new B') w' s := by
  have hdis : ∀ id B1, id ≠ id0 → h.blk id = some B1 → ∀ b, b ∈ FP id → b ∉ FP id0 := by
    intro id B1 hne hb b hbm hb0
    cases hr1 : B1.ro with
    | false => exact S.apart id id0 B1 B hb hB hr1 hro hne b hbm hb0
    | true =>
      have h1 := S.rob id B1 hb hr1 b hbm
      have hb := S.b0
      rcases S.own id0 B hB hro b hb0 with h2 | h2
      · have := S.ob b h2; omega
      · omega
  have hnone := S.none_next
  have hid0 : id0 ≠ h.next := by
    intro e1
    obtain ⟨pl0, h1, _⟩ := S.live id0 B hB
    rw [e1, hnone] at h1; cases h1
  have hb : ∀ id B1, ((h.set id0 none).new B').blk id = some B1 → (id = h.next ∧ B1 = B') ∨ (id ≠ h.next ∧ id ≠ id0 ∧ h.blk id = some B1) := by
    intro id B1 h1
    rw [Hp.blk_new, Hp.next_set] at h1
    split at h1
    · rename_i e1; cases h1; exact .inl ⟨e1, rfl⟩
    · rename_i e1
      rw [Hp.blk_set] at h1
      split at h1
      · cases h1
      · rename_i e2; exact .inr ⟨e1, e2, h1⟩
  have hF : ∀ id, id ≠ h.next → fput FP h.next (FP id0) id = FP id := fun id hid => by unfold fput; rw [if_neg hid]
  have hFn : fput FP h.next (FP id0) h.next = FP id0 := by unfold fput; rw [if_pos rfl]
  refine ⟨S.b0, S.ob, Nat.le_trans S.low hsz, ?_, ?_, ?_, ?_, ?_⟩
  · intro id pl' hp
    rw [Hp.next_new, Hp.next_set]
    unfold PM.put at hp
    split at hp
    · omega
    · have := S.dom _ _ hp; omega
  · intro id B1 h1
    rcases hb id B1 h1 with ⟨rfl, rfl⟩ | ⟨e1, e2, h2⟩
    · exact ⟨pl, by unfold PM.put; rw [if_pos rfl], by rw [hFn]; exact hB'⟩
    · obtain ⟨pl', g1, g2⟩ := S.live id B1 h2
      exact ⟨pl', PM.le_put hnone _ _ g1, by rw [hF id e1]; exact g2.keep (PM.le_put hnone) fun b hbm => hw b (g2.lt b hbm) (hdis id B1 e2 h2 b hbm)⟩
  · intro id B1 h1 hr b hbm
    rcases hb id B1 h1 with ⟨rfl, rfl⟩ | ⟨e1, e2, h2⟩
    · rw [hFn] at hbm; exact S.own id0 B hB hro b hbm
    · rw [hF id e1] at hbm; exact S.own id B1 h2 hr b hbm
  · intro id id' B1 B2 h1 h2 r1 r2 hne b hb1 hb2
    rcases hb id B1 h1 with ⟨rfl, rfl⟩ | ⟨e1, e2, h3⟩
    · rcases hb id' B2 h2 with ⟨rfl, rfl⟩ | ⟨e3, e4, h4⟩
      · exact hne rfl
      · rw [hFn] at hb1; rw [hF id' e3] at hb2
        exact S.apart id0 id' B B2 hB h4 hro r2 (fun h => e4 h.symm) b hb1 hb2
    · rw [hF id e1] at hb1
      rcases hb id' B2 h2 with ⟨rfl, rfl⟩ | ⟨e3, e4, h4⟩
      · rw [hFn] at hb2
        exact S.apart id id0 B1 B h3 hB r1 hro e2 b hb1 hb2
      · rw [hF id' e3] at hb2
        exact S.apart id id' B1 B2 h3 h4 r1 r2 hne b hb1 hb2
  · intro id B1 h1 hr b hbm
    rcases hb id B1 h1 with ⟨rfl, rfl⟩ | ⟨e1, e2, h2⟩
    · rw [hro'] at hr; cases hr
    · rw [hF id e1] at hbm; exact S.rob id B1 h2 hr b hbm

def appc (P : Program) (t0 t1 : TypeId) (sz bytes : Nat) : Bool :=
  match elemc P t0 sz with
  | some el => (match P.info? el with | some i => Nat.beq i.bytes bytes && (match i.zero with | some z => Nat.beq z.cells.size sz | none => false) | none => false) && (match P.underlying t1 with | some (.slice _) => true | _ => false)
  | none => false

theorem growBy_le : ∀ (k newLen c : Nat), Builtin.growBy newLen k c ≤ (c + 768) * 2 ^ k := by
  intro k
  induction k with
  | zero => intro n c; simp only [Builtin.growBy]; omega
  | succ k ih =>
    intro n c
    simp only [Builtin.growBy]
    split
    · calc c ≤ (c + 768) * 1 := by omega
        _ ≤ (c + 768) * 2 ^ (k + 1) := Nat.mul_le_mul_left _ (Nat.one_le_two_pow)
    · refine Nat.le_trans (ih n _) ?_
      rw [Nat.pow_succ, Nat.mul_comm (2 ^ k) 2, ← Nat.mul_assoc]
      exact Nat.mul_le_mul_right _ (by omega)

theorem nextslicecap_le {need cap : Nat} (h1 : need ≤ most) (h2 : cap < need) : Builtin.nextslicecap need cap ≤ 2 ^ 36 := by
  unfold most at h1
  unfold Builtin.nextslicecap
  split
  · omega
  · split
    · omega
    · rename_i h3 h4
      -- the rounds: each adds a quarter and some
      have step : ∀ (k c : Nat), c < 2 ^ 33 * 5 → Builtin.growBy need k c ≤ 2 ^ 36 := by
        intro k
        induction k with
        | zero => intro c hc; simp only [Builtin.growBy]; omega
        | succ k ih =>
          intro c hc
          simp only [Builtin.growBy]
          split
          · omega
          · rename_i h5
            exact ih _ (by omega)
      exact step 4 cap (by omega)

/-- append where there is room: the cells are laid behind. -/
theorem run_append_room {t0 t1 ty el : TypeId} {sz : Nat} {base : Option Addr} {len cap xlen xcap : Nat} {xb : Option Addr} {cs : List Value} {i : TypeInfo} (hu : P.underlying t0 = some (.slice el)) (hi : P.info? el = some i) (hsz : i.size = sz) (hu1 : ∃ u, P.underlying t1 = some (.slice u))
    (hx : (Builtin.firstCells sz xlen (.slice xb xlen xcap)).run P w = .ok cs.toArray w) (hroom : len + xlen ≤ cap) :
    (Builtin.append_ #[t0, t1] ty #[.slice base len cap, .slice xb xlen xcap]).run P w =
      ((match base with | some ad => storeCells (ad.add (len * sz)) cs | none => pure () : Sem Unit).run P w).andThen fun _ w' => .ok (.slice base (len + xlen) cap) w' := by
  obtain ⟨u, hu1⟩ := hu1
  subst hsz
  simp only [Builtin.append_, List.getElem?_toArray, List.getElem?_cons_zero, List.getElem?_cons_succ, Sem.run_bind, run_underlying' hu, Result.andThen_ok, run_sizeOf hi, run_underlying' hu1, Sem.run_pure, Builtin.lenOf, Bool.not_false, if_true]
  simp only [Bool.false_eq_true, if_false, Sem.run_bind, Sem.run_pure, Result.andThen_ok, Sem.run_ite]
  rw [if_pos hroom]
  simp only [Sem.run_bind, hx, Result.andThen_ok]
  cases base with
  | none => simp
  | some ad => simp

/-- append where there is none: all is laid anew. -/
theorem run_append_grow {t0 t1 ty el : TypeId} {sz bytes : Nat} {base : Option Addr} {len cap xlen xcap : Nat} {xb : Option Addr} {cs old : List Value} {i : TypeInfo} {z : Value} (hu : P.underlying t0 = some (.slice el)) (hi : P.info? el = some i) (hsz : i.size = sz) (hbytes : i.bytes = bytes) (hz : i.zero = some z) (hu1 : ∃ u, P.underlying t1 = some (.slice u))
    (hx : (Builtin.firstCells sz xlen (.slice xb xlen xcap)).run P w.drew = .ok cs.toArray w.drew) (ho : (Builtin.firstCells sz len (.slice base len cap)).run P w.drew = .ok old.toArray w.drew) (hroom : cap < len + xlen) (hmost : len + xlen ≤ most) (hb : bytes ≤ 2 ^ 12) :
    ∃ (newCap : Nat) (rest : List Value), len + xlen ≤ newCap ∧ rest.length = (newCap - (len + xlen)) * z.cells.size ∧
    (Builtin.append_ #[t0, t1] ty #[.slice base len cap, .slice xb xlen xcap]).run P w =
      .ok (.slice (some ⟨w.heap.size, 0, none⟩) (len + xlen) newCap) (w.drew.alloc (.cells ((old ++ cs).toArray ++ rest.toArray) el)) := by
  obtain ⟨u, hu1⟩ := hu1
  subst hsz
  have hcapb := nextslicecap_le hmost hroom
  unfold most at hmost
  refine ⟨(Question.appendCap (len + xlen) cap el).cut (w.tape w.drawn (.appendCap (len + xlen) cap el)), (Builtin.zeroCells z.cells ((Question.appendCap (len + xlen) cap el).cut (w.tape w.drawn (.appendCap (len + xlen) cap el)) - (len + xlen))).toList, by simp [Question.cut], by simp [Builtin.zeroCells], ?_⟩
  simp only [Builtin.append_, List.getElem?_toArray, List.getElem?_cons_zero, List.getElem?_cons_succ, Sem.run_bind, run_underlying' hu, Result.andThen_ok, run_sizeOf hi, run_underlying' hu1, Sem.run_pure, Builtin.lenOf, Bool.not_false, if_true]
  simp only [Bool.false_eq_true, if_false, Sem.run_bind, Sem.run_pure, Result.andThen_ok, Sem.run_ite]
  rw [if_neg (by omega)]
  simp only [Sem.run_bind, run_typeInfo hi, Result.andThen_ok, Sem.run_ite]
  rw [if_neg (by rw [IntKind.max_i64]; omega)]
  rw [if_neg (by
    rw [hbytes]
    have : Builtin.nextslicecap (len + xlen) cap * bytes ≤ 2 ^ 36 * 2 ^ 12 := Nat.mul_le_mul hcapb hb
    omega)]
  simp only [Sem.run_pure, Result.andThen_ok, run_choose, Question.forced, Bool.false_eq_true, if_false, run_askRoom, World.drew_eq, ho, hx]
  simp only [zeroValue, Sem.run_bind, run_typeInfo hi, Result.andThen_ok, hz, Sem.run_pure, newRow, run_newObj, World.alloc_eq]
  simp [World.size_drew]

theorem appc_of {t0 t1 : TypeId} {sz bytes : Nat} (hk : appc P t0 t1 sz bytes = true) :
    ∃ el i z, P.underlying t0 = some (.slice el) ∧ P.info? el = some i ∧ i.size = sz ∧ i.bytes = bytes ∧ i.zero = some z ∧ z.cells.size = sz ∧ ∃ u, P.underlying t1 = some (.slice u) := by
  unfold appc at hk
  split at hk
  · rename_i el hel
    obtain ⟨hu, i, hi, hsz⟩ := elemc_of hel
    rw [Bool.and_eq_true] at hk
    obtain ⟨h1, h2⟩ := hk
    rw [hi] at h1
    simp only [Bool.and_eq_true, Nat.beq_eq] at h1
    obtain ⟨h1, h3⟩ := h1
    split at h3
    · rename_i z hz
      rw [Nat.beq_eq] at h3
      split at h2
      · rename_i u hu1
        exact ⟨el, i, z, hu, hi, hsz, h1, hz, h3, u, hu1⟩
      · cases h2
    · cases h3
  · cases hk

/-- append, carried out. -/
theorem run_app (F : Fst B0 O n0 ntm r FP dl e h w s a) {t0 t1 ty : TypeId} {sz bytes : Nat} {s0 x v : AV} {s' x' : Value} {h' : Hp} {rows : List (List AV)} (hk : appc P t0 t1 sz bytes = true) (hb : bytes ≤ 2 ^ 12) (hs : EV r dl s0 s') (hx : EV r dl x x') (hxr : rowsX e h sz x = some rows) (happ : appA h sz s0 rows = some (v, h')) :
    ∃ v' w' r' FP', (Builtin.append_ #[t0, t1] ty #[s', x']).run P w = .ok v' w' ∧ VR r' v v' ∧ r.le r' ∧ Keep O n0 w w' ∧ Fst B0 O n0 ntm r' FP' dl e h' w' s a := by
  obtain ⟨el, i, z, hu, hi, hsz, hby, hz, hzs, hu1⟩ := appc_of hk
  unfold appA at happ
  split at happ
  · -- nothing is appended
    obtain ⟨xb, xlen, xcap, rfl, h1, h2, h3, h4, cs, h5, h6⟩ := rowsX_cells F hx hxr
    simp only [List.length_nil] at h1
    subst h1
    have hcs : cs = [] := by simpa [VRs] using h5
    subst hcs
    have hfc : (Builtin.firstCells sz 0 (.slice xb 0 xcap)).run P w = .ok ([] : List Value).toArray w := run_firstCells h6 (by simp) (fun _ => rfl)
    have fin : ∀ {base : Option Addr} {len cap : Nat}, s' = .slice base len cap → len ≤ cap → VR r s0 s' → v = s0 → h' = h →
        ∃ v' w' r' FP', (Builtin.append_ #[t0, t1] ty #[s', .slice xb 0 xcap]).run P w = .ok v' w' ∧ VR r' v v' ∧ r.le r' ∧ Keep O n0 w w' ∧ Fst B0 O n0 ntm r' FP' dl e h' w' s a := by
      rintro base len cap rfl hl hV rfl rfl
      refine ⟨.slice base len cap, w, r, FP, ?_, hV, r.le_refl, Keep.refl _ _ _, F⟩
      rw [run_append_room hu hi hsz hu1 hfc (by omega)]
      cases base with
      | none => rfl
      | some ad => rfl
    split at happ
    · cases happ
      simp only [EV, VR] at hs
      exact fin hs (Nat.le_refl _) (by rw [hs]; simp only [VR]) rfl rfl
    · cases happ
      have hs2 := hs
      simp only [EV, VR] at hs
      obtain ⟨a1, hs1⟩ := hs
      exact fin hs1 (Nat.le_refl _) hs2 rfl rfl
    · cases happ
      have hs2 := hs
      simp only [EV, VR] at hs
      obtain ⟨b, off, cap, hs1, g1, _⟩ := hs
      exact fin hs1 g1 hs2 rfl rfl
    · cases happ
  · rename_i row rs
    obtain ⟨xb, xlen, xcap, rfl, hx1, hx2, hx3, hx4, cs, hx5, hx6⟩ := rowsX_cells F hx hxr
    have hxl : cs.length = xlen * sz := by
      rw [hx5.length, flat_length (fun row hr => (hx3 row hr).1), hx1]
    split at happ
    · cases happ
    · rename_i old hor
      have hsV : VR r s0 s' := hs.VR_of (by revert hor; unfold rowsOr; cases s0 <;> intro hor <;> first | rfl | (cases hor; done))
      obtain ⟨sb, slen, scap, rfl, ho1, ho2, ho3, ho4, os, ho5, ho6⟩ := rows_cells F.st hsV hor
      have hol : os.length = slen * sz := by
        rw [ho5.length, flat_length (fun row hr => (ho3 row hr).1), ho1]
      split at happ
      · cases happ
      · rename_i hm
        dsimp only at happ
        have hrow : ∀ q, q ∈ old ++ row :: rs → q.length = sz := by
          intro q hq
          rcases List.mem_append.1 hq with g | g
          · exact (ho3 q g).1
          · exact (hx3 q g).1
        have hcell : ∀ q, q ∈ old ++ row :: rs → ∀ v, v ∈ q → v.cell = true := by
          intro q hq
          rcases List.mem_append.1 hq with g | g
          · exact (ho3 q g).2
          · exact (hx3 q g).2
        have hflat : VRs r (old ++ row :: rs).flatten (os ++ cs) := by
          rw [List.flatten_append]; exact ho5.append hx5
        -- all laid anew, over a heap h2 that knows no more than h
        have grow : ∀ {h2 : Hp}, Fst B0 O n0 ntm r FP dl e h2 w s a → h2.next = h.next → scap < slen + xlen → v = .sl sz h.next 0 (old.length + (row :: rs).length) false → h' = h2.new (.c sz (old ++ row :: rs) false) →
            ∃ v' w' r' FP', (Builtin.append_ #[t0, t1] ty #[.slice sb slen scap, .slice xb xlen xcap]).run P w = .ok v' w' ∧ VR r' v v' ∧ r.le r' ∧ Keep O n0 w w' ∧ Fst B0 O n0 ntm r' FP' dl e h' w' s a := by
          rintro h2 F2 hn hroom rfl rfl
          have e1 : (Builtin.firstCells sz xlen (.slice xb xlen xcap)).run P w.drew = .ok cs.toArray w.drew := run_firstCells hx6 hxl (fun hb0 => by
            have := hx4 hb0; cases this)
          have e2 : (Builtin.firstCells sz slen (.slice sb slen scap)).run P w.drew = .ok os.toArray w.drew := run_firstCells ho6 hol (fun hb0 => by
            have := ho4 hb0
            rw [this] at ho5
            simpa [VRs] using ho5)
          obtain ⟨newCap, rest, k1, k2, k3⟩ := run_append_grow (ty := ty) hu hi hsz hby hz hu1 e1 e2 hroom (by rw [ho1, hx1]; omega) hb
          have F3 := F2.drew.newRows (c := (os ++ cs).toArray) el rest hrow hcell (by simpa using hflat)
          have hd : w.drew.heap.size = w.heap.size := rfl
          refine ⟨_, _, _, _, k3, ?_, PM.le_put F2.drew.st.none_next, keep_drew.trans (keep_alloc (by rw [hd]; exact F.st.low)), F3⟩
          refine ⟨w.heap.size, 0, newCap, ?_, by rw [← ho1, ← hx1]; exact k1, (fun h => by cases h), fun _ => ?_⟩
          · rw [ho1, hx1]
          · refine ⟨_, by rw [hn]; unfold PM.put; rw [if_pos rfl], rfl, rfl, by simp, ?_⟩
            show (0 + newCap) * sz ≤ (os ++ cs).toArray.size + rest.length
            rw [Nat.zero_add, k2, hzs]
            simp only [List.size_toArray, List.length_append, hol, hxl]
            rw [← Nat.add_mul, ← Nat.add_mul]
            exact Nat.mul_le_mul_right _ (by omega)
        split at happ
        · -- onto nil
          cases happ
          simp only [EV, VR] at hs
          have hnil : old = [] := by unfold rowsOr at hor; cases hor; rfl
          subst hnil
          cases hs
          exact grow F rfl (by rw [hx1]; simp) rfl rfl
        · -- onto an empty one
          cases happ
          simp only [EV, VR] at hs
          have hnil : old = [] := by unfold rowsOr at hor; cases hor; rfl
          subst hnil
          obtain ⟨a1, hs⟩ := hs
          cases hs
          exact grow F rfl (by rw [hx1]; simp) rfl rfl
        · -- no room for sure
          rename_i z1 id1 idx1 len1
          simp only [EV, VR] at hs
          obtain ⟨b, off, cap, hs1, g1, g2, g3⟩ := hs
          cases hs1
          have hroom : scap < slen + xlen := by rw [g2 trivial, hx1]; simp
          split at happ
          · rename_i hl0
            cases happ
            have hnil : old = [] := by
              have : old.length = 0 := by omega
              exact List.length_eq_zero_iff.1 this
            subst hnil
            exact grow F rfl hroom rfl rfl
          · split at happ
            · cases happ
              exact grow F rfl hroom rfl rfl
            · cases happ
        · rename_i z1 id1 idx1 len1
          split at happ
          · rename_i y rows hbk
            cases happ
            by_cases hroom : scap < slen + xlen
            · exact grow (F.forget id1) (Hp.next_set _ _ _) hroom rfl rfl
            · -- in place
              simp only [EV, VR] at hs
              obtain ⟨b, off, cap, hs1, g1, g2, g3⟩ := hs
              cases hs1
              have hx0 : 0 < xlen := by rw [hx1]; simp
              obtain ⟨pl, p1, p2, p3, p4, p5⟩ := g3 (by omega)
              have hzz : z1 = sz := by
                unfold rowsOr at hor
                dsimp only at hor
                split at hor
                · rename_i hq; exact hq
                · cases hor
              subst hzz
              obtain ⟨pl', q1, q2, q3, c, t, fr, q4, q5, q6, q6', q7⟩ := F.st.live _ _ hbk
              rw [p1] at q1; cases q1
              have hfr := q5 rfl
              subst hfr
              subst p3; subst p4
              have hfit : pl.base + idx1 * z1 + slen * z1 + cs.length ≤ c.size := by
                rw [q6, hxl]
                have : (idx1 + (slen + xlen)) * z1 ≤ (idx1 + scap) * z1 := Nat.mul_le_mul_right _ (by omega)
                rw [Nat.add_mul, Nat.add_mul] at this
                omega
              have hone : ∀ v, v ∈ cs → v.oneCell' = true := by
                intro v hv
                obtain ⟨j, hj⟩ := List.getElem?_of_mem hv
                have hjl := (List.getElem?_eq_some_iff.1 hj).1
                rw [hx5.length] at hjl
                obtain ⟨y', k1, k2⟩ := hx5.get j _ (List.getElem?_eq_getElem hjl)
                rw [hj] at k1; cases k1
                have hmem := List.getElem_mem hjl
                rw [List.mem_flatten] at hmem
                obtain ⟨rw', hr1, hr2⟩ := hmem
                exact k2.one ((hx3 rw' hr1).2 _ hr2)
              have hst := run_storeCells_at P pl.b (pl.base + idx1 * z1 + slen * z1) t cs 0 c w q4 (by simpa using hfit) hone
              simp only [Nat.add_zero] at hst
              have hw' : ∀ b', b' < w.heap.size → b' ∉ FP id1 → (w.setRow pl.b (c.toList.take (pl.base + idx1 * z1 + slen * z1) ++ cs ++ c.toList.drop (pl.base + idx1 * z1 + slen * z1 + cs.length)).toArray).heap[b']? = w.heap[b']? := by
                intro b' _ hn
                refine setRow_other fun e1 => hn ?_
                rw [q3, e1]; simp
              have hsr := setRow_heap w pl.b c (c.toList.take (pl.base + idx1 * z1 + slen * z1) ++ cs ++ c.toList.drop (pl.base + idx1 * z1 + slen * z1 + cs.length)).toArray t (0, 0) q4
              have hspl := fun k => splice_get (c := c.toList) (vs := cs) (o := pl.base + idx1 * z1 + slen * z1) (by simpa using hfit) k
              have hadd : ((⟨pl.b, pl.base + idx1 * z1, none⟩ : Addr)).add (slen * z1) = ⟨pl.b, pl.base + idx1 * z1 + slen * z1, none⟩ := addr_add _ _ _
              have hBR : BR (r.put h.next ⟨pl.b, pl.base + idx1 * z1, z1, pl.room - idx1 * z1⟩) (w.setRow pl.b (c.toList.take (pl.base + idx1 * z1 + slen * z1) ++ cs ++ c.toList.drop (pl.base + idx1 * z1 + slen * z1 + cs.length)).toArray) s ⟨pl.b, pl.base + idx1 * z1, z1, pl.room - idx1 * z1⟩ (.c z1 (old ++ row :: rs) false) (FP id1) := by
                have hroom2 : idx1 * z1 ≤ pl.room := by
                  rw [Nat.add_mul] at p5; omega
                refine ⟨rfl, q3, _, t, (0, 0), hsr, fun _ => rfl, ?_, ?_, ?_⟩
                · show _ = pl.base + idx1 * z1 + (pl.room - idx1 * z1)
                  simp; omega
                · show (old ++ row :: rs).length * z1 ≤ pl.room - idx1 * z1
                  have : (idx1 + (slen + xlen)) * z1 ≤ (idx1 + scap) * z1 := Nat.mul_le_mul_right _ (by omega)
                  rw [Nat.add_mul] at this
                  rw [List.length_append, ← ho1, ← hx1]
                  omega
                · intro j row' hj
                  have hjm := List.mem_of_getElem? hj
                  refine ⟨hrow row' hjm, fun o v hv => ⟨hcell row' hjm v (List.mem_of_getElem? hv), ?_⟩⟩
                  have hol2 := (List.getElem?_eq_some_iff.1 hv).1
                  rw [hrow row' hjm] at hol2
                  have hf := flat_get hrow j row' o hj hol2
                  rw [hv] at hf
                  obtain ⟨v', m1, m2⟩ := hflat.get _ _ hf
                  refine ⟨v', ?_, m2.mono (PM.le_put F.st.none_next)⟩
                  show (_ : Array Value)[pl.base + idx1 * z1 + j * z1 + o]? = some v'
                  rw [List.getElem?_toArray, hspl]
                  by_cases hlt : j * z1 + o < slen * z1
                  · rw [if_neg (by omega)]
                    rw [List.getElem?_append_left (by omega)] at m1
                    have := ho6 _ rfl (j * z1 + o) v' m1
                    rw [addr_add] at this
                    simp only [World.cell?, q4] at this
                    rw [← Nat.add_assoc] at this
                    simpa using this
                  · rw [List.getElem?_append_right (by omega), hol] at m1
                    have hl2 := (List.getElem?_eq_some_iff.1 m1).1
                    rw [if_pos (by omega), ← m1]
                    congr 1; omega
              have S' := F.st.rename hbk rfl rfl (by rw [setRow_size]; exact Nat.le_refl _) hw' hBR
              have F' : Fst B0 O n0 ntm (r.put h.next ⟨pl.b, pl.base + idx1 * z1, z1, pl.room - idx1 * z1⟩) (fput FP h.next (FP id1)) dl e ((h.set id1 none).new (.c z1 (old ++ row :: rs) false)) (w.setRow pl.b (c.toList.take (pl.base + idx1 * z1 + slen * z1) ++ cs ++ c.toList.drop (pl.base + idx1 * z1 + slen * z1 + cs.length)).toArray) s a := by
                refine F.move S' (PM.le_put F.st.none_next) (by rw [setRow_size]; exact Nat.le_refl _) (fun b' hb' _ hn => hw' b' hb' (hn id1 _ hbk rfl)) ?_
                intro id B hB hro b' hb'
                rw [Hp.blk_new, Hp.next_set] at hB
                split at hB
                · rename_i e1; subst e1
                  unfold fput at hb'; rw [if_pos rfl] at hb'
                  exact .inl ⟨id1, _, hbk, rfl, hb'⟩
                · rename_i e1
                  unfold fput at hb'; rw [if_neg e1] at hb'
                  rw [Hp.blk_set] at hB
                  split at hB
                  · cases hB
                  · exact .inl ⟨id, B, hB, hro, hb'⟩
              have hfc : (Builtin.firstCells z1 xlen (.slice xb xlen xcap)).run P w = .ok cs.toArray w := run_firstCells hx6 hxl (fun hb0 => by have := hx4 hb0; cases this)
              have K := F.st.keep_of (w' := w.setRow pl.b (c.toList.take (pl.base + idx1 * z1 + slen * z1) ++ cs ++ c.toList.drop (pl.base + idx1 * z1 + slen * z1 + cs.length)).toArray) hbk rfl rfl rfl rfl (by rw [setRow_size]; exact Nat.le_refl _) hw'
              refine ⟨.slice (some ⟨pl.b, pl.base + idx1 * z1, none⟩) (slen + xlen) scap, _, _, _, ?_, ?_, PM.le_put F.st.none_next, K, F'⟩
              · rw [run_append_room hu hi hsz hu1 hfc (by omega)]
                dsimp only
                rw [hadd, hst]
                rfl
              · refine ⟨pl.b, pl.base + idx1 * z1, scap, by rw [← ho1, ← hx1], by rw [← ho1, ← hx1]; omega, (fun h => by cases h), fun _ => ?_⟩
                refine ⟨⟨pl.b, pl.base + idx1 * z1, z1, pl.room - idx1 * z1⟩, by unfold PM.put; rw [if_pos rfl], rfl, rfl, by simp, ?_⟩
                show (0 + scap) * z1 ≤ pl.room - idx1 * z1
                rw [Nat.add_mul] at p5
                rw [Nat.zero_add]; omega
          · cases happ
        · cases happ

theorem putRows_length : ∀ (rs rows : List (List AV)) (at_ : Nat), (putRows rows at_ rs).length = rows.length := by
  intro rs
  induction rs with
  | nil => intro rows at_; rfl
  | cons c cs ih => intro rows at_; simp only [putRows]; rw [ih]; simp

theorem putRows_get : ∀ (rs rows : List (List AV)) (at_ j : Nat), at_ + rs.length ≤ rows.length →
    (putRows rows at_ rs)[j]? = if at_ ≤ j ∧ j < at_ + rs.length then rs[j - at_]? else rows[j]? := by
  intro rs
  induction rs with
  | nil => intro rows at_ j _; simp only [putRows, List.length_nil]; rw [if_neg (by omega)]
  | cons c cs ih =>
    intro rows at_ j hl
    simp only [List.length_cons] at hl
    simp only [putRows, List.length_cons]
    rw [ih _ _ _ (by simp; omega)]
    by_cases h1 : at_ + 1 ≤ j ∧ j < at_ + 1 + cs.length
    · rw [if_pos h1, if_pos (by omega)]
      have : j - at_ = (j - (at_ + 1)) + 1 := by omega
      rw [this]; rfl
    · rw [if_neg h1]
      by_cases h2 : j = at_
      · subst h2
        rw [if_pos (by omega)]
        simp [List.getElem?_set]
        omega
      · rw [if_neg (by omega), List.getElem?_set, if_neg (by omega)]

def clearc (P : Program) (t : TypeId) (z : List AV) : Bool :=
  match elemc P t z.length with
  | some el => zeroc P el z
  | none => false

/-- clear of a slice, carried out. -/
theorem run_clear (F : Fst B0 O n0 ntm r FP dl e h w s a) {t ty : TypeId} {z : List AV} {x : AV} {x' : Value} {h' : Hp} (hk : clearc P t z = true) (hx : EV r dl x x') (hc : clearA h z x = some h') :
    ∃ w' , (Builtin.clear_ #[t] ty #[x']).run P w = .ok (.tuple #[]) w' ∧ Keep O n0 w w' ∧ Fst B0 O n0 ntm r FP dl e h' w' s a := by
  unfold clearc at hk
  split at hk
  · rename_i el hel
    obtain ⟨hu, i, hi1, hi2⟩ := elemc_of hel
    obtain ⟨i', z', hz0, hz1, hz2, hz3, hz4⟩ := zeroc_run (w := w) hk
    unfold clearA at hc
    split at hc
    · cases hc
      simp only [EV, VR] at hx
      subst hx
      exact ⟨w, by simp [Builtin.clear_, run_underlying' hu], Keep.refl _ _ _, F⟩
    · cases hc
      simp only [EV, VR] at hx
      obtain ⟨a1, rfl⟩ := hx
      exact ⟨w, by simp [Builtin.clear_, run_underlying' hu], Keep.refl _ _ _, F⟩
    · rename_i sz id idx len tight
      simp only [EV, VR] at hx
      obtain ⟨b, off, cap, rfl, g1, g2, g3⟩ := hx
      split at hc
      · rename_i hl0
        cases hc
        subst hl0
        exact ⟨w, by simp [Builtin.clear_, run_underlying' hu], Keep.refl _ _ _, F⟩
      · rename_i hl0
        split at hc
        · rename_i y rows hbk
          split at hc
          · rename_i hcond
            cases hc
            simp only [Bool.and_eq_true, decide_eq_true_eq] at hcond
            obtain ⟨rfl, hbound⟩ := hcond
            obtain ⟨pl, p1, p2, rfl, rfl, p5⟩ := g3 (by omega)
            obtain ⟨pl', q1, q2, q3, c, t', fr, q4, q5, q6, q6', q7⟩ := F.st.live _ _ hbk
            rw [p1] at q1; cases q1
            have hsz : sz = z.length := by rw [← p2, q2]
            subst hsz
            have hfr := q5 rfl
            subst hfr
            have hzz := (hz2 r).zeros rfl len
            have hzl := hzz.length
            rw [flat_length (sz := z.length) (by intro row hrow; rw [List.mem_replicate] at hrow; rw [hrow.2])] at hzl
            simp only [List.length_replicate] at hzl
            have hmul : (idx + len) * z.length ≤ rows.length * z.length := Nat.mul_le_mul_right _ hbound
            rw [Nat.add_mul] at hmul
            have hfit : pl.base + idx * z.length + ((Array.range (len * z.length)).map (z'.cells[· % z'.cells.size]!)).toList.length ≤ c.size := by rw [hzl, q6]; omega
            have hone : ∀ v, v ∈ ((Array.range (len * z.length)).map (z'.cells[· % z'.cells.size]!)).toList → v.oneCell' = true := by
              intro v hv
              obtain ⟨j, hj⟩ := List.getElem?_of_mem hv
              have hjl := (List.getElem?_eq_some_iff.1 hj).1
              rw [hzz.length] at hjl
              obtain ⟨y', k1, k2⟩ := hzz.get j _ (List.getElem?_eq_getElem hjl)
              rw [hj] at k1; cases k1
              have hm := List.getElem_mem hjl
              rw [List.mem_flatten] at hm
              obtain ⟨rw', hr1, hr2⟩ := hm
              rw [List.mem_replicate] at hr1
              rw [hr1.2] at hr2
              exact k2.one (List.all_eq_true.1 hz3 _ hr2)
            have hst := run_storeCells_at P pl.b (pl.base + idx * z.length) t' ((Array.range (len * z.length)).map (z'.cells[· % z'.cells.size]!)).toList 0 c w q4 (by simpa using hfit) hone
            simp only [Nat.add_zero] at hst
            generalize hvs : ((Array.range (len * z.length)).map (z'.cells[· % z'.cells.size]!)).toList = vs at hst hfit hzz hzl
            have hw' : ∀ b', b' < w.heap.size → b' ∉ FP id → (w.setRow pl.b (c.toList.take (pl.base + idx * z.length) ++ vs ++ c.toList.drop (pl.base + idx * z.length + vs.length)).toArray).heap[b']? = w.heap[b']? := by
              intro b' _ hn
              refine setRow_other fun e1 => hn ?_
              rw [q3, e1]; simp
            have hsr := setRow_heap w pl.b c (c.toList.take (pl.base + idx * z.length) ++ vs ++ c.toList.drop (pl.base + idx * z.length + vs.length)).toArray t' (0, 0) q4
            have hspl := fun k => splice_get (c := c.toList) (vs := vs) (o := pl.base + idx * z.length) (by simpa using hfit) k
            have K := F.st.keep_of (w' := w.setRow pl.b (c.toList.take (pl.base + idx * z.length) ++ vs ++ c.toList.drop (pl.base + idx * z.length + vs.length)).toArray) hbk rfl rfl rfl rfl (by rw [setRow_size]; exact Nat.le_refl _) hw'
            have S' := F.st.turn id _ (.c z.length (putRows rows idx (List.replicate len z)) false) (w.setRow pl.b (c.toList.take (pl.base + idx * z.length) ++ vs ++ c.toList.drop (pl.base + idx * z.length + vs.length)).toArray) (FP id) hbk rfl rfl (by rw [setRow_size]; exact Nat.le_refl _) hw' (fun b hb => .inl hb) (by
              intro pl2 hp2 _
              rw [p1] at hp2
              cases hp2
              refine ⟨q2, q3, _, t', (0, 0), hsr, fun _ => rfl, by simp; omega, by rw [putRows_length]; exact q6', ?_⟩
              intro j row hj
              rw [putRows_get _ _ _ _ (by simpa using hbound)] at hj
              simp only [List.length_replicate] at hj
              split at hj
              · rename_i hin
                have hrowz : row = z := by
                  rw [List.getElem?_replicate] at hj
                  split at hj
                  · cases hj; rfl
                  · cases hj
                subst hrowz
                refine ⟨rfl, fun o v hv => ⟨List.all_eq_true.1 hz3 v (List.mem_of_getElem? hv), ?_⟩⟩
                have hol := (List.getElem?_eq_some_iff.1 hv).1
                have hf := flat_get (sz := row.length) (rows := List.replicate len row) (by intro q hq; rw [List.mem_replicate] at hq; rw [hq.2]) (j - idx) row o (by rw [List.getElem?_replicate, if_pos (by omega)]) hol
                rw [hv] at hf
                obtain ⟨v', m1, m2⟩ := hzz.get _ _ hf
                refine ⟨v', ?_, m2⟩
                have hl2 := (List.getElem?_eq_some_iff.1 m1).1
                have hjm : j * row.length = idx * row.length + (j - idx) * row.length := by rw [← Nat.add_mul]; congr 1; omega
                rw [List.getElem?_toArray, hspl, if_pos (by rw [hjm]; omega), ← m1]
                congr 1
                rw [hjm]; omega
              · rename_i hin
                obtain ⟨k1, k2⟩ := q7 j row hj
                have hjl := (List.getElem?_eq_some_iff.1 hj).1
                refine ⟨k1, fun o v hv => ?_⟩
                obtain ⟨m1, v', m2, m3⟩ := k2 o v hv
                have hol := (List.getElem?_eq_some_iff.1 hv).1
                refine ⟨m1, v', ?_, m3⟩
                rw [List.getElem?_toArray, hspl, if_neg ?_]
                · simpa using m2
                · rw [hzl]
                  by_cases g : j < idx
                  · have : (j + 1) * z.length ≤ idx * z.length := Nat.mul_le_mul_right _ g
                    rw [Nat.succ_mul] at this
                    omega
                  · have : (idx + len) * z.length ≤ j * z.length := Nat.mul_le_mul_right _ (by omega)
                    rw [Nat.add_mul] at this
                    omega)
            have hFP : fput FP id (FP id) = FP := by
              funext j; unfold fput; split
              · rename_i e1; rw [e1]
              · rfl
            rw [hFP] at S'
            have F' := F.move S' r.le_refl (by rw [setRow_size]; exact Nat.le_refl _) (fun b hb' _ hn => hw' b hb' (hn id _ hbk rfl)) (by
              intro id1 B hB hro b hbm
              rw [Hp.blk_set] at hB
              split at hB
              · rename_i e1; subst e1
                exact .inl ⟨id1, _, hbk, rfl, hbm⟩
              · exact .inl ⟨id1, B, hB, hro, hbm⟩)
            refine ⟨_, ?_, K, F'⟩
            cases len with
            | zero => exact absurd rfl hl0
            | succ len =>
              simp only [Builtin.clear_, List.getElem?_toArray, List.getElem?_cons_zero, Sem.run_bind, run_underlying' hu, Result.andThen_ok, hz4]
              have hzc : (Builtin.zeroCells z'.cells (len + 1)).toList = vs := by
                rw [← hvs]
                simp only [Builtin.zeroCells]
                have : z'.cells.size = z.length := by have := (hz2 r).length; simpa using this
                rw [this]
              rw [hzc, hst]
              rfl
          · cases hc
        · cases hc
    · cases hc
  · cases hk

end
end Go.Proofs.YtpkimnaenlbbjaaGreat.AM

/- What is handed in, as it is read: into the machine's values and blocks. Conditions: none. -/
import Derived.Test.YtpkimnaenlbbjaaGreatM21
import Derived.DataReads
import Derived.ChangeReads
import GoSem.ClaimChange
namespace Go.Proofs.YtpkimnaenlbbjaaGreat.AM
open Go

/-- Shapes of plain data. -/
inductive TS where
  | int (k : IntKind) | bool | str | slice (e : TS) | unit | pair (a b : TS)
  deriving Inhabited

def TS.sz : TS → Nat
  | .unit => 0
  | .pair a b => a.sz + b.sz
  | _ => 1

/-- Cells of that shape. -/
def Sh : TS → List AV → Hp → Prop
  | .int k, as, _ => ∃ n, as = [.i k n] ∧ (Lit.int k n).wf = true
  | .bool, as, _ => ∃ b, as = [.b b]
  | .str, as, _ => ∃ s, as = [.s s] ∧ s.size ≤ maxLen
  | .slice e, as, h => as = [.ns] ∨ as = [.es] ∨ ∃ id rows, as = [.sl e.sz id 0 rows.length false] ∧ h.blk id = some (.c e.sz rows true) ∧ ∀ row, row ∈ rows → row.length = e.sz ∧ Sh e row h
  | .unit, as, _ => as = []
  | .pair a b, as, h => ∃ x y, as = x ++ y ∧ x.length = a.sz ∧ Sh a x h ∧ Sh b y h

def Ext (h h' : Hp) : Prop := ∀ id B, h.blk id = some B → h'.blk id = some B
theorem Ext.refl (h : Hp) : Ext h h := fun _ _ e => e
theorem Ext.trans {a b c : Hp} (h : Ext a b) (k : Ext b c) : Ext a c := fun i B e => k i B (h i B e)

theorem Sh.ext {h h' : Hp} (hx : Ext h h') : ∀ {ts : TS} {as : List AV}, Sh ts as h → Sh ts as h' := by
  intro ts
  induction ts with
  | int k => intro as h; exact h
  | bool => intro as h; exact h
  | str => intro as h; exact h
  | unit => intro as h; exact h
  | slice e ih =>
    intro as h
    rcases h with h | h | ⟨id, rows, h1, h2, h3⟩
    · exact .inl h
    · exact .inr (.inl h)
    · exact .inr (.inr ⟨id, rows, h1, hx _ _ h2, fun row hr => ⟨(h3 row hr).1, ih (h3 row hr).2⟩⟩)
  | pair a b iha ihb =>
    intro as h
    obtain ⟨x, y, h1, h2, h3, h4⟩ := h
    exact ⟨x, y, h1, h2, iha h3, ihb h4⟩

inductive Md where
  | ty (t : TypeId)
  | fs (l : List Field) (off : Nat)
  | ar (e : TypeId) (n i : Nat)

def tsc (P : Program) : TS → Md → Bool
  | .int k, .ty t => (match P.underlying t with | some (.int k') => decide (k = k') | _ => false)
  | .bool, .ty t => (match P.underlying t with | some .bool => true | _ => false)
  | .str, .ty t => (match P.underlying t with | some .string => true | _ => false)
  | .slice e, .ty t => (match P.underlying t with | some (.slice u) => Nat.beq (P.cellsOf u) e.sz && Nat.blt 0 e.sz && tsc P e (.ty u) | _ => false)
  | .pair a b, .ty t => (match P.underlying t with
    | some (.struct fs) => Nat.beq (P.cellsOf t) (a.sz + b.sz) && (match fs.toList with | f :: l => Nat.beq f.offset 0 && Nat.beq (P.cellsOf f.type) a.sz && tsc P a (.ty f.type) && tsc P b (.fs l a.sz) | [] => false)
    | some (.array n e) => Nat.beq (P.cellsOf t) (a.sz + b.sz) && (match n with | n + 1 => Nat.beq (P.cellsOf e) a.sz && tsc P a (.ty e) && tsc P b (.ar e n 1) | 0 => false)
    | _ => false)
  | .unit, .fs l _ => l.isEmpty
  | .pair a b, .fs l off => (match l with | f :: l => Nat.beq f.offset off && Nat.beq (P.cellsOf f.type) a.sz && tsc P a (.ty f.type) && tsc P b (.fs l (off + a.sz)) | [] => false)
  | .unit, .ar _ n _ => Nat.beq n 0
  | .pair a b, .ar e n i => (match n with | n + 1 => Nat.beq (P.cellsOf e) a.sz && tsc P a (.ty e) && tsc P b (.ar e n (i + 1)) | 0 => false)
  | _, _ => false

section
variable {H : Type} {enc : TypeId × Value → H} {P : Program} {W : World} {s : KS}

abbrev Rd (enc : TypeId × Value → H) (P : Program) (W : World) (fuel : Nat) (t : TypeId) (cs : List Value) : Option (DataW H × List MemPlace) := DataW.trod enc P W 0 (fun _ => true) true fuel t cs

def Got (W : World) (s : KS) (h : Hp) (r : PM) (ts : TS) (cs : List Value) : Prop :=
  ∃ as h' r' FP', St W.heap.size (fun _ => False) W.heap.size r' FP' h' W s ∧ r.le r' ∧ Ext h h' ∧ VRs r' as cs ∧ as.all AV.cell = true ∧ Sh ts as h'

/-- A block of the caller's. -/
theorem St.addRO {r : PM} {FP : Nat → List Nat} {h : Hp} (S : St W.heap.size (fun _ => False) W.heap.size r FP h W s) (sz : Nat) (rows : List (List AV)) (pl : Pl) (hpl : pl.b < W.heap.size)
    (hB : BR (r.put h.next pl) W s pl (.c sz rows true) [pl.b]) :
    St W.heap.size (fun _ => False) W.heap.size (r.put h.next pl) (fput FP h.next [pl.b]) (h.new (.c sz rows true)) W s := by
  have hnone := S.none_next
  have hF : ∀ id, id ≠ h.next → fput FP h.next [pl.b] id = FP id := fun id hid => by unfold fput; rw [if_neg hid]
  have hFn : fput FP h.next [pl.b] h.next = [pl.b] := by unfold fput; rw [if_pos rfl]
  refine ⟨S.b0, S.ob, S.low, ?_, ?_, ?_, ?_, ?_⟩
  · intro id pl' hp
    rw [Hp.next_new]
    unfold PM.put at hp
    split at hp
    · omega
    · have := S.dom _ _ hp; omega
  · intro id B' hb
    rw [Hp.blk_new] at hb
    split at hb
    · rename_i e; subst e
      cases hb
      refine ⟨pl, by unfold PM.put; rw [if_pos rfl], ?_⟩
      rw [hFn]; exact hB
    · rename_i e
      obtain ⟨pl', h1, h2⟩ := S.live id B' hb
      refine ⟨pl', PM.le_put hnone _ _ h1, ?_⟩
      rw [hF id e]
      exact h2.keep (PM.le_put hnone) fun b hbm => rfl
  · intro id B' hb hr b hbm
    rw [Hp.blk_new] at hb
    split at hb
    · cases hb; cases hr
    · rename_i e
      rw [hF id e] at hbm
      exact S.own id B' hb hr b hbm
  · intro id id' B1 B2 h1 h2 r1 r2 hne b hb1 hb2
    rw [Hp.blk_new] at h1 h2
    split at h1
    · cases h1; cases r1
    · rename_i e1
      split at h2
      · cases h2; cases r2
      · rename_i e2
        rw [hF id e1] at hb1
        rw [hF id' e2] at hb2
        exact S.apart id id' B1 B2 h1 h2 r1 r2 hne b hb1 hb2
  · intro id B' hb hr b hbm
    rw [Hp.blk_new] at hb
    split at hb
    · rename_i e; subst e
      rw [hFn] at hbm; simp at hbm; subst hbm; exact hpl
    · rename_i e
      rw [hF id e] at hbm
      exact S.rob id B' hb hr b hbm

def Reads (enc : TypeId × Value → H) (P : Program) (W : World) (fuel : Nat) : Md → List Value → Prop
  | .ty t, cs => ∃ x, Rd enc P W fuel t cs = some x
  | .fs l off, cs => ∃ xs, l.mapM (fun f => Rd enc P W fuel f.type ((cs.drop f.offset).take (P.cellsOf f.type))) = some xs
  | .ar e n i, cs => ∃ xs, (List.range' i n).mapM (fun i => Rd enc P W fuel e ((cs.drop (i * P.cellsOf e)).take (P.cellsOf e))) = some xs

def Md.off (P : Program) : Md → Nat
  | .ty _ => 0
  | .fs _ off => off
  | .ar e _ i => i * P.cellsOf e

theorem mapM_cons {α β : Type} {f : α → Option β} {a : α} {l : List α} {ys : List β} (h : (a :: l).mapM f = some ys) : ∃ y ys', f a = some y ∧ l.mapM f = some ys' := by
  rw [List.mapM_cons] at h
  cases hf : f a with
  | none => rw [hf] at h; cases h
  | some y =>
    rw [hf] at h
    cases hl : l.mapM f with
    | none => rw [hl] at h; cases h
    | some ys' => exact ⟨y, ys', rfl, rfl⟩

theorem pair_got {h : Hp} {r : PM} {FP : Nat → List Nat} (S : St W.heap.size (fun _ => False) W.heap.size r FP h W s) {a b : TS} {c1 c2 : List Value} (hl : c1.length = a.sz)
    (h1 : ∀ h r FP, St W.heap.size (fun _ => False) W.heap.size r FP h W s → Got W s h r a c1) (h2 : ∀ h r FP, St W.heap.size (fun _ => False) W.heap.size r FP h W s → Got W s h r b c2) : Got W s h r (.pair a b) (c1 ++ c2) := by
  obtain ⟨x, h', r', FP', g1, g2, g3, g4, g5, g6⟩ := h1 h r FP S
  obtain ⟨y, h2', r2, FP2, k1, k2, k3, k4, k5, k6⟩ := h2 h' r' FP' g1
  refine ⟨x ++ y, h2', r2, FP2, k1, PM.le_trans g2 k2, g3.trans k3, (g4.mono k2).append k4, by rw [List.all_append, g5, k5]; rfl, x, y, rfl, ?_, g6.ext k3, k6⟩
  rw [← hl]; exact g4.length.symm

theorem VRs.one {r : PM} {a : AV} {v : Value} (h : VR r a v) : VRs r [a] [v] := ⟨v, [], rfl, h, rfl⟩

theorem got_one {h : Hp} {r : PM} {FP : Nat → List Nat} (S : St W.heap.size (fun _ => False) W.heap.size r FP h W s) {ts : TS} {a : AV} {v : Value} (hv : VR r a v) (hc : a.cell = true) (hs : Sh ts [a] h) : Got W s h r ts [v] :=
  ⟨[a], h, r, FP, S, r.le_refl, Ext.refl h, VRs.one hv, by simp [hc], hs⟩

/-- The rows of a slice, one after the other. -/
theorem rows_got {e : TS} {get : Nat → Option (List Value)} (ih : ∀ i cs h r FP, get i = some cs → St W.heap.size (fun _ => False) W.heap.size r FP h W s → Got W s h r e cs) (hlen : ∀ i cs, get i = some cs → cs.length = e.sz) :
    ∀ (is : List Nat) (css : List (List Value)), is.mapM get = some css → ∀ h r FP, St W.heap.size (fun _ => False) W.heap.size r FP h W s →
    ∃ (rows : List (List AV)) (h' : Hp) (r' : PM) (FP' : Nat → List Nat), St W.heap.size (fun _ => False) W.heap.size r' FP' h' W s ∧ r.le r' ∧ Ext h h' ∧ rows.length = is.length ∧
      ∀ (j : Nat) (row : List AV), rows[j]? = some row → row.length = e.sz ∧ row.all AV.cell = true ∧ Sh e row h' ∧ ∃ i cs, is[j]? = some i ∧ get i = some cs ∧ VRs r' row cs := by
  intro is
  induction is with
  | nil =>
    intro css hm h r FP S
    exact ⟨[], h, r, FP, S, r.le_refl, Ext.refl h, rfl, fun j row hj => by simp at hj⟩
  | cons i is ihs =>
    intro css hm h r FP S
    obtain ⟨cs, css', h1, h2⟩ := mapM_cons hm
    obtain ⟨as, h', r', FP', g1, g2, g3, g4, g5, g6⟩ := ih i cs h r FP h1 S
    obtain ⟨rows, h2', r2, FP2, k1, k2, k3, k4, k5⟩ := ihs css' h2 h' r' FP' g1
    refine ⟨as :: rows, h2', r2, FP2, k1, PM.le_trans g2 k2, g3.trans k3, by simp [k4], fun j row hj => ?_⟩
    cases j with
    | zero =>
      simp only [List.getElem?_cons_zero, Option.some.injEq] at hj
      subst hj
      exact ⟨by rw [← hlen i cs h1]; exact g4.length.symm, g5, g6.ext k3, i, cs, rfl, h1, g4.mono k2⟩
    | succ j =>
      simp only [List.getElem?_cons_succ] at hj
      obtain ⟨m1, m2, m3, i', cs', m4, m5, m6⟩ := k5 j row hj
      exact ⟨m1, m2, m3, i', cs', by simpa using m4, m5, m6⟩

theorem mapM_of_get {α β : Type} {f : α → Option β} : ∀ {l : List α} {ys : List β}, l.mapM f = some ys → ∀ {g : α → Option Bool}, True → ∀ x, x ∈ l → ∃ y, f x = some y := by
  intro l
  induction l with
  | nil => intro ys _ g _ x hx; cases hx
  | cons a l ih =>
    intro ys h g _ x hx
    obtain ⟨y, ys', h1, h2⟩ := mapM_cons h
    rcases List.mem_cons.1 hx with rfl | hx
    · exact ⟨y, h1⟩
    · exact ih h2 (g := g) trivial x hx

theorem mapM_some {α β : Type} {f : α → Option β} : ∀ {l : List α}, (∀ x, x ∈ l → ∃ y, f x = some y) → ∃ ys, l.mapM f = some ys := by
  intro l
  induction l with
  | nil => intro _; exact ⟨[], rfl⟩
  | cons a l ih =>
    intro h
    obtain ⟨y, hy⟩ := h a (by simp)
    obtain ⟨ys, hys⟩ := ih fun x hx => h x (by simp [hx])
    exact ⟨y :: ys, by rw [List.mapM_cons, hy, hys]; rfl⟩

theorem read_slice {e : TS} {u t : TypeId} (hu : P.underlying t = some (.slice u)) (hsz : P.cellsOf u = e.sz) (hpos : 0 < e.sz) (ih : ∀ fuel cs h r FP, Reads enc P W fuel (.ty u) cs → cs.length = e.sz → St W.heap.size (fun _ => False) W.heap.size r FP h W s → Got W s h r e cs)
    {fuel : Nat} {cs : List Value} {h : Hp} {r : PM} {FP : Nat → List Nat} (hr : Reads enc P W fuel (.ty t) cs) (S : St W.heap.size (fun _ => False) W.heap.size r FP h W s) : Got W s h r (.slice e) cs := by
  obtain ⟨x, hx⟩ := hr
  cases fuel with
  | zero => cases hx
  | succ fuel =>
    rcases cs with _ | ⟨v, _ | ⟨v2, rest⟩⟩
    · simp [Rd, DataW.trod, hu] at hx
    · cases v <;> simp only [Rd, DataW.trod, hu] at hx <;> try (cases hx; done)
      rename_i a len cap
      cases a with
      | none =>
        rcases len with _ | len
        · rcases cap with _ | cap
          · exact got_one S (a := .ns) (by simp only [VR]) rfl (.inl rfl)
          · cases hx
        · cases hx
      | some a =>
        simp only [if_true] at hx
        split at hx
        · rename_i hc
          obtain ⟨_, hlc, _⟩ := hc
          cases h1 : (List.range len).mapM (fun i => (W.cells? 0 (a.add (i * P.cellsOf u)) (P.cellsOf u)).bind (DataW.trod enc P W 0 (fun _ => true) true fuel u)) with
          | none => rw [h1] at hx; cases hx
          | some elems =>
            rw [h1] at hx
            simp only [Option.bind_some] at hx
            cases h2 : (List.range (cap - len)).mapM (fun j => (W.cells? 0 (a.add ((len + j) * P.cellsOf u)) (P.cellsOf u)).bind (DataW.trod enc P W 0 (fun _ => true) true fuel u)) with
            | none => rw [h2] at hx; cases hx
            | some rest =>
              -- every cell is there
              have hcells : ∀ i, i < cap → ∃ c, W.cells? 0 (a.add (i * e.sz)) e.sz = some c ∧ (i < len → Reads enc P W fuel (.ty u) c) := by
                intro i hi
                by_cases hil : i < len
                · obtain ⟨y, hy⟩ := mapM_of_get h1 (g := fun _ => none) trivial i (List.mem_range.2 hil)
                  rw [hsz] at hy
                  cases hc : W.cells? 0 (a.add (i * e.sz)) e.sz with
                  | none => rw [hc] at hy; cases hy
                  | some c =>
                    rw [hc] at hy
                    exact ⟨c, rfl, fun _ => ⟨y, hy⟩⟩
                · obtain ⟨y, hy⟩ := mapM_of_get h2 (g := fun _ => none) trivial (i - len) (List.mem_range.2 (by omega))
                  have : len + (i - len) = i := by omega
                  rw [hsz, this] at hy
                  cases hc : W.cells? 0 (a.add (i * e.sz)) e.sz with
                  | none => rw [hc] at hy; cases hy
                  | some c => exact ⟨c, rfl, fun h => absurd h hil⟩
              by_cases hcap : cap = 0
              · subst hcap
                have : len = 0 := by omega
                subst this
                exact got_one S (a := .es) ⟨a, rfl⟩ rfl (.inr (.inl rfl))
              · -- the block
                obtain ⟨c0, hc0, _⟩ := hcells 0 (by omega)
                obtain ⟨_, hl0, hg0⟩ := World.cells?_some hc0
                have hblk : ∃ c t fr, W.heap[a.block]? = some (.cells c t fr) ∧ a.spot = none := by
                  have := hg0 0 hpos
                  have hs : c0[0]? = some c0[0] := List.getElem?_eq_getElem (by omega)
                  rw [hs] at this
                  unfold World.cell? at this
                  split at this
                  · rename_i c t fr hb
                    split at this
                    · cases this
                    · rename_i hsp
                      refine ⟨c, t, fr, by simpa [Addr.add] using hb, ?_⟩
                      simpa [Addr.add] using hsp
                  · cases this
                obtain ⟨c, t1, fr, hb, hsp⟩ := hblk
                have hbl : a.block < W.heap.size := (Array.getElem?_eq_some_iff.1 hb).1
                obtain ⟨ab, aoff, asp⟩ := a
                simp only at hsp hb hbl
                subst hsp
                have hcell : ∀ i cs, i < cap → W.cells? 0 ((⟨ab, aoff, none⟩ : Addr).add (i * e.sz)) e.sz = some cs → cs.length = e.sz ∧ ∀ j, j < e.sz → c[aoff + i * e.sz + j]? = cs[j]? := by
                  intro i cs hi hcs
                  obtain ⟨_, hl, hg⟩ := World.cells?_some hcs
                  refine ⟨hl, fun j hj => ?_⟩
                  rw [← hg j hj]
                  rw [addr_add, addr_add]; simp [World.cell?, hb]
                have hroom : aoff + cap * e.sz ≤ c.size := by
                  obtain ⟨cl, hcl, _⟩ := hcells (cap - 1) (by omega)
                  obtain ⟨hl, hg⟩ := hcell (cap - 1) cl (by omega) hcl
                  have := hg (e.sz - 1) (by omega)
                  rw [List.getElem?_eq_getElem (by omega)] at this
                  have hlt := (Array.getElem?_eq_some_iff.1 this).1
                  have : cap * e.sz = (cap - 1) * e.sz + e.sz := by
                    have : cap = (cap - 1) + 1 := by omega
                    rw [this, Nat.add_mul]; simp
                  omega
                -- the rows
                have hget : ∃ css, (List.range len).mapM (fun i => if i < cap then W.cells? 0 ((⟨ab, aoff, none⟩ : Addr).add (i * e.sz)) e.sz else none) = some css := by
                  refine mapM_some fun i hi => ?_
                  have hil := List.mem_range.1 hi
                  obtain ⟨ci, hci, _⟩ := hcells i (by omega)
                  exact ⟨ci, by rw [if_pos (by omega)]; exact hci⟩
                obtain ⟨css, hcss⟩ := hget
                have hget2 : ∃ css, (List.range len).mapM (fun i => if i < len then W.cells? 0 ((⟨ab, aoff, none⟩ : Addr).add (i * e.sz)) e.sz else none) = some css := by
                  refine mapM_some fun i hi => ?_
                  have hil := List.mem_range.1 hi
                  obtain ⟨ci, hci, _⟩ := hcells i (by omega)
                  exact ⟨ci, by rw [if_pos hil]; exact hci⟩
                obtain ⟨css2, hcss2⟩ := hget2
                obtain ⟨rows, h', r', FP', g1, g2, g3, g4, g5⟩ := rows_got (e := e) (s := s) (W := W) (get := fun i => if i < len then W.cells? 0 ((⟨ab, aoff, none⟩ : Addr).add (i * e.sz)) e.sz else none) (fun i cs h r FP hi S => by
                    split at hi
                    · rename_i hil
                      obtain ⟨ci, hci, hrd⟩ := hcells i (by omega)
                      rw [hci] at hi; cases hi
                      exact ih fuel cs h r FP (hrd hil) (hcell i cs (by omega) hci).1 S
                    · cases hi) (fun i cs hi => by
                    split at hi
                    · rename_i hil
                      exact (hcell i cs (by omega) hi).1
                    · cases hi) (List.range len) css2 hcss2 h r FP S
                have hrl : rows.length = len := by rw [g4]; simp
                have hnone := g1.none_next
                have hB : BR (r'.put h'.next ⟨ab, aoff, e.sz, c.size - aoff⟩) W s ⟨ab, aoff, e.sz, c.size - aoff⟩ (.c e.sz rows true) [ab] := by
                  refine ⟨rfl, rfl, c, t1, fr, hb, (fun h => by cases h), by simp; omega, ?_, fun idx row hrow => ?_⟩
                  · show rows.length * e.sz ≤ c.size - aoff
                    have : len * e.sz ≤ cap * e.sz := Nat.mul_le_mul_right _ hlc
                    rw [hrl]; omega
                  · obtain ⟨m1, m2, _, i, cs, m4, m5, m6⟩ := g5 idx row hrow
                    have hidx : idx < len := by
                      have := (List.getElem?_eq_some_iff.1 hrow).1
                      omega
                    have hii : i = idx := by
                      rw [List.getElem?_range hidx] at m4
                      cases m4; rfl
                    subst hii
                    rw [if_pos hidx] at m5
                    obtain ⟨n1, n2⟩ := hcell i cs (by omega) m5
                    refine ⟨m1, fun off v hv => ?_⟩
                    have hoff : off < e.sz := by
                      have := (List.getElem?_eq_some_iff.1 hv).1
                      omega
                    obtain ⟨v', hv', hVR⟩ := m6.get off v hv
                    exact ⟨List.all_eq_true.1 m2 v (List.mem_of_getElem? hv), v', by rw [n2 off hoff]; exact hv', VR.mono (PM.le_put hnone) _ _ hVR⟩
                refine ⟨[.sl e.sz h'.next 0 rows.length false], _, _, _, g1.addRO e.sz rows _ hbl hB, PM.le_trans g2 (PM.le_put hnone), g3.trans ?_, VRs.one ?_, rfl, .inr (.inr ⟨_, rows, rfl, by rw [Hp.blk_new, if_pos rfl], fun row hrow => ?_⟩)⟩
                · intro id B hB
                  rw [Hp.blk_new, if_neg]
                  · exact hB
                  · rintro rfl
                    obtain ⟨pl, hp, _⟩ := g1.live _ _ hB
                    rw [hnone] at hp; cases hp
                · refine ⟨ab, aoff, cap, by rw [hrl], by omega, (fun h => by cases h), fun _ => ⟨_, by unfold PM.put; rw [if_pos rfl], rfl, rfl, by simp, ?_⟩⟩
                  show (0 + cap) * e.sz ≤ c.size - aoff
                  rw [Nat.zero_add]; omega
                · obtain ⟨j, hj⟩ := List.getElem?_of_mem hrow
                  obtain ⟨m1, _, m3, _⟩ := g5 j row hj
                  refine ⟨m1, m3.ext ?_⟩
                  intro id B hB
                  rw [Hp.blk_new, if_neg]
                  · exact hB
                  · rintro rfl
                    obtain ⟨pl, hp, _⟩ := g1.live _ _ hB
                    rw [hnone] at hp; cases hp
        · cases hx
    · simp [Rd, DataW.trod, hu] at hx

theorem dt_add (l : List Value) (a b : Nat) : l.drop a = (l.drop a).take b ++ l.drop (a + b) := by
  rw [← List.drop_drop, List.take_append_drop]

/-- What is handed in. -/
theorem read_got : ∀ (ts : TS) (md : Md), tsc P ts md = true → ∀ (fuel : Nat) (cs : List Value) (h : Hp) (r : PM) (FP : Nat → List Nat),
    Reads enc P W fuel md cs → cs.length = md.off P + ts.sz → St W.heap.size (fun _ => False) W.heap.size r FP h W s → Got W s h r ts (cs.drop (md.off P)) := by
  intro ts
  induction ts with
  | int k =>
    intro md hk fuel cs h r FP hr hl S
    cases md <;> simp only [tsc] at hk <;> try (cases hk; done)
    rename_i t
    split at hk
    · rename_i k' hu
      rw [decide_eq_true_eq] at hk
      subst hk
      obtain ⟨x, hx⟩ := hr
      cases fuel with
      | zero => cases hx
      | succ fuel =>
        rcases cs with _ | ⟨v, _ | ⟨v2, rest⟩⟩
        · cases hl
        · cases v <;> simp only [Rd, DataW.trod, hu] at hx <;> try (cases hx; done)
          split at hx
          · rename_i hc
            obtain ⟨rfl, hw⟩ := hc
            exact got_one S (VR_int) rfl ⟨_, rfl, hw⟩
          · cases hx
        · simp [Md.off, TS.sz] at hl
    · cases hk
  | bool =>
    intro md hk fuel cs h r FP hr hl S
    cases md <;> simp only [tsc] at hk <;> try (cases hk; done)
    rename_i t
    split at hk
    · rename_i hu
      obtain ⟨x, hx⟩ := hr
      cases fuel with
      | zero => cases hx
      | succ fuel =>
        rcases cs with _ | ⟨v, _ | ⟨v2, rest⟩⟩
        · cases hl
        · cases v <;> simp only [Rd, DataW.trod, hu] at hx <;> try (cases hx; done)
          exact got_one S (a := .b _) rfl rfl ⟨_, rfl⟩
        · simp [Md.off, TS.sz] at hl
    · cases hk
  | str =>
    intro md hk fuel cs h r FP hr hl S
    cases md <;> simp only [tsc] at hk <;> try (cases hk; done)
    rename_i t
    split at hk
    · rename_i hu
      obtain ⟨x, hx⟩ := hr
      cases fuel with
      | zero => cases hx
      | succ fuel =>
        rcases cs with _ | ⟨v, _ | ⟨v2, rest⟩⟩
        · cases hl
        · cases v <;> simp only [Rd, DataW.trod, hu] at hx <;> try (cases hx; done)
          split at hx
          · rename_i hc
            exact got_one S (a := .s _) rfl rfl ⟨_, rfl, hc⟩
          · cases hx
        · simp [Md.off, TS.sz] at hl
    · cases hk
  | slice e ih =>
    intro md hk fuel cs h r FP hr hl S
    cases md <;> simp only [tsc] at hk <;> try (cases hk; done)
    rename_i t
    split at hk
    · rename_i u hu
      simp only [Bool.and_eq_true, Nat.beq_eq, Nat.blt_eq] at hk
      obtain ⟨⟨h1, h2⟩, h3⟩ := hk
      exact read_slice hu h1 h2 (fun fuel cs h r FP hr hl S => by
        have := ih (.ty u) h3 fuel cs h r FP hr (by simp [Md.off, hl]) S
        simpa [Md.off] using this) hr S
    · cases hk
  | unit =>
    intro md hk fuel cs h r FP hr hl S
    have : cs.drop (md.off P) = [] := List.drop_eq_nil_of_le (by rw [hl]; simp [TS.sz])
    rw [this]
    exact ⟨[], h, r, FP, S, r.le_refl, Ext.refl h, rfl, rfl, rfl⟩
  | pair a b iha ihb =>
    intro md hk fuel cs h r FP hr hl S
    simp only [TS.sz] at hl
    have one : ∀ {fuel : Nat} {t : TypeId} {off : Nat}, tsc P a (.ty t) = true → P.cellsOf t = a.sz → off + a.sz ≤ cs.length → (∃ y, Rd enc P W fuel t ((cs.drop off).take (P.cellsOf t)) = some y) →
        ∀ h r FP, St W.heap.size (fun _ => False) W.heap.size r FP h W s → Got W s h r a ((cs.drop off).take a.sz) := by
      intro fuel t off h1 h2 h3 hy h r FP S
      rw [h2] at hy
      have := iha (.ty t) h1 fuel ((cs.drop off).take a.sz) h r FP hy (by simp [Md.off]; omega) S
      simpa [Md.off] using this
    have len1 : ∀ {off : Nat}, off + a.sz ≤ cs.length → ((cs.drop off).take a.sz).length = a.sz := by intro off h; simp; omega
    cases md with
    | ty t =>
      simp only [Md.off, Nat.zero_add] at hl ⊢
      obtain ⟨x, hx⟩ := hr
      cases fuel with
      | zero => cases hx
      | succ fuel =>
        simp only [tsc] at hk
        split at hk
        · rename_i fs hu
          simp only [Bool.and_eq_true, Nat.beq_eq] at hk
          obtain ⟨hk1, hk2⟩ := hk
          split at hk2
          · rename_i f l hfs
            simp only [Bool.and_eq_true, Nat.beq_eq] at hk2
            obtain ⟨⟨⟨h1, h2⟩, h3⟩, h4⟩ := hk2
            simp only [Rd, DataW.trod, hu] at hx
            rw [if_pos (by rw [hk1, hl])] at hx
            cases hm : fs.toList.mapM (fun f => DataW.trod enc P W 0 (fun _ => true) true fuel f.type ((cs.drop f.offset).take (P.cellsOf f.type))) with
            | none => rw [hm] at hx; cases hx
            | some xs =>
              rw [hfs] at hm
              obtain ⟨y, ys, m1, m2⟩ := mapM_cons hm
              have hd := dt_add cs 0 a.sz
              rw [hd]
              refine pair_got S (len1 (by omega)) (one h3 h2 (by omega) ⟨y, by rw [h1] at m1; exact m1⟩) fun h r FP S => ?_
              have := ihb (.fs l a.sz) h4 fuel cs h r FP ⟨ys, m2⟩ (by simp only [Md.off]; omega) S
              simpa [Md.off] using this
          · cases hk2
        · rename_i n e hu
          simp only [Bool.and_eq_true, Nat.beq_eq] at hk
          obtain ⟨hk1, hk2⟩ := hk
          split at hk2
          · rename_i n
            simp only [Bool.and_eq_true, Nat.beq_eq] at hk2
            obtain ⟨⟨h2, h3⟩, h4⟩ := hk2
            simp only [Rd, DataW.trod, hu] at hx
            rw [if_pos (by rw [hk1, hl])] at hx
            cases hm : (List.range (n + 1)).mapM (fun i => DataW.trod enc P W 0 (fun _ => true) true fuel e ((cs.drop (i * P.cellsOf e)).take (P.cellsOf e))) with
            | none => rw [hm] at hx; cases hx
            | some xs =>
              rw [List.range_eq_range', List.range'_succ] at hm
              obtain ⟨y, ys, m1, m2⟩ := mapM_cons hm
              have hd := dt_add cs 0 a.sz
              rw [hd]
              refine pair_got S (len1 (by omega)) (one h3 h2 (by omega) ⟨y, by simpa using m1⟩) fun h r FP S => ?_
              have := ihb (.ar e n 1) h4 fuel cs h r FP ⟨ys, m2⟩ (by simp only [Md.off, h2]; omega) S
              simpa [Md.off, h2] using this
          · cases hk2
        · cases hk
    | fs l off =>
      simp only [Md.off] at hl ⊢
      simp only [tsc] at hk
      split at hk
      · rename_i f l
        simp only [Bool.and_eq_true, Nat.beq_eq] at hk
        obtain ⟨⟨⟨h1, h2⟩, h3⟩, h4⟩ := hk
        obtain ⟨xs, hm⟩ := hr
        obtain ⟨y, ys, m1, m2⟩ := mapM_cons hm
        rw [dt_add cs off a.sz]
        refine pair_got S (len1 (by omega)) (one h3 h2 (by omega) ⟨y, by rw [h1] at m1; exact m1⟩) fun h r FP S => ?_
        exact ihb (.fs l (off + a.sz)) h4 fuel cs h r FP ⟨ys, m2⟩ (by simp only [Md.off]; omega) S
      · cases hk
    | ar e n i =>
      simp only [Md.off] at hl ⊢
      simp only [tsc] at hk
      split at hk
      · rename_i n
        simp only [Bool.and_eq_true, Nat.beq_eq] at hk
        obtain ⟨⟨h2, h3⟩, h4⟩ := hk
        obtain ⟨xs, hm⟩ := hr
        rw [List.range'_succ] at hm
        obtain ⟨y, ys, m1, m2⟩ := mapM_cons hm
        rw [h2] at hl ⊢
        rw [dt_add cs (i * a.sz) a.sz]
        refine pair_got S (len1 (by omega)) (one h3 h2 (by omega) ⟨y, by rw [h2] at m1; rw [h2]; exact m1⟩) fun h r FP S => ?_
        have := ihb (.ar e n (i + 1)) h4 fuel cs h r FP ⟨ys, m2⟩ (by simp only [Md.off, h2, Nat.add_mul, Nat.one_mul]; omega) S
        simpa [Md.off, h2, Nat.add_mul] using this
      · cases hk

end
end Go.Proofs.YtpkimnaenlbbjaaGreat.AM

/- How the abstract machine's state stands to a world: values, blocks, the whole heap. No program in sight. Conditions: none. -/
import Derived.Test.YtpkimnaenlbbjaaGreatM1
import Derived.Laws.CopyRow
namespace Go.Proofs.YtpkimnaenlbbjaaGreat.AM
open Go

/-- Where a block lies. -/
structure Pl where
  b : Nat
  base : Nat
  sz : Nat
  room : Nat

abbrev PM := Nat → Option Pl

def PM.le (r r' : PM) : Prop := ∀ id pl, r id = some pl → r' id = some pl
theorem PM.le_refl (r : PM) : r.le r := fun _ _ h => h
theorem PM.le_trans {a b c : PM} (h : a.le b) (k : b.le c) : a.le c := fun i p e => k i p (h i p e)

def PlR (r : PM) (sz id idx len cap b off : Nat) : Prop :=
  ∃ pl, r id = some pl ∧ pl.sz = sz ∧ b = pl.b ∧ off = pl.base + idx * sz ∧ (idx + cap) * sz ≤ pl.room

mutual
def VR (r : PM) : AV → Value → Prop
  | .unk, _ => True
  | .und, v => v = .tuple #[]
  | .b t, v => v = .bool t
  | .i k n, v => v = .int k n
  | .s t, v => v = .string t
  | .np, v => v = .pointer none
  | .p id idx off, v => ∃ pl, r id = some pl ∧ v = .pointer (some ⟨pl.b, pl.base + idx * pl.sz + off, none⟩)
  | .q _ _, _ => False
  | .qs _ _ _, _ => False
  | .ns, v => v = .slice none 0 0
  | .es, v => ∃ a, v = .slice (some a) 0 0
  | .sl sz id idx len tight, v => ∃ b off cap, v = .slice (some ⟨b, off, none⟩) len cap ∧ len ≤ cap ∧ (tight = true → cap = len) ∧ (cap ≠ 0 → PlR r sz id idx len cap b off)
  | .fn f fi ca, v => ∃ fi' ca', v = .func (.func f) fi' ca' ∧ VRs r fi fi'.toList ∧ VRs r ca ca'.toList
  | .nf, v => v = .nilFunc
  | .ic t a, v => ∃ a', v = .iface t a' ∧ VR r a a'
  | .ni, v => v = .nilIface
  | .ag cs, v => ∃ cs', v = .agg cs' ∧ VRs r cs cs'.toList
  | .tu vs, v => ∃ vs', v = .tuple vs' ∧ VRs r vs vs'.toList
def VRs (r : PM) : List AV → List Value → Prop
  | [], l => l = []
  | a :: as, l => ∃ v l', l = v :: l' ∧ VR r a v ∧ VRs r as l'
end

mutual
theorem VR.mono {r r' : PM} (h : r.le r') : ∀ (a : AV) (v : Value), VR r a v → VR r' a v := by
  intro a v hv
  cases a <;> simp only [VR] at hv ⊢ <;> try (exact hv)
  case p => obtain ⟨pl, h1, h2⟩ := hv; exact ⟨pl, h _ _ h1, h2⟩
  case sl =>
    obtain ⟨b, off, cap, h1, h2, h3, h4⟩ := hv
    refine ⟨b, off, cap, h1, h2, h3, fun hc => ?_⟩
    obtain ⟨pl, g1, g2⟩ := h4 hc
    exact ⟨pl, h _ _ g1, g2⟩
  case fn =>
    obtain ⟨fi, ca, h1, h2, h3⟩ := hv
    exact ⟨fi, ca, h1, VRs.mono h _ _ h2, VRs.mono h _ _ h3⟩
  case ic =>
    obtain ⟨a', h1, h2⟩ := hv
    exact ⟨a', h1, VR.mono h _ _ h2⟩
  case ag =>
    obtain ⟨a', h1, h2⟩ := hv
    exact ⟨a', h1, VRs.mono h _ _ h2⟩
  case tu =>
    obtain ⟨a', h1, h2⟩ := hv
    exact ⟨a', h1, VRs.mono h _ _ h2⟩
theorem VRs.mono {r r' : PM} (h : r.le r') : ∀ (a : List AV) (v : List Value), VRs r a v → VRs r' a v := by
  intro a v hv
  cases a with
  | nil => exact hv
  | cons a as =>
    simp only [VRs] at hv ⊢
    obtain ⟨v', l', h1, h2, h3⟩ := hv
    exact ⟨v', l', h1, VR.mono h _ _ h2, VRs.mono h _ _ h3⟩
end

theorem VRs.length {r : PM} : ∀ {a : List AV} {v : List Value}, VRs r a v → v.length = a.length := by
  intro a
  induction a with
  | nil => intro v h; simp only [VRs] at h; subst h; rfl
  | cons a as ih =>
    intro v h
    simp only [VRs] at h
    obtain ⟨v', l', h1, h2, h3⟩ := h
    subst h1
    simp [ih h3]

theorem VRs.get {r : PM} : ∀ {a : List AV} {v : List Value}, VRs r a v → ∀ (i : Nat) (x : AV), a[i]? = some x → ∃ y, v[i]? = some y ∧ VR r x y := by
  intro a
  induction a with
  | nil => intro v h i x hx; simp at hx
  | cons a as ih =>
    intro v h i x hx
    simp only [VRs] at h
    obtain ⟨v', l', h1, h2, h3⟩ := h
    subst h1
    cases i with
    | zero => simp at hx; subst hx; exact ⟨v', rfl, h2⟩
    | succ i => simp at hx; simpa using ih h3 i x hx

theorem VRs.of_get {r : PM} : ∀ {a : List AV} {v : List Value}, v.length = a.length → (∀ (i : Nat) (x : AV), a[i]? = some x → ∃ y, v[i]? = some y ∧ VR r x y) → VRs r a v := by
  intro a
  induction a with
  | nil => intro v h _; simp only [VRs]; exact List.length_eq_zero_iff.1 h
  | cons a as ih =>
    intro v h hg
    simp only [VRs]
    cases v with
    | nil => simp at h
    | cons v vs =>
      obtain ⟨y, h1, h2⟩ := hg 0 a rfl
      simp at h1; subst h1
      refine ⟨v, vs, rfl, h2, ih (by simpa using h) fun i x hx => ?_⟩
      simpa using hg (i + 1) x (by simpa using hx)

theorem VRs.append {r : PM} {a c : List AV} {v w : List Value} (h : VRs r a v) (k : VRs r c w) : VRs r (a ++ c) (v ++ w) := by
  induction a generalizing v with
  | nil => simp only [VRs] at h; subst h; simpa using k
  | cons x xs ih =>
    simp only [VRs] at h
    obtain ⟨v', l', h1, h2, h3⟩ := h
    subst h1
    simp only [List.cons_append, VRs]
    exact ⟨v', l' ++ w, rfl, h2, ih h3⟩

theorem VRs.drop {r : PM} {a : List AV} {v : List Value} (h : VRs r a v) (n : Nat) : VRs r (a.drop n) (v.drop n) := by
  refine VRs.of_get (by simp [h.length]) fun i x hx => ?_
  rw [List.getElem?_drop] at hx ⊢
  exact h.get _ _ hx
theorem VRs.take {r : PM} {a : List AV} {v : List Value} (h : VRs r a v) (n : Nat) : VRs r (a.take n) (v.take n) := by
  refine VRs.of_get (by simp [h.length]) fun i x hx => ?_
  rw [List.getElem?_take] at hx ⊢
  split at hx
  · rename_i hlt
    simp only [hlt, if_true]
    exact h.get _ _ hx
  · cases hx

theorem VRs.set {r : PM} {a : List AV} {v : List Value} (h : VRs r a v) (n : Nat) {x : AV} {y : Value} (hxy : VR r x y) : VRs r (a.set n x) (v.set n y) := by
  refine VRs.of_get (by simp [h.length]) fun i x' hx => ?_
  rw [List.getElem?_set] at hx ⊢
  split at hx
  · rename_i hni
    subst hni
    split at hx
    · rename_i hl
      rw [if_pos rfl, if_pos (by rw [h.length]; exact hl)]
      cases hx
      exact ⟨y, rfl, hxy⟩
    · cases hx
  · rename_i hni
    rw [if_neg hni]
    exact h.get _ _ hx

/-- A value that lies in one cell. -/
theorem VR.one {r : PM} {a : AV} {v : Value} (h : VR r a v) (hc : a.cell = true) : v.oneCell' = true := by
  cases a <;> simp [AV.cell] at hc <;> simp only [VR] at h
  all_goals first
    | (subst h; rfl)
    | (obtain ⟨_, rfl⟩ := h; rfl)
    | (obtain ⟨_, _, rfl⟩ := h; rfl)
    | (obtain ⟨_, _, _, rfl, _⟩ := h; rfl)
    | (obtain ⟨_, _, rfl, _⟩ := h; rfl)
    | (obtain ⟨_, rfl, _⟩ := h; rfl)

/-- The cells of a value. -/
theorem VR.cells {r : PM} {a : AV} {v : Value} (h : VR r a v) (hc : a.cells.all AV.cell = true) : VRs r a.cells v.cells.toList := by
  cases a
  case ag cs =>
    simp only [VR] at h
    obtain ⟨cs', rfl, h⟩ := h
    simpa [AV.cells, Value.cells] using h
  all_goals
    simp only [AV.cells, List.all_cons, List.all_nil, Bool.and_true] at hc
    first
    | (simp [AV.cell] at hc; done)
    | (have h1 := h.one hc
       have : v.cells = #[v] := by cases v <;> simp [Value.oneCell'] at h1 <;> rfl
       rw [this]
       simp only [AV.cells, VRs]
       exact ⟨v, [], rfl, h, rfl⟩)

/-- The heads of logs. -/
def LogR (w : World) (log : List (Int × Int)) (v : Value) (F : List Nat) : Prop :=
  (log = [] ∧ v = .slice none 0 0 ∧ F = []) ∨
  ∃ x cap c t, v = .slice (some ⟨x, 0, none⟩) log.length cap ∧ F = [x] ∧ log.length ≤ cap ∧ w.heap[x]? = some (.cells c t (0, 0)) ∧ c.size = cap * 2 ∧
    ∀ j p, log[j]? = some p → c[j * 2]? = some (.int .i64 p.1) ∧ c[j * 2 + 1]? = some (.int .i64 p.2)

def MemR (w : World) (pl : Pl) (ws : List Int) (F : List Nat) : Prop :=
  pl.base = 0 ∧ pl.sz = 1 ∧ pl.room = 1 ∧ ws.length ≤ 4000 ∧ ∃ x t t', x ≠ pl.b ∧ F = [pl.b, x] ∧
    w.heap[pl.b]? = some (.cells #[.slice (some ⟨x, 0, none⟩) ws.length ws.length] t (0, 0)) ∧
    w.heap[x]? = some (.cells (ws.map (Value.int .i64)).toArray t' (0, 0))

def FrR (r : PM) (w : World) (pl : Pl) (fs : FS) (F : List Nat) : Prop :=
  pl.base = 0 ∧ pl.sz = 9 ∧ pl.room = 9 ∧ fs.at_ ≤ fs.log.length ∧ fs.log.length ≤ 2 ^ 32 ∧ ∃ plm lv Fl t, r fs.mid = some plm ∧ plm.base = 0 ∧ plm.sz = 1 ∧ LogR w fs.log lv Fl ∧ pl.b ∉ Fl ∧ F = pl.b :: Fl ∧
    w.heap[pl.b]? = some (.cells #[.pointer (some ⟨plm.b, 0, none⟩), lv, .int .i64 fs.at_, .bool fs.fresh, .bool fs.off, .int .i64 fs.now, .int .i64 fs.mark, .bool fs.marked, .bool fs.over] t (0, 0))

/-- A block in the world; F: the world's blocks that it takes. -/
def BR (r : PM) (w : World) (s : KS) (pl : Pl) : Blk → List Nat → Prop
  | .c sz rows ro, F => pl.sz = sz ∧ F = [pl.b] ∧ ∃ c t fr, w.heap[pl.b]? = some (.cells c t fr) ∧ (ro = false → fr = (0, 0)) ∧ c.size = pl.base + pl.room ∧ rows.length * sz ≤ pl.room ∧
      ∀ idx row, rows[idx]? = some row → row.length = sz ∧ ∀ off v, row[off]? = some v → v.cell = true ∧ ∃ v', c[pl.base + idx * sz + off]? = some v' ∧ VR r v v'
  | .mem ws, F => MemR w pl ws F
  | .fr fs, F => FrR r w pl fs F
  | .ses, F => FrR r w pl s.fs F
  | .sesm, F => MemR w pl s.ws F

def Blk.ro : Blk → Bool
  | .c _ _ ro => ro
  | _ => false

/-- The heap in the world. FP: the world's blocks that each block takes. B0: the blocks below it are the caller's, never written; O: those that may be written, beside the ones from n0 on. -/
structure St (B0 : Nat) (O : Nat → Prop) (n0 : Nat) (r : PM) (FP : Nat → List Nat) (h : Hp) (w : World) (s : KS) : Prop where
  b0 : B0 ≤ n0
  ob : ∀ b, O b → B0 ≤ b
  low : n0 ≤ w.heap.size
  dom : ∀ id pl, r id = some pl → id < h.next
  live : ∀ id B, h.blk id = some B → ∃ pl, r id = some pl ∧ BR r w s pl B (FP id)
  own : ∀ id B, h.blk id = some B → B.ro = false → ∀ b ∈ FP id, O b ∨ n0 ≤ b
  apart : ∀ id id' B B', h.blk id = some B → h.blk id' = some B' → B.ro = false → B'.ro = false → id ≠ id' → ∀ b ∈ FP id, b ∉ FP id'
  rob : ∀ id B, h.blk id = some B → B.ro = true → ∀ b ∈ FP id, b < B0

/-- What is not ours stays. -/
structure Keep (O : Nat → Prop) (n0 : Nat) (w w' : World) : Prop where
  os : w'.os = w.os
  tape : w'.tape = w.tape
  output : w'.output = w.output
  size : w.heap.size ≤ w'.heap.size
  block : ∀ k, k < n0 → ¬ O k → w'.heap[k]? = w.heap[k]?

theorem Keep.refl (O : Nat → Prop) (n0 : Nat) (w : World) : Keep O n0 w w := ⟨rfl, rfl, rfl, Nat.le_refl _, fun _ _ _ => rfl⟩
theorem Keep.trans {O : Nat → Prop} {n0 : Nat} {a b c : World} (h : Keep O n0 a b) (k : Keep O n0 b c) : Keep O n0 a c :=
  ⟨k.os.trans h.os, k.tape.trans h.tape, k.output.trans h.output, Nat.le_trans h.size k.size, fun i hi ho => (k.block i hi ho).trans (h.block i hi ho)⟩

/-- A call is met: with the same state in the world, the function does what the machine does. -/
def CallOK (P : Program) (call : Call) : Prop :=
  ∀ f args h s v h' s', (call f args h).run s = some ((v, h'), s') →
    (∃ fn, P.funcs[f]? = some fn ∧ (fn.name == "runtime.NumGoroutine") = false ∧ fn.body.isSome = true) ∧
    ∀ (B0 : Nat) (O : Nat → Prop) (n0 : Nat) (r : PM) (FP : Nat → List Nat) (w : World) (args' : Array Value), St B0 O n0 r FP h w s → VRs r args args'.toList →
      Calls P f args' w fun e w' => ∃ r' FP' v', e = .returned v' ∧ r.le r' ∧ VR r' v v' ∧ St B0 O n0 r' FP' h' w' s' ∧ Keep O n0 w w'

/-- Values in a frame's slots: addresses of the stack, too. -/
def EV (r : PM) (dl : Nat → Option Nat) : AV → Value → Prop
  | .q t off, v => ∃ b, dl t = some b ∧ v = .pointer (some ⟨b, off, none⟩)
  | .qs _ t n, v => ∃ b, dl t = some b ∧ v = .slice (some ⟨b, 0, none⟩) n n
  | a, v => VR r a v

/-- A function at work. -/
structure Fst (B0 : Nat) (O : Nat → Prop) (n0 : Nat) (ntm : Nat) (r : PM) (FP : Nat → List Nat) (dl : Nat → Option Nat) (e : Env) (h : Hp) (w : World) (s : KS) (a : Act) : Prop where
  st : St B0 O n0 r FP h w s
  size : a.tmps.size = ntm
  tmp : ∀ i, i < ntm → EV r dl (e.getD i .unk) (a.tmps.getD i undef)
  slot : ∀ j cs, ntm ≤ j → e.getD j .unk = .ag cs → cs.all AV.cell = true ∧ ∃ b c t, dl j = some b ∧ w.heap[b]? = some (.cells c t (0, 0)) ∧ VRs r cs c.toList
  free : ∀ j b, dl j = some b → n0 ≤ b ∧ b < w.heap.size ∧ ∀ id B, h.blk id = some B → B.ro = false → b ∉ FP id
  ge : ∀ j b, dl j = some b → ntm ≤ j
  alone : ∀ j j' b, dl j = some b → dl j' = some b → j = j'

end Go.Proofs.YtpkimnaenlbbjaaGreat.AM

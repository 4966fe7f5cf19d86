/- What becomes of the heap's relation to the world: a new block, cells written, a block forgotten. Conditions: none. -/
import Derived.Test.YtpkimnaenlbbjaaGreatM3
namespace Go.Proofs.YtpkimnaenlbbjaaGreat.AM
open Go

theorem LogR.keep {w w' : World} {log : List (Int × Int)} {v : Value} {F : List Nat} (hF : ∀ b, b ∈ F → w'.heap[b]? = w.heap[b]?) (h : LogR w log v F) : LogR w' log v F := by
  rcases h with h | ⟨x, cap, c, t, h1, h2, h3, h4, h5⟩
  · exact .inl h
  · refine .inr ⟨x, cap, c, t, h1, h2, h3, ?_, h5⟩
    rw [hF x (by rw [h2]; simp)]; exact h4

theorem MemR.keep {w w' : World} {pl : Pl} {ws : List Int} {F : List Nat} (hF : ∀ b, b ∈ F → w'.heap[b]? = w.heap[b]?) (h : MemR w pl ws F) : MemR w' pl ws F := by
  obtain ⟨h1, h2, h3, h4, x, t, t', h5, h6, h7, h8⟩ := h
  refine ⟨h1, h2, h3, h4, x, t, t', h5, h6, ?_, ?_⟩
  · rw [hF pl.b (by rw [h6]; simp)]; exact h7
  · rw [hF x (by rw [h6]; simp)]; exact h8

theorem FrR.keep {r r' : PM} {w w' : World} {pl : Pl} {fs : FS} {F : List Nat} (hr : r.le r') (hF : ∀ b, b ∈ F → w'.heap[b]? = w.heap[b]?) (h : FrR r w pl fs F) : FrR r' w' pl fs F := by
  obtain ⟨h1, h2, h3, h4, h4', plm, lv, Fl, t, h5, h6, h7, h8, h9, h10, h11⟩ := h
  refine ⟨h1, h2, h3, h4, h4', plm, lv, Fl, t, hr _ _ h5, h6, h7, ?_, h9, h10, ?_⟩
  · exact h8.keep fun b hb => hF b (by rw [h10]; simp [hb])
  · rw [hF pl.b (by rw [h10]; simp)]; exact h11

theorem BR.keep {r r' : PM} {w w' : World} {s : KS} {pl : Pl} {B : Blk} {F : List Nat} (hr : r.le r') (hF : ∀ b, b ∈ F → w'.heap[b]? = w.heap[b]?) (h : BR r w s pl B F) : BR r' w' s pl B F := by
  cases B with
  | c sz rows ro =>
    obtain ⟨h1, h2, c, t, fr, h3, h4, h5, h6, h7⟩ := h
    refine ⟨h1, h2, c, t, fr, ?_, h4, h5, h6, fun idx row hrow => ?_⟩
    · rw [hF pl.b (by rw [h2]; simp)]; exact h3
    · obtain ⟨g1, g2⟩ := h7 idx row hrow
      refine ⟨g1, fun off v hv => ?_⟩
      obtain ⟨k1, v', k2, k3⟩ := g2 off v hv
      exact ⟨k1, v', k2, k3.mono hr⟩
  | mem ws => exact MemR.keep hF h
  | fr fs => exact FrR.keep hr hF h
  | ses => exact FrR.keep hr hF h
  | sesm => exact MemR.keep hF h

/-- All that a block takes lies in the world. -/
theorem BR.lt {r : PM} {w : World} {s : KS} {pl : Pl} {B : Blk} {F : List Nat} (h : BR r w s pl B F) : ∀ b, b ∈ F → b < w.heap.size := by
  have lt : ∀ {b : Nat} {o : Obj}, w.heap[b]? = some o → b < w.heap.size := fun h => (Array.getElem?_eq_some_iff.1 h).1
  have mem : ∀ {ws : List Int}, MemR w pl ws F → ∀ b, b ∈ F → b < w.heap.size := by
    rintro ws ⟨_, _, _, _, x, t, t', _, h6, h7, h8⟩ b hb
    rw [h6] at hb
    simp at hb
    rcases hb with rfl | rfl
    · exact lt h7
    · exact lt h8
  have fr : ∀ {fs : FS}, FrR r w pl fs F → ∀ b, b ∈ F → b < w.heap.size := by
    rintro fs ⟨_, _, _, _, _, plm, lv, Fl, t, _, _, _, h8, _, h10, h11⟩ b hb
    rw [h10] at hb
    simp at hb
    rcases hb with rfl | hb
    · exact lt h11
    · rcases h8 with ⟨_, _, h⟩ | ⟨x, cap, c, t, _, h, _, h4, _⟩
      · rw [h] at hb; cases hb
      · rw [h] at hb; simp at hb; subst hb; exact lt h4
  cases B with
  | c sz rows ro =>
    obtain ⟨h1, h2, c, t, fr, h3, _⟩ := h
    intro b hb
    rw [h2] at hb; simp at hb; subst hb
    exact lt h3
  | mem ws => exact mem h
  | fr fs => exact fr h
  | ses => exact fr h
  | sesm => exact mem h

section
variable {B0 : Nat} {O : Nat → Prop} {n0 ntm : Nat} {r : PM} {FP : Nat → List Nat} {dl : Nat → Option Nat} {e : Env} {h : Hp} {w : World} {s : KS} {a : Act}

def PM.put (r : PM) (id : Nat) (pl : Pl) : PM := fun j => if j = id then some pl else r j
def fput (FP : Nat → List Nat) (id : Nat) (F : List Nat) : Nat → List Nat := fun j => if j = id then F else FP j

theorem PM.le_put {r : PM} {id : Nat} {pl : Pl} (h : r id = none) : r.le (r.put id pl) := by
  intro j p hj
  unfold PM.put
  split
  · rename_i e; subst e; rw [h] at hj; cases hj
  · exact hj

theorem St.none_next (S : St B0 O n0 r FP h w s) : r h.next = none := by
  cases hq : r h.next with
  | none => rfl
  | some pl => exact absurd (S.dom _ _ hq) (Nat.lt_irrefl _)

theorem heap_push_lt {w : World} {o : Obj} {k : Nat} (hk : k < w.heap.size) : (w.alloc o).heap[k]? = w.heap[k]? := by
  show (w.heap.push o)[k]? = _
  rw [Array.getElem?_push, if_neg (by omega)]
theorem heap_push_eq {w : World} {o : Obj} : (w.alloc o).heap[w.heap.size]? = some o := by
  show (w.heap.push o)[w.heap.size]? = _
  rw [Array.getElem?_push, if_pos rfl]

theorem keep_alloc {w : World} {o : Obj} (hn : n0 ≤ w.heap.size) : Keep O n0 w (w.alloc o) :=
  ⟨rfl, rfl, rfl, by simp, fun k hk _ => heap_push_lt (by omega)⟩

/-- A new block of the machine's, made of the world's newest one. -/
theorem St.new (S : St B0 O n0 r FP h w s) (B : Blk) (o : Obj) (pl : Pl) (hro : B.ro = false) (hpl : pl.b = w.heap.size)
    (hB : BR (r.put h.next pl) (w.alloc o) s pl B [w.heap.size]) :
    St B0 O n0 (r.put h.next pl) (fput FP h.next [w.heap.size]) (h.new B) (w.alloc o) s := by
  have hnone := S.none_next
  have hlt : ∀ id B, h.blk id = some B → id ≠ h.next := by
    intro id B hb e
    obtain ⟨pl, hp, _⟩ := S.live id B hb
    rw [e, hnone] at hp; cases hp
  have hF : ∀ id, id ≠ h.next → fput FP h.next [w.heap.size] id = FP id := fun id hid => by unfold fput; rw [if_neg hid]
  have hFn : fput FP h.next [w.heap.size] h.next = [w.heap.size] := by unfold fput; rw [if_pos rfl]
  have hin : ∀ id B, h.blk id = some B → ∀ b, b ∈ FP id → b < w.heap.size := by
    intro id B hb
    obtain ⟨pl, _, h2⟩ := S.live id B hb
    exact h2.lt
  refine ⟨S.b0, S.ob, by simp; have := S.low; omega, ?_, ?_, ?_, ?_, ?_⟩
  · intro id pl' hp
    rw [Hp.next_new]
    unfold PM.put at hp
    split at hp
    · omega
    · have := S.dom _ _ hp; omega
  · intro id B' hb
    rw [Hp.blk_new] at hb
    split at hb
    · rename_i e; subst e
      cases hb
      refine ⟨pl, by unfold PM.put; rw [if_pos rfl], ?_⟩
      rw [hFn]; exact hB
    · rename_i e
      obtain ⟨pl', h1, h2⟩ := S.live id B' hb
      refine ⟨pl', PM.le_put hnone _ _ h1, ?_⟩
      rw [hF id e]
      exact h2.keep (PM.le_put hnone) fun b hbm => heap_push_lt (h2.lt b hbm)
  · intro id B' hb hr b hbm
    rw [Hp.blk_new] at hb
    split at hb
    · rename_i e; subst e
      rw [hFn] at hbm; simp at hbm; subst hbm
      exact .inr S.low
    · rename_i e
      rw [hF id e] at hbm
      exact S.own id B' hb hr b hbm
  · intro id id' B1 B2 h1 h2 r1 r2 hne b hb1 hb2
    rw [Hp.blk_new] at h1 h2
    split at h1
    · rename_i e1; subst e1
      rw [hFn] at hb1; simp at hb1; subst hb1
      split at h2
      · rename_i e2; exact hne e2.symm
      · rename_i e2
        rw [hF id' e2] at hb2
        have := hin id' B2 h2 _ hb2
        omega
    · rename_i e1
      rw [hF id e1] at hb1
      split at h2
      · rename_i e2; subst e2
        rw [hFn] at hb2; simp at hb2; subst hb2
        have := hin id B1 h1 _ hb1
        omega
      · rename_i e2
        rw [hF id' e2] at hb2
        exact S.apart id id' B1 B2 h1 h2 r1 r2 hne b hb1 hb2
  · intro id B' hb hr b hbm
    rw [Hp.blk_new] at hb
    split at hb
    · cases hb; rw [hro] at hr; cases hr
    · rename_i e
      rw [hF id e] at hbm
      exact S.rob id B' hb hr b hbm

/-- The machine forgets a block. -/
theorem St.forget (S : St B0 O n0 r FP h w s) (id0 : Nat) : St B0 O n0 r FP (h.set id0 none) w s := by
  have hb : ∀ id B, (h.set id0 none).blk id = some B → h.blk id = some B := by
    intro id B hb
    rw [Hp.blk_set] at hb
    split at hb
    · cases hb
    · exact hb
  exact ⟨S.b0, S.ob, S.low, S.dom, fun id B k => S.live id B (hb id B k), fun id B k => S.own id B (hb id B k), fun id id' B B' k k' => S.apart id id' B B' (hb _ _ k) (hb _ _ k'), fun id B k => S.rob id B (hb id B k)⟩

/-- One block of the machine's turns, in the world's blocks that it has (or newer ones). -/
theorem St.turn (S : St B0 O n0 r FP h w s) (id0 : Nat) (B B' : Blk) (w' : World) (F' : List Nat) (hB : h.blk id0 = some B) (hro : B.ro = false) (hro' : B'.ro = false) (hsz : w.heap.size ≤ w'.heap.size)
    (hw : ∀ b, b < w.heap.size → b ∉ FP id0 → w'.heap[b]? = w.heap[b]?)
    (hF : ∀ b, b ∈ F' → b ∈ FP id0 ∨ w.heap.size ≤ b)
    (hB' : ∀ pl, r id0 = some pl → BR r w s pl B (FP id0) → BR r w' s pl B' F') :
    St B0 O n0 r (fput FP id0 F') (h.set id0 (some B')) w' s := by
  have hFo : ∀ id, id ≠ id0 → fput FP id0 F' id = FP id := fun id hid => by unfold fput; rw [if_neg hid]
  have hFn : fput FP id0 F' id0 = F' := by unfold fput; rw [if_pos rfl]
  have hin : ∀ id B, h.blk id = some B → ∀ b, b ∈ FP id → b < w.heap.size := by
    intro id B hb
    obtain ⟨pl, _, h2⟩ := S.live id B hb
    exact h2.lt
  have hdis : ∀ id B1, id ≠ id0 → h.blk id = some B1 → ∀ b, b ∈ FP id → b ∉ FP id0 := by
    intro id B1 hne hb b hbm hb0
    cases hr1 : B1.ro with
    | false => exact S.apart id id0 B1 B hb hB hr1 hro hne b hbm hb0
    | true =>
      have h1 := S.rob id B1 hb hr1 b hbm
      have hb := S.b0
      rcases S.own id0 B hB hro b hb0 with h2 | h2
      · have := S.ob b h2; omega
      · omega
  refine ⟨S.b0, S.ob, Nat.le_trans S.low hsz, ?_, ?_, ?_, ?_, ?_⟩
  · intro id pl hp
    rw [Hp.next_set]; exact S.dom _ _ hp
  · intro id B1 hb
    rw [Hp.blk_set] at hb
    split at hb
    · rename_i e; subst e
      cases hb
      obtain ⟨pl, h1, h2⟩ := S.live id B hB
      refine ⟨pl, h1, ?_⟩
      rw [hFn]; exact hB' pl h1 h2
    · rename_i e
      obtain ⟨pl, h1, h2⟩ := S.live id B1 hb
      refine ⟨pl, h1, ?_⟩
      rw [hFo id e]
      exact h2.keep r.le_refl fun b hbm => hw b (h2.lt b hbm) (hdis id B1 e hb b hbm)
  · intro id B1 hb hr b hbm
    rw [Hp.blk_set] at hb
    split at hb
    · rename_i e; subst e
      rw [hFn] at hbm
      rcases hF b hbm with h1 | h1
      · exact S.own id B hB hro b h1
      · exact .inr (Nat.le_trans S.low h1)
    · rename_i e
      rw [hFo id e] at hbm
      exact S.own id B1 hb hr b hbm
  · intro id id' B1 B2 h1 h2 r1 r2 hne b hb1 hb2
    rw [Hp.blk_set] at h1 h2
    split at h1
    · rename_i e1; subst e1
      rw [hFn] at hb1
      split at h2
      · rename_i e2; exact hne e2.symm
      · rename_i e2
        rw [hFo id' e2] at hb2
        rcases hF b hb1 with g | g
        · exact hdis id' B2 e2 h2 b hb2 g
        · have := hin id' B2 h2 _ hb2
          omega
    · rename_i e1
      rw [hFo id e1] at hb1
      split at h2
      · rename_i e2; subst e2
        rw [hFn] at hb2
        rcases hF b hb2 with g | g
        · exact hdis id B1 e1 h1 b hb1 g
        · have := hin id B1 h1 _ hb1
          omega
      · rename_i e2
        rw [hFo id' e2] at hb2
        exact S.apart id id' B1 B2 h1 h2 r1 r2 hne b hb1 hb2
  · intro id B1 hb hr b hbm
    rw [Hp.blk_set] at hb
    split at hb
    · cases hb; rw [hro'] at hr; cases hr
    · rename_i e
      rw [hFo id e] at hbm
      exact S.rob id B1 hb hr b hbm

/-- What is written into a block of the machine's is ours. -/
theorem St.keep_of (S : St B0 O n0 r FP h w s) {id0 : Nat} {B : Blk} {w' : World} (hB : h.blk id0 = some B) (hro : B.ro = false)
    (os : w'.os = w.os) (tape : w'.tape = w.tape) (output : w'.output = w.output) (hsz : w.heap.size ≤ w'.heap.size)
    (hw : ∀ b, b < w.heap.size → b ∉ FP id0 → w'.heap[b]? = w.heap[b]?) : Keep O n0 w w' :=
  ⟨os, tape, output, hsz, fun k hk ho => hw k (Nat.lt_of_lt_of_le hk S.low) fun hm => by
    rcases S.own id0 B hB hro k hm with g | g
    · exact ho g
    · omega⟩
end
end Go.Proofs.YtpkimnaenlbbjaaGreat.AM

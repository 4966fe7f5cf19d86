/- The check of a region with an open order. Conditions: none. -/
import Derived.Test.YtpkimnaenlbbjaaGreatM17
namespace Go.Proofs.YtpkimnaenlbbjaaGreat.AM
open Go

def optb : Option Nat → Nat → Bool
  | some a, d => Nat.beq a d
  | none, _ => false

theorem optb_eq {o : Option Nat} {d : Nat} : optb o d = true ↔ o = some d := by
  cases o <;> simp [optb, Nat.beq_eq]
theorem optb_ne {o : Option Nat} {d : Nat} (h : optb o d = false) : o ≠ some d := by
  intro hh; rw [optb_eq.2 hh] at h; cases h

def hasb (l : List Nat) (d : Nat) : Bool := l.any (Nat.beq d)
theorem hasb_iff {l : List Nat} {d : Nat} : hasb l d = true ↔ d ∈ l := by
  simp only [hasb, List.any_eq_true, Nat.beq_eq]
  exact ⟨fun ⟨x, h1, h2⟩ => h2 ▸ h1, fun h => ⟨d, h, rfl⟩⟩
theorem hasb_not {l : List Nat} {d : Nat} (h : hasb l d = false) : d ∉ l := by
  intro hh; rw [hasb_iff.2 hh] at h; cases h

def Cl.isX : Cl → Bool
  | .X => true
  | _ => false
def Cl.isE : Cl → Bool
  | .E => true
  | _ => false

def wfc (nt : Nat) (o : AOper) : Bool :=
  o.rds.all (fun t => Nat.blt t nt) && (match o.dst with | some d => Nat.blt d nt | none => true) && (match o.op.slotD with | some s => Nat.ble nt s | none => true) &&
    !o.op.cl.isX && (o.re.isEmpty || o.op.cl.isE) && o.res.all (fun t => Nat.blt t nt)

theorem wfc_of {nt : Nat} {o : AOper} (h : wfc nt o = true) : Wf nt o := by
  simp only [wfc, Bool.and_eq_true, List.all_eq_true, Nat.blt_eq, Bool.or_eq_true, List.isEmpty_iff, Bool.not_eq_true'] at h
  obtain ⟨⟨⟨⟨⟨h1, h2⟩, h3⟩, h4⟩, h5⟩, h6⟩ := h
  refine ⟨h1, fun d hd => ?_, fun s hs => ?_, ?_, ?_, h6⟩
  · rw [hd] at h2; simpa using h2
  · rw [hs] at h3; simpa using h3
  · intro hh; rw [hh] at h4; cases h4
  · rcases h5 with h5 | h5
    · exact .inl h5
    · refine .inr ?_
      cases hc : o.op.cl <;> rw [hc] at h5 <;> first | rfl | cases h5

def okpc (x y : AOper) : Bool :=
  (match x.dst with | some d => !hasb y.rds d && !hasb y.res d && !optb y.dst d | none => true) &&
  (match y.dst with | some d => !hasb x.rds d | none => true) &&
  (match x.op.slotD with | some s => !optb y.op.slotD s | none => true) && Cl.may x.op.cl y.op.cl

theorem okpc_of {x y : AOper} (h : okpc x y = true) : Okp x y := by
  simp only [okpc, Bool.and_eq_true] at h
  obtain ⟨⟨⟨h1, h2⟩, h3⟩, h4⟩ := h
  refine ⟨fun d hd => ?_, fun d hd => ?_, fun s hs => ?_, h4⟩
  · rw [hd] at h1
    simp only [Bool.and_eq_true, Bool.not_eq_true'] at h1
    exact ⟨hasb_not h1.1.1, hasb_not h1.1.2, optb_ne h1.2⟩
  · rw [hd] at h2
    simp only [Bool.not_eq_true'] at h2
    exact hasb_not h2
  · rw [hs] at h3
    simp only [Bool.not_eq_true'] at h3
    exact optb_ne h3

def onb : Option Nat → Option Nat → Bool
  | none, none => true
  | some a, some b => Nat.beq a b
  | _, _ => false
theorem onb_eq {a b : Option Nat} (h : onb a b = true) : a = b := by
  cases a <;> cases b <;> simp_all [onb, Nat.beq_eq]

def qeq (n : Option Nat) (m d : Nat) (q : Option Nat × Opd × Opd) : Bool :=
  match q with
  | (n', .t m', .t d') => onb n n' && Nat.beq m m' && Nat.beq d d'
  | _ => false
theorem qeq_of {n : Option Nat} {m d : Nat} {q : Option Nat × Opd × Opd} (h : qeq n m d q = true) : q = (n, .t m, .t d) := by
  unfold qeq at h
  split at h
  · simp only [Bool.and_eq_true, Nat.beq_eq] at h
    obtain ⟨⟨h1, h2⟩, h3⟩ := h
    rw [onb_eq h1, h2, h3]
  · cases h

def econd (x y : AOper) (r : List (Nat × AOper)) : Bool :=
  if x.op.cl.isE then
    match y.op with
    | .ld n (.t m) => (match y.dst with
      | some d => !hasb y.rds d && !optb x.dst m && x.re.any (qeq n m d) && r.all (fun z => !optb z.2.dst m && !optb z.2.dst d)
      | none => false)
    | .ld _ (.c _) => false
    | _ => true
  else true

theorem econd_of {x y : AOper} {r : List (Nat × AOper)} (h : econd x y r = true) : x.op.cl = .E → ∀ n a, y.op = .ld n a → ∃ m d, a = .t m ∧ y.dst = some d ∧ d ∉ y.rds ∧ x.dst ≠ some m ∧ (n, Opd.t m, Opd.t d) ∈ x.re ∧ ∀ z, z ∈ r → z.2.dst ≠ some m ∧ z.2.dst ≠ some d := by
  intro hE n a hy
  simp only [econd, hE, Cl.isE, if_true] at h
  rw [hy] at h
  cases a with
  | c v => cases h
  | t m =>
    dsimp only at h
    split at h
    · rename_i d hd
      simp only [Bool.and_eq_true, Bool.not_eq_true', List.all_eq_true, List.any_eq_true] at h
      obtain ⟨⟨⟨h1, h2⟩, q, h3, h4⟩, h5⟩ := h
      refine ⟨m, d, rfl, hd, hasb_not h1, optb_ne h2, ?_, fun z hz => ⟨optb_ne (h5 z hz).1, optb_ne (h5 z hz).2⟩⟩
      rw [← qeq_of h4]; exact h3
    · cases h

/-- What must be carried out ahead of an operation, as bits. -/
def aft (ops : Array Oper) (i : Nat) : List Nat :=
  match ops[i]? with
  | some o => (o.after.toList.filter (Region.binds .any)).map (·.on)
  | none => []

def maskOf : List (Nat × Nat) → Nat → Nat
  | [], _ => 0
  | (j, m) :: r, i => if Nat.beq i j then m else maskOf r i

def maskL (tbl : List (Nat × Nat)) : List Nat → Nat
  | [] => 0
  | e :: r => Nat.lor (Nat.lor (2 ^ e) (maskOf tbl e)) (maskL tbl r)

def movc (x : AOper) (m : Nat) : List (Nat × AOper) → Bool
  | [] => true
  | (j, y) :: r => (Nat.testBit m j || (okpc x y && econd x y r)) && movc x m r

def regc (P : Program) (ntm ntot : Nat) (ops : Array Oper) : List (Nat × AOper) → List (Nat × Nat) → List (Nat × AOper) → Bool
  | _, _, [] => true
  | pre, tbl, p :: r =>
    (aft ops p.1).all (fun j => pre.any (fun q => Nat.beq q.1 j)) && opc P ntm ntot ops p.1 p.2 && wfc ntm p.2 &&
      pre.all (fun q => !Nat.beq q.1 p.1 && (match p.2.op.slotD with | some s => !optb q.2.op.slotD s | none => true)) &&
      movc p.2 (maskL tbl (aft ops p.1)) pre && regc P ntm ntot ops (pre ++ [p]) ((p.1, maskL tbl (aft ops p.1)) :: tbl) r

/-- The bits tell what is carried out ahead. -/
def TblOK (ops : Array Oper) (tbl : List (Nat × Nat)) : Prop :=
  ∀ e j, (maskOf tbl e).testBit j = true → ∀ listed, Closed ops listed → (∀ t, t ∈ aft ops e → listed.getD t false = true) → listed.getD j false = true

theorem aft_mem {ops : Array Oper} {i : Nat} {o : Oper} (ho : ops[i]? = some o) {t : Nat} : t ∈ aft ops i ↔ ∃ ed ∈ o.after, Region.binds .any ed = true ∧ ed.on = t := by
  simp only [aft, ho, List.mem_map, List.mem_filter, Array.mem_toList_iff]
  exact ⟨fun ⟨a, h1, h2⟩ => ⟨a, h1.1, h1.2, h2⟩, fun ⟨a, h1, h2, h3⟩ => ⟨a, ⟨h1, h2⟩, h3⟩⟩

theorem aft_closed {ops : Array Oper} {listed : Array Bool} (hc : Closed ops listed) {e : Nat} (he : listed.getD e false = true) : ∀ t, t ∈ aft ops e → listed.getD t false = true := by
  intro t ht
  cases ho : ops[e]? with
  | none => simp [aft, ho] at ht
  | some o =>
    obtain ⟨ed, h1, h2, rfl⟩ := (aft_mem ho).1 ht
    exact hc e o ho he ed h1 h2

theorem maskL_of {ops : Array Oper} {tbl : List (Nat × Nat)} (ht : TblOK ops tbl) : ∀ {l : List Nat} {j : Nat}, (maskL tbl l).testBit j = true → ∀ listed, Closed ops listed → (∀ t, t ∈ l → listed.getD t false = true) → listed.getD j false = true := by
  intro l
  induction l with
  | nil => intro j h; simp [maskL] at h
  | cons e r ih =>
    intro j h listed hc hl
    simp only [maskL] at h
    have h' : (((2 ^ e) ||| maskOf tbl e) ||| maskL tbl r).testBit j = true := h
    rw [Nat.testBit_or, Nat.testBit_or, Bool.or_eq_true, Bool.or_eq_true] at h'
    rcases h' with (h1 | h1) | h1
    · rw [Nat.testBit_two_pow] at h1
      have : e = j := by simpa using h1
      subst this
      exact hl e (by simp)
    · exact ht e j h1 listed hc (aft_closed hc (hl e (by simp)))
    · exact ih h1 listed hc fun t ht' => hl t (by simp [ht'])

theorem movc_of {nt : Nat} {ops : Array Oper} {i : Nat} {x : AOper} {m : Nat} (hm : ∀ j, m.testBit j = true → Bef ops i j) : ∀ {pre : List (Nat × AOper)}, movc x m pre = true → (∀ q, q ∈ pre → Wf nt q.2) →
    ∀ sub : List (Nat × AOper), sub.Sublist pre → (∀ q, q ∈ sub → ¬ Bef ops i q.1) → Movs nt x (sub.map Prod.snd) := by
  intro pre
  induction pre with
  | nil => intro _ _ sub hs _; rw [List.sublist_nil.1 hs]; trivial
  | cons q pre ih =>
    intro h hw sub hs hb
    obtain ⟨j, y⟩ := q
    simp only [movc, Bool.and_eq_true] at h
    have hw' : ∀ q, q ∈ pre → Wf nt q.2 := fun q hq => hw q (by simp [hq])
    cases hs with
    | cons _ hs => exact ih h.2 hw' sub hs hb
    | cons_cons _ hs =>
      rename_i l
      have h1 : (okpc x y && econd x y pre) = true := by
        rcases Bool.or_eq_true _ _ ▸ h.1 with h1 | h1
        · exact absurd (hm j h1) (hb (j, y) (by simp))
        · exact h1
      rw [Bool.and_eq_true] at h1
      refine ⟨hw (j, y) (by simp), okpc_of h1.1, fun hE n a hy => ?_, ih h.2 hw' l hs fun q hq => hb q (by simp [hq])⟩
      obtain ⟨m', d, g1, g2, g3, g4, g5, g6⟩ := econd_of h1.2 hE n a hy
      refine ⟨m', d, g1, g2, g3, g4, g5, fun z hz => ?_⟩
      obtain ⟨q, hq, rfl⟩ := List.mem_map.1 hz
      exact g6 q (hs.subset hq)

/-- The check is sound. -/
theorem regc_of {P : Program} {ntm ntot : Nat} {ops : Array Oper} : ∀ {rest pre : List (Nat × AOper)} {tbl : List (Nat × Nat)}, regc P ntm ntot ops pre tbl rest = true → TblOK ops tbl → (∀ q, q ∈ pre → Wf ntm q.2) →
    (∀ p, p ∈ rest → opc P ntm ntot ops p.1 p.2 = true ∧ Wf ntm p.2) ∧
    (∀ a p b, rest = a ++ p :: b → (∀ o, ops[p.1]? = some o → ∀ t ∈ o.after, Region.binds .any t = true → t.on ∈ (pre ++ a).map Prod.fst) ∧
      (∀ q, q ∈ pre ++ a → q.1 ≠ p.1 ∧ ∀ sl, p.2.op.slotD = some sl → q.2.op.slotD ≠ some sl) ∧
      ∀ sub : List (Nat × AOper), sub.Sublist (pre ++ a) → (∀ q, q ∈ sub → ¬ Bef ops p.1 q.1) → Movs ntm p.2 (sub.map Prod.snd)) := by
  intro rest
  induction rest with
  | nil => intro pre tbl _ _ _; exact ⟨fun p hp => by (cases hp), fun a p b h => by simp at h⟩
  | cons p0 r ih =>
    intro pre tbl h ht hw
    simp only [regc, Bool.and_eq_true, List.all_eq_true] at h
    obtain ⟨⟨⟨⟨⟨h1, h2⟩, h3⟩, h4⟩, h5⟩, h6⟩ := h
    have hw0 := wfc_of h3
    have ht' : TblOK ops ((p0.1, maskL tbl (aft ops p0.1)) :: tbl) := by
      intro e j hj listed hc hl
      simp only [maskOf] at hj
      split at hj
      · rename_i he
        rw [Nat.beq_eq] at he
        subst he
        exact maskL_of ht hj listed hc hl
      · exact ht e j hj listed hc hl
    obtain ⟨i1, i2⟩ := ih h6 ht' (by
      intro q hq
      rcases List.mem_append.1 hq with hq | hq
      · exact hw q hq
      · rw [List.mem_singleton.1 hq]; exact hw0)
    refine ⟨fun p hp => ?_, fun a p b hab => ?_⟩
    · rcases List.mem_cons.1 hp with rfl | hp
      · exact ⟨h2, hw0⟩
      · exact i1 p hp
    · cases a with
      | nil =>
        simp only [List.nil_append, List.cons.injEq] at hab
        obtain ⟨rfl, rfl⟩ := hab
        simp only [List.append_nil]
        refine ⟨fun o ho t htm hb => ?_, fun q hq => ?_, movc_of (fun j hj listed hc hr => ?_) h5 hw⟩
        · have := h1 t.on ((aft_mem ho).2 ⟨t, htm, hb, rfl⟩)
          obtain ⟨q, hq, hqe⟩ := List.any_eq_true.1 this
          rw [Nat.beq_eq] at hqe
          exact List.mem_map.2 ⟨q, hq, hqe⟩
        · have := h4 q hq
          simp only [Bool.not_eq_true'] at this
          refine ⟨fun hh => ?_, fun sl hsl => ?_⟩
          · rw [hh] at this; simp at this
          rw [hsl] at this
          simp only [Bool.not_eq_true'] at this
          exact optb_ne this.2
        · obtain ⟨_, o, ho, hall⟩ := mem_ready.1 hr
          refine maskL_of ht hj listed hc fun t htm => ?_
          obtain ⟨ed, g1, g2, rfl⟩ := (aft_mem ho).1 htm
          exact hall ed g1 g2
      | cons z a =>
        simp only [List.cons_append, List.cons.injEq] at hab
        obtain ⟨rfl, hab⟩ := hab
        have := i2 a p b hab
        simpa [List.append_assoc] using this

/-- A region with an open order, checked. -/
def dregc (P : Program) (ntm ntot : Nat) (ops : Array Oper) (sl ord : List Nat) (aos : List AOper) : Bool :=
  Nat.beq ord.length aos.length && Nat.beq ord.length ops.size && ord.all (fun i => Nat.blt i ops.size) && (List.range ops.size).all (hasb ord) &&
    aos.all (fun o => match o.op.slotD with | some s => hasb sl s | none => true) && sl.all (fun s => Nat.ble ntm s) && regc P ntm ntot ops [] [] (ord.zip aos)

theorem split_two {α : Type} {l : List α} {p q : α} (hp : p ∈ l) (hq : q ∈ l) (h : p ≠ q) : (∃ a b, l = a ++ p :: b ∧ q ∈ a) ∨ (∃ a b, l = a ++ q :: b ∧ p ∈ a) := by
  obtain ⟨a, b, rfl⟩ := List.append_of_mem hp
  rcases List.mem_append.1 hq with h1 | h1
  · exact .inl ⟨a, b, rfl, h1⟩
  · rcases List.mem_cons.1 h1 with h1 | h1
    · exact absurd h1.symm h
    · obtain ⟨c, d, rfl⟩ := List.append_of_mem h1
      exact .inr ⟨a ++ p :: c, d, by simp, by simp⟩

theorem dregc_of {P : Program} {ntm ntot : Nat} {ops : Array Oper} {sl ord : List Nat} {aos : List AOper} (h : dregc P ntm ntot ops sl ord aos = true) :
    Reg P ntm ntot ops (ord.zip aos) ∧ (ord.zip aos).map Prod.snd = aos ∧ (ord.zip aos).length = ops.size ∧ (∀ o, o ∈ aos → ∀ s, o.op.slotD = some s → s ∈ sl) ∧ (∀ s, s ∈ sl → ntm ≤ s) := by
  simp only [dregc, Bool.and_eq_true, Nat.beq_eq, List.all_eq_true, Nat.blt_eq, Nat.ble_eq] at h
  obtain ⟨⟨⟨⟨⟨⟨h1, h2⟩, h3⟩, h4⟩, h5⟩, h6⟩, h7⟩ := h
  obtain ⟨g1, g2⟩ := regc_of h7 (fun e j hj => by simp [maskOf] at hj) (fun q hq => by cases hq)
  have hfst : (ord.zip aos).map Prod.fst = ord := List.map_fst_zip (by omega)
  have hsnd : (ord.zip aos).map Prod.snd = aos := List.map_snd_zip (by omega)
  have hall : ∀ i, i < ops.size ↔ i ∈ ord := fun i => ⟨fun hi => hasb_iff.1 (h4 i (List.mem_range.2 hi)), h3 i⟩
  have hnd : ∀ l : List (Nat × AOper), (∀ a p b, l = a ++ p :: b → ∀ q, q ∈ a → q.1 ≠ p.1) → (l.map Prod.fst).Nodup := by
    intro l
    induction l with
    | nil => intro _; simp
    | cons p l ih =>
      intro hl
      rw [List.map_cons, List.nodup_cons]
      refine ⟨fun hm => ?_, ih fun a p' b hab q hq => hl (p :: a) p' b (by rw [hab]; rfl) q (by simp [hq])⟩
      obtain ⟨q, hq, hqe⟩ := List.mem_map.1 hm
      obtain ⟨a, b, hab⟩ := List.append_of_mem hq
      exact hl (p :: a) q b (by rw [hab]; rfl) p (by simp) hqe.symm
  refine ⟨⟨hnd _ fun a p b hab q hq => ((g2 a p b hab).2.1 q (by simpa using hq)).1, fun i => by rw [hfst]; exact hall i, fun p hp => (g1 p hp).1, fun p hp => (g1 p hp).2, ?_, fun pre p post hab => ?_⟩, hsnd, ?_, ?_, h6⟩
  · intro p q hp hq hne s hs hs'
    rcases split_two hp hq (fun hh => hne (by rw [hh])) with ⟨a, b, hab, hm⟩ | ⟨a, b, hab, hm⟩
    · exact ((g2 a p b hab).2.1 q (by simpa using hm)).2 s hs hs'
    · exact ((g2 a q b hab).2.1 p (by simpa using hm)).2 s hs' hs
  · obtain ⟨k1, _, k3⟩ := g2 pre p post hab
    exact ⟨by simpa using k1, by simpa using k3⟩
  · rw [List.length_zip]; omega
  · intro o ho s hs
    have := h5 o ho
    rw [hs] at this
    exact hasb_iff.1 this

end Go.Proofs.YtpkimnaenlbbjaaGreat.AM

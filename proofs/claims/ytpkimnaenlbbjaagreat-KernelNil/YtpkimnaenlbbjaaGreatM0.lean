/- The abstract machine E: values, heap, accesses, and the evaluator over simplified instructions. No program in sight. Conditions: none. -/
import Derived.Wp
import Derived.KernelRfl
namespace Go.Proofs.YtpkimnaenlbbjaaGreat.AM
open Go

/-- Abstract values. -/
inductive AV where
  | unk
  | und
  | b (v : Bool)
  | i (k : IntKind) (n : Int)
  | s (v : ByteArray)
  | np
  | p (id idx off : Nat)
  | q (slot off : Nat)
  | qs (sz slot len : Nat)
  | ns
  | es
  | sl (sz id idx len : Nat) (tight : Bool)
  | fn (f : FuncId) (first cap : List AV)
  | nf
  | ic (t : TypeId) (v : AV)
  | ni
  | ag (cs : List AV)
  | tu (vs : List AV)
  deriving Inhabited

/-- Scalars that may lie in a cell of the heap. -/
def AV.cell : AV → Bool
  | .b _ | .i _ _ | .s _ | .np | .p _ _ _ | .ns | .es | .sl _ _ _ _ _ | .fn _ _ _ | .nf | .ic _ _ | .ni => true
  | _ => false

def AV.cells : AV → List AV
  | .ag cs => cs
  | v => [v]

/-- No stack address at the head, and none undefined. -/
def AV.pass : AV → Bool
  | .q _ _ => false
  | .qs _ _ _ => false
  | _ => true

def AV.isU : AV → Bool
  | .und => true
  | _ => false

mutual
def AV.eqb : AV → AV → Bool
  | .und, .und => true
  | .b a, .b c => a == c
  | .i k a, .i l c => decide (k = l) && decide (a = c)
  | .s a, .s c => decide (a.data.toList = c.data.toList)
  | .np, .np => true
  | .p a c d, .p a' c' d' => Nat.beq a a' && Nat.beq c c' && Nat.beq d d'
  | .q a c, .q a' c' => Nat.beq a a' && Nat.beq c c'
  | .ns, .ns => true
  | .es, .es => true
  | .sl z a c d t, .sl z' a' c' d' t' => Nat.beq z z' && Nat.beq a a' && Nat.beq c c' && Nat.beq d d' && (t == t')
  | .fn f a c, .fn f' a' c' => Nat.beq f f' && AV.eqbs a a' && AV.eqbs c c'
  | .nf, .nf => true
  | .ic t v, .ic t' v' => Nat.beq t t' && AV.eqb v v'
  | .ni, .ni => true
  | .ag a, .ag a' => AV.eqbs a a'
  | .tu a, .tu a' => AV.eqbs a a'
  | _, _ => false
def AV.eqbs : List AV → List AV → Bool
  | [], [] => true
  | a :: r, c :: r' => AV.eqb a c && AV.eqbs r r'
  | _, _ => false
end

mutual
theorem AV.eqb_sound : ∀ (a c : AV), AV.eqb a c = true → a = c := by
  intro a c h
  cases a <;> cases c <;> simp [AV.eqb] at h ⊢ <;> try (exact h)
  case s.s v w =>
    cases v; cases w; simp_all
  case p.p => exact h.elim (fun h1 h3 => ⟨h1.1, h1.2, h3⟩)
  case sl.sl => obtain ⟨⟨⟨⟨h0, h1⟩, h2⟩, h3⟩, h4⟩ := h; exact ⟨h0, h1, h2, h3, h4⟩
  case fn.fn f a c f' a' c' =>
    obtain ⟨⟨h1, h2⟩, h3⟩ := h
    exact ⟨h1, AV.eqbs_sound _ _ h2, AV.eqbs_sound _ _ h3⟩
  case ic.ic t v t' v' => exact ⟨h.1, AV.eqb_sound _ _ h.2⟩
  case ag.ag => exact AV.eqbs_sound _ _ h
  case tu.tu => exact AV.eqbs_sound _ _ h
theorem AV.eqbs_sound : ∀ (a c : List AV), AV.eqbs a c = true → a = c := by
  intro a c h
  cases a <;> cases c <;> simp [AV.eqbs] at h ⊢
  exact ⟨AV.eqb_sound _ _ h.1, AV.eqbs_sound _ _ h.2⟩
end

/-- A frame (frame.Frame) without its memory's words. -/
structure FS where
  mid : Nat
  log : List (Int × Int)
  at_ : Nat
  fresh : Bool
  off : Bool
  now : Int
  mark : Int
  marked : Bool
  over : Bool
  deriving Inhabited

/-- A frame at work: the memory's words and the frame. -/
structure KS where
  ws : List Int
  fs : FS
  deriving Inhabited

inductive Eff where
  | load (a : Int)
  | store (a v : Int)
  | add (a d : Int)
  | swap (a o f : Int)
  | off
  | mark
  deriving Inhabited

def wrap64 (n : Int) : Int := IntKind.i64.wrap n

/-- frame.again: what an access that was done already answered. -/
def KS.again (s : KS) : Option (Int × KS) :=
  if s.fs.off then some (0, s)
  else match s.fs.log[s.fs.at_]? with
    | some (v, _) => some (v, { s with fs := { s.fs with at_ := s.fs.at_ + 1 } })
    | none => if s.fs.fresh then none else some (0, { s with fs := { s.fs with off := true } })

def KS.note (s : KS) (v : Int) : Int × KS :=
  (v, { s with fs := { s.fs with fresh := false, log := s.fs.log ++ [(v, s.fs.now)], at_ := s.fs.at_ + 1 } })

def inr (ws : List Int) (a : Int) : Bool := decide (0 ≤ a) && decide (a < ws.length)

def b2i (b : Bool) : Int := if b then 1 else 0

def KS.act (s : KS) : Eff → Int × KS
  | .load a => match s.again with
    | some r => r
    | none => s.note (if inr s.ws a then s.ws.getD a.toNat 0 else 0)
  | .store a v => match s.again with
    | some r => r
    | none => KS.note { s with ws := if inr s.ws a then s.ws.set a.toNat v else s.ws } 0
  | .add a d => match s.again with
    | some r => r
    | none => KS.note { s with ws := if inr s.ws a then s.ws.set a.toNat (wrap64 (s.ws.getD a.toNat 0 + d)) else s.ws } (if inr s.ws a then s.ws.getD a.toNat 0 else 0)
  | .swap a o f => match s.again with
    | some r => (b2i (r.1 == (1 : Int)), r.2)
    | none =>
      let ok := inr s.ws a && s.ws.getD a.toNat 0 == o
      (b2i (b2i ok == (1 : Int)), (KS.note { s with ws := if ok then s.ws.set a.toNat f else s.ws } (b2i ok)).2)
  | .off => (b2i s.fs.off, s)
  | .mark =>
    if !s.fs.off && decide (0 < s.fs.at_) then
      (0, { s with fs := { s.fs with mark := (s.fs.log.getD (s.fs.at_ - 1) (0, 0)).2, marked := true } })
    else (0, s)

/-- Programs of accesses. -/
inductive Acc (α : Type) where
  | ret (a : α)
  | eff (e : Eff) (k : Int → Acc α)
  | no

namespace Acc
def bind {α β : Type} : Acc α → (α → Acc β) → Acc β
  | .ret a, f => f a
  | .eff e k, f => .eff e fun v => (k v).bind f
  | .no, _ => .no

def run {α : Type} : Acc α → KS → Option (α × KS)
  | .ret a, s => some (a, s)
  | .eff e k, s => match s.act e with | (v, s') => (k v).run s'
  | .no, _ => none

theorem run_bind {α β : Type} (p : Acc α) (f : α → Acc β) : ∀ s, (p.bind f).run s = match p.run s with | some (a, s') => (f a).run s' | none => none := by
  induction p with
  | ret a => intro s; rfl
  | eff e k ih => intro s; simp only [bind, run]; exact ih _ _
  | no => intro s; rfl

def orF {α β : Type} (o : Option α) (k : α → Acc β) : Acc β :=
  match o with
  | some a => k a
  | none => .no
end Acc

/-- Blocks. -/
inductive Blk where
  | c (sz : Nat) (rows : List (List AV)) (ro : Bool)
  | mem (ws : List Int)
  | fr (fs : FS)
  | ses
  | sesm
  deriving Inhabited

/-- Blocks by number. -/
inductive Tr where
  | nil
  | node (l : Tr) (v : Option Blk) (r : Tr)
  deriving Inhabited

def Tr.get : Tr → Nat → Option Blk
  | .nil, _ => none
  | .node l v r, n => if n = 0 then v else if n % 2 = 1 then l.get (n / 2) else r.get (n / 2 - 1)

def Tr.setF : Nat → Nat → Option Blk → Tr → Tr
  | 0, _, _, t => t
  | f + 1, n, b, t =>
    match t with
    | .nil => if n = 0 then .node .nil b .nil else if n % 2 = 1 then .node (Tr.setF f (n / 2) b .nil) none .nil else .node .nil none (Tr.setF f (n / 2 - 1) b .nil)
    | .node l v r => if n = 0 then .node l b r else if n % 2 = 1 then .node (Tr.setF f (n / 2) b l) v r else .node l v (Tr.setF f (n / 2 - 1) b r)

theorem Tr.get_setF : ∀ (f n : Nat) (b : Option Blk) (t : Tr) (m : Nat), n < f → (Tr.setF f n b t).get m = if m = n then b else t.get m := by
  intro f
  induction f with
  | zero => intro n b t m h; omega
  | succ f ih =>
    intro n b t m h
    cases t with
    | nil =>
      simp only [Tr.setF]
      split
      · rename_i h0; subst h0
        simp only [Tr.get]
        split <;> simp
      · split
        · rename_i h0 h1
          simp only [Tr.get]
          split
          · rename_i hm; subst hm; simp [h0]; omega
          · rename_i hm
            split
            · rename_i hm1
              rw [ih _ _ _ _ (by omega)]
              by_cases e : m = n
              · subst e; simp
              · rw [if_neg (by omega), if_neg e]; simp [Tr.get]
            · simp; omega
        · rename_i h0 h1
          simp only [Tr.get]
          split
          · rename_i hm; subst hm; simp [h0]; omega
          · rename_i hm
            split
            · simp; omega
            · rename_i hm1
              rw [ih _ _ _ _ (by omega)]
              by_cases e : m = n
              · subst e; simp
              · rw [if_neg (by omega), if_neg e]; simp [Tr.get]
    | node l v r =>
      simp only [Tr.setF]
      split
      · rename_i h0; subst h0
        simp only [Tr.get]
        split <;> simp_all
      · split
        · rename_i h0 h1
          simp only [Tr.get]
          split
          · rename_i hm; subst hm; rw [if_neg (by omega)]
          · rename_i hm
            split
            · rename_i hm1
              rw [ih _ _ _ _ (by omega)]
              by_cases e : m = n
              · subst e; simp
              · rw [if_neg (by omega), if_neg e]
            · rw [if_neg (by omega)]
        · rename_i h0 h1
          simp only [Tr.get]
          split
          · rename_i hm; subst hm; rw [if_neg (by omega)]
          · rename_i hm
            split
            · rw [if_neg (by omega)]
            · rename_i hm1
              rw [ih _ _ _ _ (by omega)]
              by_cases e : m = n
              · subst e; simp
              · rw [if_neg (by omega), if_neg e]

/-- The heap. -/
structure Hp where
  next : Nat
  t : Tr
  deriving Inhabited

def Hp.blk (h : Hp) (id : Nat) : Option Blk := h.t.get id
def Hp.set (h : Hp) (id : Nat) (b : Option Blk) : Hp := { h with t := Tr.setF (id + 1) id b h.t }
def Hp.new (h : Hp) (b : Blk) : Hp := { next := h.next + 1, t := Tr.setF (h.next + 1) h.next (some b) h.t }
def Hp.empty : Hp := { next := 0, t := .nil }

theorem Hp.blk_set (h : Hp) (id : Nat) (b : Option Blk) (m : Nat) : (h.set id b).blk m = if m = id then b else h.blk m :=
  Tr.get_setF _ _ _ _ _ (Nat.lt_succ_self _)
theorem Hp.next_set (h : Hp) (id : Nat) (b : Option Blk) : (h.set id b).next = h.next := rfl
theorem Hp.blk_new (h : Hp) (b : Blk) (m : Nat) : (h.new b).blk m = if m = h.next then some b else h.blk m :=
  Tr.get_setF _ _ _ _ _ (Nat.lt_succ_self _)
theorem Hp.next_new (h : Hp) (b : Blk) : (h.new b).next = h.next + 1 := rfl
theorem Hp.blk_empty (m : Nat) : Hp.empty.blk m = none := rfl

abbrev Env := List AV
abbrev R := AV × Hp

inductive Opd where
  | t (n : Nat)
  | c (v : AV)
  deriving Inhabited

def Opd.ev (e : Env) : Opd → AV
  | .t n => e.getD n .unk
  | .c v => v

/-- Cells of the heap. -/
def ldH (h : Hp) (id idx off : Nat) (n : Option Nat) : Option AV :=
  match h.blk id with
  | some (.c _ rows _) =>
    match rows[idx]? with
    | some row =>
      match n with
      | none => row[off]?
      | some m => if off + m ≤ row.length then some (.ag ((row.drop off).take m)) else none
    | none => none
  | _ => none

/-- Cells written over a row. -/
def over (row : List AV) (off : Nat) : List AV → List AV
  | [] => row
  | v :: r => over (row.set off v) (off + 1) r

def stH (h : Hp) (id idx off : Nat) (cs : List AV) : Option Hp :=
  match h.blk id with
  | some (.c sz rows false) =>
    match rows[idx]? with
    | some row =>
      if off + cs.length ≤ row.length && cs.all AV.cell then
        some (h.set id (some (.c sz (rows.set idx (over row off cs)) false)))
      else none
    | none => none
  | _ => none

/-- Cells of the stack: a slot of the frame. -/
def ldE (e : Env) (slot off : Nat) (n : Option Nat) : Option AV :=
  match e.getD slot .unk with
  | .ag cs =>
    match n with
    | none => cs[off]?
    | some m => if off + m ≤ cs.length then some (.ag ((cs.drop off).take m)) else none
  | _ => none

def stE (e : Env) (slot off : Nat) (vs : List AV) : Option Env :=
  match e.getD slot .unk with
  | .ag cs => if off + vs.length ≤ cs.length && vs.all AV.cell then some (e.set slot (.ag (over cs off vs))) else none
  | _ => none

def ldA (e : Env) (h : Hp) (n : Option Nat) : AV → Option AV
  | .p id idx off => ldH h id idx off n
  | .q s off => ldE e s off n
  | _ => none

/-- A stack variable made anew: what pointed to the elder one is not known any more. -/
def forgetSlot (s : Nat) (e : Env) : Env := e.map fun v => match v with | .q t _ => if t = s then .unk else v | .qs _ t _ => if t = s then .unk else v | _ => v

/-- The stack variables of a region are not yet made. -/
def clearSlots : List Nat → Env → Env
  | [], e => e
  | s :: r, e => clearSlots r ((forgetSlot s e).set s .unk)

def intBin (op : BinOp) (k : IntKind) (a c : Int) : Option AV :=
  match op with
  | .add => some (.i k (k.wrap (a + c)))
  | .sub => some (.i k (k.wrap (a - c)))
  | .mul => some (.i k (k.wrap (a * c)))
  | .quo => if c = 0 then none else some (.i k (k.wrap (a.tdiv c)))
  | .rem => if c = 0 then none else some (.i k (a.tmod c))
  | .and => some (.i k (k.wrap (BitVec.ofInt k.bits a &&& BitVec.ofInt k.bits c).toNat))
  | .or => some (.i k (k.wrap (BitVec.ofInt k.bits a ||| BitVec.ofInt k.bits c).toNat))
  | .xor => some (.i k (k.wrap (BitVec.ofInt k.bits a ^^^ BitVec.ofInt k.bits c).toNat))
  | .andNot => some (.i k (k.wrap (BitVec.ofInt k.bits a &&& ~~~ (BitVec.ofInt k.bits c)).toNat))
  | .eql => some (.b (a == c))
  | .neq => some (.b (a != c))
  | .lss => some (.b (decide (a < c)))
  | .leq => some (.b (decide (a ≤ c)))
  | .gtr => some (.b (decide (a > c)))
  | .geq => some (.b (decide (a ≥ c)))
  | _ => none

def shiftBin (op : BinOp) (k : IntKind) (a c : Int) : Option AV :=
  if c < 0 then none else
  match op with
  | .shl => some (.i k (k.wrap (a * 2 ^ (min c.toNat k.bits))))
  | .shr => some (.i k (a.fdiv (2 ^ (min c.toNat k.bits))))
  | _ => none

inductive EqK where
  | int | bool | str | ptr | slc | fnc | ifc
  deriving DecidableEq, Inhabited

/-- A value held against nil. -/
def eqNil (ek : EqK) (a c : AV) : Option Bool :=
  match ek, a, c with
  | .ptr, .np, .np => some true
  | .ptr, .np, .p _ _ _ => some false
  | .ptr, .p _ _ _, .np => some false
  | .slc, .ns, .ns => some true
  | .slc, .ns, .es => some false
  | .slc, .es, .ns => some false
  | .slc, .ns, .sl _ _ _ _ _ => some false
  | .slc, .sl _ _ _ _ _, .ns => some false
  | .fnc, .nf, .nf => some true
  | .fnc, .nf, .fn _ _ _ => some false
  | .fnc, .fn _ _ _, .nf => some false
  | .ifc, .ni, .ni => some true
  | .ifc, .ni, .ic _ _ => some false
  | .ifc, .ic _ _, .ni => some false
  | _, _, _ => none

/-- Binary operations; the kind of the operands comes with the instruction. -/
def binA (ek : EqK) (op : BinOp) (a c : AV) : Option AV :=
  match ek with
  | .int => match a, c with
    | .i k n, .i l m =>
      match op with
      | .shl | .shr => shiftBin op k n m
      | _ => if k = l then intBin op k n m else none
    | _, _ => none
  | .bool => match a, c, op with
    | .b v, .b w, .eql => some (.b (v == w))
    | .b v, .b w, .neq => some (.b (!(v == w)))
    | _, _, _ => none
  | .str => match a, c with
    | .s v, .s w => match op with
      | .eql => some (.b (v.toList == w.toList))
      | .neq => some (.b (!(v.toList == w.toList)))
      | .add => if v.size + w.size ≤ 2 ^ 40 then some (.s (v ++ w)) else none
      | _ => none
    | _, _ => none
  | ek => match op with
    | .eql => (eqNil ek a c).map .b
    | .neq => (eqNil ek a c).map fun v => .b (!v)
    | _ => none

def unA (op : UnOp) (a : AV) : Option AV :=
  match op, a with
  | .neg, .i k n => some (.i k (k.wrap (0 - n)))
  | .not, .b v => some (.b (!v))
  | _, _ => none

def lenA : AV → Option Nat
  | .ns => some 0
  | .es => some 0
  | .sl _ _ _ n _ => some n
  | _ => none

def lenT : AV → Option Nat
  | .s t => some t.size
  | _ => none

/-- parts laid into cells -/
def fillA (cells : List AV) : List (Nat × Nat × AV) → Option (List AV)
  | [] => some cells
  | (off, sz, v) :: r =>
    if v.cells.length = sz && decide (off + sz ≤ cells.length) && v.cells.all AV.cell then fillA (over cells off v.cells) r else none

def chunks (sz : Nat) : Nat → List AV → List (List AV)
  | 0, _ => []
  | n + 1, l => l.take sz :: chunks sz n (l.drop sz)

/-- the bounds of a slice expression: low, high of what has so many elements -/
def bnds (len : Nat) (lo hi : Option AV) : Option (Nat × Nat) :=
  match (match hi with | none => some len | some (.i _ n) => if 0 ≤ n ∧ n ≤ len then some n.toNat else none | _ => none) with
  | none => none
  | some h => match lo with
    | none => some (0, h)
    | some (.i _ n) => if 0 ≤ n ∧ n ≤ h then some (n.toNat, h) else none
    | _ => none

/-- x[lo:hi:mx] of a slice; a third index only where it is the second one -/
def slcA (z : Nat) (x : AV) (lo hi mx : Option AV) : Option AV :=
  match x with
  | .ns => match bnds 0 lo hi, mx with
    | some _, none => some .ns
    | some _, some (.i _ m) => if m = 0 then some .ns else none
    | _, _ => none
  | .es => match bnds 0 lo hi, mx with
    | some _, none => some .es
    | some _, some (.i _ m) => if m = 0 then some .es else none
    | _, _ => none
  | .sl sz id idx len tight => if sz = z then (match bnds len lo hi with
    | some (l, h) => match mx with
      | none => some (.sl sz id (idx + l) (h - l) (tight && h == len))
      | some (.i _ m) => if m = h then some (.sl sz id (idx + l) (h - l) true) else none
      | _ => none
    | none => none) else none
  | _ => none

/-- the rows of a slice -/
def rowsOr (h : Hp) (sz : Nat) : AV → Option (List (List AV))
  | .ns => some []
  | .es => some []
  | .sl z id idx len _ => if z = sz then (if len = 0 then some [] else
      match h.blk id with
      | some (.c y rows _) => if y = sz ∧ idx + len ≤ rows.length then some ((rows.drop idx).take len) else none
      | _ => none) else none
  | _ => none

/-- most that a list may have, so that no append outgrows what there is -/
def most : Nat := 2 ^ 33

/-- the rows of what is appended: a slice of the heap, or one of the stack -/
def rowsX (e : Env) (h : Hp) (sz : Nat) : AV → Option (List (List AV))
  | .qs z slot n => if z = sz then (match e.getD slot .unk with | .ag cs => if cs.length = n * sz then some (chunks sz n cs) else none | _ => none) else none
  | v => rowsOr h sz v

/-- append(s, x...), of so many rows -/
def appA (h : Hp) (sz : Nat) (s : AV) : List (List AV) → Option (AV × Hp)
  | [] => (match s with | .ns => some (.ns, h) | .es => some (.es, h) | .sl z id idx len t => some (.sl z id idx len t, h) | _ => none)
  | r :: rs =>
    match rowsOr h sz s with
    | none => none
    | some old =>
      if most < old.length + (r :: rs).length then none else
      let v := AV.sl sz h.next 0 (old.length + (r :: rs).length) false
      match s with
      | .ns => some (v, h.new (.c sz (r :: rs) false))
      | .es => some (v, h.new (.c sz (r :: rs) false))
      | .sl _ id _ len true => if len = 0 then some (v, h.new (.c sz (r :: rs) false)) else
          (match h.blk id with
          | some (.c _ _ _) => some (v, h.new (.c sz (old ++ (r :: rs)) false))
          | _ => none)
      | .sl _ id _ _ false =>
        (match h.blk id with
        | some (.c _ _ false) => some (v, (h.set id none).new (.c sz (old ++ (r :: rs)) false))
        | _ => none)
      | _ => none

def putRows (rows : List (List AV)) (at_ : Nat) : List (List AV) → List (List AV)
  | [] => rows
  | r :: rs => putRows (rows.set at_ r) (at_ + 1) rs

def clearA (h : Hp) (zero : List AV) : AV → Option Hp
  | .ns => some h
  | .es => some h
  | .sl _ id idx len _ =>
    if len = 0 then some h else
    (match h.blk id with
    | some (.c z rows false) => if z = zero.length && decide (idx + len ≤ rows.length) then some (h.set id (some (.c z (putRows rows idx (List.replicate len zero)) false))) else none
    | _ => none)
  | _ => none

/-- Instructions. -/
inductive AOp where
  | mv (x : Opd)
  | pick (c a b : Opd)
  | alloc (cells : List AV)
  | box (x : Opd) (sz : Nat)
  | allocS (slot : Nat) (cells : List AV)
  | boxS (slot : Nat) (x : Opd) (sz : Nat)
  | build (zero : List AV) (parts : List (Nat × Nat × Opd))
  | bslice (sz n : Nat) (zero : List AV) (parts : List (Nat × Nat × Opd))
  | allocD (slot : Nat) (cells : List AV)
  | bslS (slot sz n : Nat) (zero : List AV) (parts : List (Nat × Nat × Opd))
  | bslD (slot sz n : Nat) (zero : List AV) (parts : List (Nat × Nat × Opd))
  | ld (n : Option Nat) (a : Opd)
  | st (n : Nat) (a v : Opd)
  | nilck (x : Opd)
  | bin (ek : EqK) (op : BinOp) (x y : Opd)
  | un (op : UnOp) (x : Opd)
  | conv (k : IntKind) (x : Opd)
  | mkfn (f : FuncId) (first cap : List Opd)
  | mkslice (sz : Nat) (zero : List AV) (bytes : Nat) (len cap : Opd)
  | slc (sz : Nat) (x : Opd) (lo hi mx : Option Opd)
  | fld (off : Nat) (n : Option Nat) (x : Opd)
  | fad (off : Nat) (x : Opd)
  | ias (sz : Nat) (x i : Opd)
  | iaa (len sz : Nat) (x i : Opd)
  | ixs (x i : Opd)
  | ext (x : Opd) (ix : Nat)
  | call (f : FuncId) (args : List Opd)
  | callv (f : Opd) (args : List Opd)
  | len (x : Opd)
  | lens (x : Opd)
  | app (sz bytes : Nat) (s x : Opd)
  | clear (zero : List AV) (x : Opd)
  | max2 (x y : Opd)
  | min2 (x y : Opd)
  deriving Inhabited

/-- The slot that is made anew by an instruction of a region with an open order. -/
def AOp.slotD : AOp → Option Nat
  | .allocD sl _ => some sl
  | .bslD sl _ _ _ _ => some sl
  | _ => none

/-- The slot that an instruction makes. -/
def AOp.slot1 : AOp → Option Nat
  | .allocS sl _ => some sl
  | .boxS sl _ _ => some sl
  | .allocD sl _ => some sl
  | .bslS sl _ _ _ _ => some sl
  | .bslD sl _ _ _ _ => some sl
  | _ => none

structure AOper where
  dst : Option Nat
  op : AOp
  guard : Option (Nat × Bool) := none
  re : List (Option Nat × Opd × Opd) := []
  deriving Inhabited

inductive AC where
  | skip
  | reg (ops : List AOper)
  | dreg (nt : Nat) (slots ord : List Nat) (ops : List AOper)
  | seq (a b : AC)
  | cond (c : Opd) (a b : AC)
  | block (id : Nat) (c : AC)
  | loop (c : AC)
  | exit (id : Nat)
  | ret
  deriving Inhabited

inductive RV where
  | t (n : Nat)
  | cell (a : Nat) (n : Option Nat)
  deriving Inhabited

structure AF where
  ntm : Nat
  nsl : Nat
  res : List RV
  body : AC
  deriving Inhabited


def setD (e : Env) : Option Nat → AV → Env
  | some d, v => e.set d v
  | none, _ => e

abbrev Call := FuncId → List AV → Hp → Acc R

def callA {β : Type} (call : Call) (f : FuncId) (args : List AV) (h : Hp) (k : AV → Hp → Acc β) : Acc β :=
  if args.all AV.pass then (call f args h).bind fun r => k r.1 r.2 else .no

/-- One instruction. -/
def aop {β : Type} (call : Call) (o : AOp) (e : Env) (h : Hp) (k : AV → Env → Hp → Acc β) : Acc β :=
  match o with
  | .mv x => k (x.ev e) e h
  | .pick c a b => match c.ev e with | .b true => k (a.ev e) e h | .b false => k (b.ev e) e h | _ => .no
  | .alloc cells => if cells.all AV.cell then k (.p h.next 0 0) e (h.new (.c cells.length [cells] false)) else .no
  | .box x sz => if (x.ev e).cells.length = sz && (x.ev e).cells.all AV.cell then k (.p h.next 0 0) e (h.new (.c sz [(x.ev e).cells] false)) else .no
  | .allocS s cells => if cells.all AV.cell then k (.q s 0) ((forgetSlot s e).set s (.ag cells)) h else .no
  | .boxS s x sz => if (x.ev e).cells.length = sz && (x.ev e).cells.all AV.cell then k (.q s 0) ((forgetSlot s e).set s (.ag (x.ev e).cells)) h else .no
  | .build zero parts => Acc.orF (fillA zero (parts.map fun q => (q.1, q.2.1, q.2.2.ev e))) fun cs => k (.ag cs) e h
  | .bslice sz n zero parts =>
    Acc.orF (fillA (List.replicate n zero).flatten (parts.map fun q => (q.1, q.2.1, q.2.2.ev e))) fun cs => k (.sl sz h.next 0 n true) e (h.new (.c sz (chunks sz n cs) false))
  | .allocD s cells => if cells.all AV.cell then k (.q s 0) (e.set s (.ag cells)) h else .no
  | .bslS s sz n zero parts =>
    Acc.orF (fillA (List.replicate n zero).flatten (parts.map fun q => (q.1, q.2.1, q.2.2.ev e))) fun cs => k (.qs sz s n) ((forgetSlot s e).set s (.ag cs)) h
  | .bslD s sz n zero parts =>
    Acc.orF (fillA (List.replicate n zero).flatten (parts.map fun q => (q.1, q.2.1, q.2.2.ev e))) fun cs => k (.qs sz s n) (e.set s (.ag cs)) h
  | .ld n a => Acc.orF (ldA e h n (a.ev e)) fun v => if v.isU then .no else k v e h
  | .st n a v =>
    if (v.ev e).cells.length = n then
      match a.ev e with
      | .p id idx off => Acc.orF (stH h id idx off (v.ev e).cells) fun h' => k .und e h'
      | .q s off => Acc.orF (stE e s off (v.ev e).cells) fun e' => k .und e' h
      | _ => .no
    else .no
  | .nilck x => match x.ev e with | .p id idx off => k (.p id idx off) e h | .q s off => k (.q s off) e h | .fn f a c => k (.fn f a c) e h | _ => .no
  | .bin ek op x y => Acc.orF (binA ek op (x.ev e) (y.ev e)) fun v => k v e h
  | .un op x => Acc.orF (unA op (x.ev e)) fun v => k v e h
  | .conv kd x => match x.ev e with | .i _ n => k (.i kd (kd.wrap n)) e h | _ => .no
  | .mkfn f first cap => if (first.map (Opd.ev e)).all AV.pass && (cap.map (Opd.ev e)).all AV.pass then k (.fn f (first.map (Opd.ev e)) (cap.map (Opd.ev e))) e h else .no
  | .mkslice sz zero bytes len cap =>
    match len.ev e, cap.ev e with
    | .i _ n, .i _ m =>
      if n = m && decide (0 ≤ n) && decide (n ≤ most) && decide (bytes ≤ 2 ^ 12) && decide (zero.length = sz) && zero.all AV.cell then
        k (.sl sz h.next 0 n.toNat true) e (h.new (.c sz (List.replicate n.toNat zero) false)) else .no
    | _, _ => .no
  | .slc z x lo hi mx => Acc.orF (slcA z (x.ev e) (lo.map (Opd.ev e)) (hi.map (Opd.ev e)) (mx.map (Opd.ev e))) fun v => k v e h
  | .fld off n x => match x.ev e with
    | .ag cs => (match n with
      | none => Acc.orF cs[off]? fun v => k v e h
      | some m => if off + m ≤ cs.length then k (.ag ((cs.drop off).take m)) e h else .no)
    | _ => .no
  | .fad off x => match x.ev e with | .p id idx o => k (.p id idx (o + off)) e h | .q s o => k (.q s (o + off)) e h | _ => .no
  | .ias z x i => match x.ev e, i.ev e with
    | .sl sz id idx len _, .i _ n => if sz = z ∧ 0 ≤ n ∧ n < len then k (.p id (idx + n.toNat) 0) e h else .no
    | _, _ => .no
  | .iaa len sz x i => match i.ev e with
    | .i _ n => if 0 ≤ n ∧ n < len then (match x.ev e with | .p id idx o => k (.p id idx (o + n.toNat * sz)) e h | .q s o => k (.q s (o + n.toNat * sz)) e h | _ => .no) else .no
    | _ => .no
  | .ixs x i => match x.ev e, i.ev e with
    | .s t, .i _ n => if 0 ≤ n ∧ n < t.size then k (.i .u8 (t.data.getD n.toNat 0).toNat) e h else .no
    | _, _ => .no
  | .ext x ix => match x.ev e with | .tu vs => Acc.orF vs[ix]? fun v => k v e h | _ => .no
  | .call f args => callA call f (args.map (Opd.ev e)) h fun v h' => k v e h'
  | .callv f args => match f.ev e with | .fn g first cap => callA call g (first ++ args.map (Opd.ev e) ++ cap) h fun v h' => k v e h' | _ => .no
  | .len x => Acc.orF (lenA (x.ev e)) fun n => k (.i .i64 n) e h
  | .lens x => Acc.orF (lenT (x.ev e)) fun n => k (.i .i64 n) e h
  | .app sz bytes s x => if bytes ≤ 2 ^ 12 then Acc.orF (rowsX e h sz (x.ev e)) fun rs => Acc.orF (appA h sz (s.ev e) rs) fun r => k r.1 e r.2 else .no
  | .clear zero x => if zero.all AV.cell then Acc.orF (clearA h zero (x.ev e)) fun h' => k .und e h' else .no
  | .max2 x y => match x.ev e, y.ev e with | .i a n, .i c m => if a = c then k (.i a (if m > n then m else n)) e h else .no | _, _ => .no
  | .min2 x y => match x.ev e, y.ev e with | .i a n, .i c m => if a = c then k (.i a (if m < n then m else n)) e h else .no | _, _ => .no

/-- Loads that an effect must not have turned. -/
def chk {β : Type} (e : Env) (h : Hp) : List (Option Nat × Opd × Opd) → Acc β → Acc β
  | [], k => k
  | (n, a, v) :: r, k => match ldA e h n (a.ev e) with
    | some w => if AV.eqb w (v.ev e) then chk e h r k else .no
    | none => .no

def runOps {β : Type} (call : Call) : List AOper → Env → Hp → (Env → Hp → Acc β) → Acc β
  | [], e, h, k => k e h
  | o :: r, e, h, k =>
    match o.guard with
    | none => aop call o.op e h fun v e' h' => chk (setD e' o.dst v) h' o.re (runOps call r (setD e' o.dst v) h' k)
    | some (t, w) =>
      match e.getD t .unk with
      | .b true => if w then aop call o.op (e.set t (.b true)) h (fun v e' h' => chk (setD e' o.dst v) h' o.re (runOps call r (setD e' o.dst v) h' k)) else runOps call r (setD (e.set t (.b true)) o.dst .und) h k
      | .b false => if w then runOps call r (setD (e.set t (.b false)) o.dst .und) h k else aop call o.op (e.set t (.b false)) h (fun v e' h' => chk (setD e' o.dst v) h' o.re (runOps call r (setD e' o.dst v) h' k))
      | .und => runOps call r (setD e o.dst .und) h k
      | _ => .no

/-- What is asked of an address. -/
def adok (nt : Nat) (h : Hp) : AV → Bool
  | .q s _ => Nat.ble nt s
  | .p id _ _ => Nat.blt id h.next
  | _ => true

/-- What is asked of an operation of a region with an open order. -/
def dok (nt : Nat) (o : AOp) (e : Env) (h : Hp) : Bool :=
  match o with
  | .ld _ a => adok nt h (a.ev e)
  | .st _ a _ => (match a.ev e with | .q s _ => Nat.ble nt s | _ => true)
  | .app _ _ _ x => (match x.ev e with | .qs _ s _ => Nat.ble nt s | _ => true)
  | _ => true

/-- A load that an effect must not have turned. -/
def chk1 (nt : Nat) (e : Env) (h : Hp) (q : Option Nat × Opd × Opd) : Bool :=
  adok nt h (q.2.1.ev e) && (match q.2.2.ev e with
    | .und => true
    | w => match ldA e h q.1 (q.2.1.ev e) with | some u => AV.eqb u w | none => false)

def AOper.bare (o : AOper) : AOper := { o with re := [] }

/-- A region with an open order, in the order in which the instructions stand. -/
def runD {β : Type} (call : Call) (nt : Nat) : List AOper → Env → Hp → (Env → Hp → Acc β) → Acc β
  | [], e, h, k => k e h
  | o :: r, e, h, k =>
    if dok nt o.op e h then runOps call [o.bare] e h fun e' h' => if o.re.all (chk1 nt e' h') then runD call nt r e' h' k else .no else .no

inductive Ex where
  | nrm
  | ext (id : Nat)
  | ret

abbrev Kont := Ex → Env → Hp → Acc R

def iter (body : Env → Hp → Kont → Acc R) : Nat → Env → Hp → Kont → Acc R
  | 0, _, _, _ => .no
  | n + 1, e, h, k => body e h fun x e' h' => match x with
    | .nrm => iter body n e' h' k
    | x => k x e' h'

def exec (call : Call) (n : Nat) : AC → Env → Hp → Kont → Acc R
  | .skip, e, h, k => k .nrm e h
  | .reg ops, e, h, k => runOps call ops e h fun e' h' => k .nrm e' h'
  | .dreg nt sl _ ops, e, h, k => runD call nt ops (clearSlots sl e) h fun e' h' => k .nrm e' h'
  | .seq a b, e, h, k => exec call n a e h fun x e' h' => match x with
    | .nrm => exec call n b e' h' k
    | x => k x e' h'
  | .cond c a b, e, h, k => match c.ev e with
    | .b true => exec call n a e h k
    | .b false => exec call n b e h k
    | _ => .no
  | .block id c, e, h, k => exec call n c e h fun x e' h' => match x with
    | .ext j => if j = id then k .nrm e' h' else k (.ext j) e' h'
    | x => k x e' h'
  | .loop c, e, h, k => iter (exec call n c) n e h k
  | .exit id, e, h, k => k (.ext id) e h
  | .ret, e, h, k => k .ret e h

def resV (e : Env) (h : Hp) : RV → Option AV
  | .t n => some (e.getD n .unk)
  | .cell a n => ldA e h n (e.getD a .unk)

def resVs (e : Env) (h : Hp) : List RV → Option (List AV)
  | [] => some []
  | r :: rs => match resV e h r, resVs e h rs with
    | some v, some vs => some (v :: vs)
    | _, _ => none

/-- What a function answers: nothing, one value, a tuple. -/
def results (e : Env) (h : Hp) (rs : List RV) : Option AV :=
  match resVs e h rs with
  | some [v] => if v.pass then some v else none
  | some vs => if vs.all AV.pass then some (.tu vs) else none
  | none => none

def enter (call : Call) (n : Nat) (fn : AF) (args : List AV) (h : Hp) : Acc R :=
  exec call n fn.body (args ++ List.replicate (fn.ntm - args.length) .und ++ List.replicate fn.nsl .unk) h fun x e h' =>
    match x with
    | .ext _ => .no
    | _ => Acc.orF (results e h' fn.res) fun v => .ret (v, h')

end Go.Proofs.YtpkimnaenlbbjaaGreat.AM

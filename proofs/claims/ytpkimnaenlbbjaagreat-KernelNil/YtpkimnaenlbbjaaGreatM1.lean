/- The abstract machine E: frames and memories as primitives, and calls. No program in sight. Conditions: none. -/
import Derived.Test.YtpkimnaenlbbjaaGreatM0
namespace Go.Proofs.YtpkimnaenlbbjaaGreat.AM
open Go

/-- What a body may do with its frame. -/
inductive PB where
  | load | store | add | swap | off | mark
  deriving Inhabited

def primB (pb : PB) (args : List AV) (h : Hp) : Acc R :=
  match args with
  | .p id 0 0 :: r =>
    match h.blk id with
    | some .ses =>
      match pb, r with
      | .load, [.i .i64 a] => .eff (.load a) fun v => .ret (.i .i64 v, h)
      | .store, [.i .i64 a, .i .i64 v] => .eff (.store a v) fun _ => .ret (.tu [], h)
      | .add, [.i .i64 a, .i .i64 v] => .eff (.add a v) fun v => .ret (.i .i64 v, h)
      | .swap, [.i .i64 a, .i .i64 v, .i .i64 w] => .eff (.swap a v w) fun v => .ret (.b (v == 1), h)
      | .off, [] => .eff .off fun v => .ret (.b (v == 1), h)
      | .mark, [] => .eff .mark fun _ => .ret (.tu [], h)
      | _, _ => .no
    | _ => .no
  | _ => .no

/-- Frames and memories from outside. -/
inductive PT where
  | mnew | mlen | mload | mwords | fnew | step | done | marked | steps
  deriving Inhabited

def ints (ws : List Int) : List (List AV) := ws.map fun v => [.i .i64 v]

def FS.fresh0 (mid : Nat) : FS := { mid := mid, log := [], at_ := 0, fresh := false, off := true, now := 0, mark := 0, marked := false, over := false }
def FS.begin (fs : FS) (now : Int) : FS := { fs with at_ := 0, fresh := true, off := false, now := now, marked := false, mark := 0 }
def FS.ended (fs : FS) : FS := { fs with over := !fs.off, off := true }

def stepE (cb : Call) (fid : Nat) (now : Int) (bd : AV) (h : Hp) : Acc R :=
  match h.blk fid with
  | some (.fr fs) =>
    if fs.over then .ret (.b true, h) else
    match bd with
    | .nf => .ret (.b false, h)
    | .fn g first cap =>
      match h.blk fs.mid with
      | some (.mem ws) =>
        if fid = fs.mid then .no else
        match (if (first ++ cap).all AV.pass then cb g (first ++ [.p fid 0 0] ++ cap) ((h.set fid (some .ses)).set fs.mid (some .sesm)) else .no).run ⟨ws, fs.begin now⟩ with
        | some ((_, h2), s2) =>
          match h2.blk fid, h2.blk fs.mid with
          | some .ses, some .sesm =>
            if s2.fs.mid = fs.mid then
              .ret (.b s2.fs.ended.over, (h2.set fid (some (.fr s2.fs.ended))).set fs.mid (some (.mem s2.ws)))
            else .no
          | _, _ => .no
        | none => .no
      | _ => .no
    | _ => .no
  | _ => .no

def primT (pt : PT) (cb : Call) (args : List AV) (h : Hp) : Acc R :=
  match pt, args with
  | .mnew, [.i .i64 n] => .ret (.p h.next 0 0, h.new (.mem (List.replicate (min (max n 0) 4000).toNat 0)))
  | .mlen, [.p id 0 0] => match h.blk id with
    | some (.mem ws) => .ret (.i .i64 ws.length, h)
    | _ => .no
  | .mload, [.p id 0 0, .i .i64 a] => match h.blk id with
    | some (.mem ws) => if inr ws a then .ret (.tu [.i .i64 (ws.getD a.toNat 0), .i .i64 0], h) else .ret (.tu [.i .i64 0, .i .i64 2], h)
    | _ => .no
  | .mwords, [.p id 0 0] => match h.blk id with
    | some (.mem ws) => if ws = [] then .no else .ret (.sl 1 h.next 0 ws.length false, h.new (.c 1 (ints ws) false))
    | _ => .no
  | .fnew, [.p id 0 0] => match h.blk id with
    | some (.mem _) => .ret (.p h.next 0 0, h.new (.fr (FS.fresh0 id)))
    | _ => .no
  | .step, [.p id 0 0, .i .i64 now, bd] => stepE cb id now bd h
  | .done, [.p id 0 0] => match h.blk id with
    | some (.fr fs) => .ret (.b fs.over, h)
    | _ => .no
  | .marked, [.p id 0 0] => match h.blk id with
    | some (.fr fs) => .ret (.tu [.i .i64 fs.mark, .b fs.marked], h)
    | _ => .no
  | .steps, [.p id 0 0] => match h.blk id with
    | some (.fr fs) => .ret (.i .i64 fs.log.length, h)
    | _ => .no
  | _, _ => .no

/-- Calls within a body. -/
def callB (F : FuncId → Option AF) (pb : FuncId → Option PB) : Nat → Call
  | 0, _, _, _ => .no
  | n + 1, f, args, h =>
    match pb f with
    | some b => primB b args h
    | none => match F f with
      | some fn => if args.length ≤ fn.ntm then enter (callB F pb n) n fn args h else .no
      | none => .no

/-- A function that is known by what it does. -/
abbrev Spec := List AV → Hp → Option (AV × Hp)

/-- Calls from outside. -/
def callT (F : FuncId → Option AF) (pb : FuncId → Option PB) (pt : FuncId → Option PT) (sp : FuncId → Option Spec) : Nat → Call
  | 0, _, _, _ => .no
  | n + 1, f, args, h =>
    match sp f with
    | some g => Acc.orF (g args h) .ret
    | none => match pt f with
      | some b => primT b (callB F pb n) args h
      | none => match F f with
        | some fn => if args.length ≤ fn.ntm then enter (callT F pb pt sp n) n fn args h else .no
        | none => .no

end Go.Proofs.YtpkimnaenlbbjaaGreat.AM

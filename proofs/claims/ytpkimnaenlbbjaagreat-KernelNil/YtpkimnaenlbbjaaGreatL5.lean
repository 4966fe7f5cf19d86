/- KernelNil in the machine: true, whatever the call. Conditions: none. -/
import Derived.Test.YtpkimnaenlbbjaaGreatR27
namespace Go.Proofs.YtpkimnaenlbbjaaGreat.AM
open Go
abbrev M27 : Memo := memo1 27 (.b true)
theorem cond_both {call : Call} {n : Nat} {c : Opd} {a b : AC} {e : Env} {h : Hp} {k : Kont} {t : Bool} {r : Acc R} (hc : c.ev e = .b t) (ha : exec call n a e h k = r) (hb : exec call n b e h k = r) : exec call n (.cond c a b) e h k = r := by
  cases t <;> simp only [exec, hc] <;> assumption
def x5 (a b c d f : Int) (w : AV) : AV := .ag [.i .i64 a, .i .i64 b, .i .i64 c, .i .i64 d, w, .i .i64 f]
theorem law5_ns (a b c d f : Int) (h : Hp) : callM Fall M27 100 5 [x5 a b c d f .ns] h = .ret (.b true, h) := by kernel_rfl
theorem law5_es (a b c d f : Int) (h : Hp) : callM Fall M27 100 5 [x5 a b c d f .es] h = .ret (.b true, h) := by kernel_rfl

def AC.l : AC → AC | .seq a _ => a | c => c
def AC.r : AC → AC | .seq _ b => b | c => c
def AC.c1 : AC → AC | .cond _ a _ => a | c => c
def AC.c2 : AC → AC | .cond _ _ b => b | c => c
def enterK (fn : AF) : Kont := fun x e h' => match x with
  | .ext _ => .no
  | _ => Acc.orF (results e h' fn.res) fun v => .ret (v, h')
def seqK (call : Call) (n : Nat) (b : AC) (k : Kont) : Kont := fun x e' h' => match x with
  | .nrm => exec call n b e' h' k
  | x => k x e' h'
def e5 (a b c d f : Int) (id len : Nat) (t : Bool) : Env :=
  [x5 a b c d f (.sl 1 id 0 len false), .q 50 0, .b false, .und, .und, .b true, .b false, .b false, .q 50 4, .sl 1 id 0 len false, .i .i64 len, .b t, .b t] ++ List.replicate 37 .und ++ [.ag [.i .i64 a, .i .i64 b, .i .i64 c, .i .i64 d, .sl 1 id 0 len false, .i .i64 f], .unk]
theorem law5_seg (a b c d f : Int) (id len : Nat) (h : Hp) : callM Fall M27 100 5 [x5 a b c d f (.sl 1 id 0 len false)] h =
    exec (callM Fall M27 99) 99 F5.body.r.l.r (e5 a b c d f id len (decide ((len : Int) > 20))) h (seqK (callM Fall M27 99) 99 F5.body.r.r (enterK F5)) := by kernel_rfl
theorem law5_x (a b c d f : Int) (id len : Nat) (t : Bool) (h : Hp) : exec (callM Fall M27 99) 99 F5.body.r.l.r.c1 (e5 a b c d f id len t) h (seqK (callM Fall M27 99) 99 F5.body.r.r (enterK F5)) = .ret (.b true, h) := by kernel_rfl
theorem law5_y (a b c d f : Int) (id len : Nat) (t : Bool) (h : Hp) : exec (callM Fall M27 99) 99 F5.body.r.l.r.c2 (e5 a b c d f id len t) h (seqK (callM Fall M27 99) 99 F5.body.r.r (enterK F5)) = .ret (.b true, h) := by kernel_rfl
theorem law5_sl (a b c d f : Int) (id len : Nat) (h : Hp) : callM Fall M27 100 5 [x5 a b c d f (.sl 1 id 0 len false)] h = .ret (.b true, h) := by
  rw [law5_seg]
  exact cond_both (c := .t 12) (t := decide ((len : Int) > 20)) rfl (law5_x ..) (law5_y ..)
end Go.Proofs.YtpkimnaenlbbjaaGreat.AM

/-
  No cell of these rows narrows 'for every input' (looked for: loops, veiled, ifaces, maps, wideKeys, modest, calm, conditions, laid).
  DERIVED. THE GIVEN ROWS OF THIS SEAT. 7 by the template 'for every input the law returns true; each argument reads behind the call as it read before'; 0 by the template 'total and deterministic' (their statements: YtpkimnaenlbbjaaGreatTotals.lean).
  GIVEN WITH THE SEED: the statements are not yours to turn. If you find one false, say at which input.
  Laid BY PROGRAM, IN A SANDBOX (cutbox-rows.mjs): the forced cells as the released guide's own fill.sh prints them over the translation cb3c254afe545ec8… (all of the seat's roots in one cut). By AI agents, Wed Nov 11 2026. No macro, syntax, notation, axiom, sorry.
-/
import Derived.Test.YtpkimnaenlbbjaaGreatChecked
import GoSem.Claim
import GoSem.ClaimJoined
import GoSem.ClaimMapViews
import Derived.JoinedTies
import Derived.KernelRfl
namespace Go.Proofs.YtpkimnaenlbbjaaGreat
/- THE CELL 'sum', in the pinned program and in every row, IS THE sha256 OF THE DUMP (.gsa) THAT YtpkimnaenlbbjaaGreatProg.lean LOADS. Nothing in Lean hashes anything: it is a label: what it is worth is what the hold of that sum in a sandbox is worth. -/
noncomputable def Tryz.pinned : Pinned := { name := "ytpkimnaenlbbjaagreat", sum := "cb3c254afe545ec87bec0644023dfb3236f6f5b0f1da8abeb23f44a13807b110", checked := Tryz.checked }
namespace Rows
def none {H : Type} : Left H := { results := [], args := [] }

/-- 'septumlaw31.ModelKeeps': WHATEVER THE INPUT: true; the input reads as it did. -/
def modelKeepsSpec : ChangeSpec := { name := "modelKeeps", fn := fun _ => fun
  | [d1, d2, d3] => { results := [.lit (.bool true)], args := [d1, d2, d3] }
  | _ => none }
def modelKeepsRow : OpenClaim := { program := "ytpkimnaenlbbjaagreat", sum := "cb3c254afe545ec87bec0644023dfb3236f6f5b0f1da8abeb23f44a13807b110", func := "septum/septumlaw31.ModelKeeps", spec := "modelKeeps", inPlace := ["slices.overlaps[int]"], unfollowed := true, recurses := true, apart := false }
def ModelKeepsSaid : Prop := modelKeepsRow.holds Tryz.pinned (OpenSpec.ofChange modelKeepsSpec)

/-- ITS FALSE NEIGHBOUR: 'it returns false'. Refute it at one input. -/
def modelKeepsWrong : ChangeSpec := { name := "modelKeeps", fn := fun _ => fun
  | [d1, d2, d3] => { results := [.lit (.bool false)], args := [d1, d2, d3] }
  | _ => none }
def ModelKeepsWrongFalsely : Prop := modelKeepsRow.holds Tryz.pinned (OpenSpec.ofChange modelKeepsWrong)

/-- 'septumlaw31.ModelOdd': WHATEVER THE INPUT: true; the input reads as it did. -/
def modelOddSpec : ChangeSpec := { name := "modelOdd", fn := fun _ => fun
  | [d1, d2, d3, d4, d5] => { results := [.lit (.bool true)], args := [d1, d2, d3, d4, d5] }
  | _ => none }
def modelOddRow : OpenClaim := { program := "ytpkimnaenlbbjaagreat", sum := "cb3c254afe545ec87bec0644023dfb3236f6f5b0f1da8abeb23f44a13807b110", func := "septum/septumlaw31.ModelOdd", spec := "modelOdd", inPlace := ["slices.overlaps[int]"], unfollowed := true, recurses := true, apart := false }
def ModelOddSaid : Prop := modelOddRow.holds Tryz.pinned (OpenSpec.ofChange modelOddSpec)

/-- ITS FALSE NEIGHBOUR: 'it returns false'. Refute it at one input. -/
def modelOddWrong : ChangeSpec := { name := "modelOdd", fn := fun _ => fun
  | [d1, d2, d3, d4, d5] => { results := [.lit (.bool false)], args := [d1, d2, d3, d4, d5] }
  | _ => none }
def ModelOddWrongFalsely : Prop := modelOddRow.holds Tryz.pinned (OpenSpec.ofChange modelOddWrong)

/-- 'septumlaw25.KernelNil': WHATEVER THE INPUT: true; the input reads as it did. -/
def kernelNilSpec : ChangeSpec := { name := "kernelNil", fn := fun _ => fun
  | [d] => { results := [.lit (.bool true)], args := [d] }
  | _ => none }
def kernelNilRow : OpenClaim := { program := "ytpkimnaenlbbjaagreat", sum := "cb3c254afe545ec87bec0644023dfb3236f6f5b0f1da8abeb23f44a13807b110", func := "septum/septumlaw25.KernelNil", spec := "kernelNil", unfollowed := true, recurses := true, apart := false }
def KernelNilSaid : Prop := kernelNilRow.holds Tryz.pinned (OpenSpec.ofChange kernelNilSpec)

/-- ITS FALSE NEIGHBOUR: 'it returns false'. Refute it at one input. -/
def kernelNilWrong : ChangeSpec := { name := "kernelNil", fn := fun _ => fun
  | [d] => { results := [.lit (.bool false)], args := [d] }
  | _ => none }
def KernelNilWrongFalsely : Prop := kernelNilRow.holds Tryz.pinned (OpenSpec.ofChange kernelNilWrong)

/-- 'septumlaw25.KernelWrong': WHATEVER THE INPUT: true; the input reads as it did. -/
def kernelWrongSpec : ChangeSpec := { name := "kernelWrong", fn := fun _ => fun
  | [d1, d2, d3] => { results := [.lit (.bool true)], args := [d1, d2, d3] }
  | _ => none }
def kernelWrongRow : OpenClaim := { program := "ytpkimnaenlbbjaagreat", sum := "cb3c254afe545ec87bec0644023dfb3236f6f5b0f1da8abeb23f44a13807b110", func := "septum/septumlaw25.KernelWrong", spec := "kernelWrong", unfollowed := true, recurses := true, apart := false }
def KernelWrongSaid : Prop := kernelWrongRow.holds Tryz.pinned (OpenSpec.ofChange kernelWrongSpec)

/-- ITS FALSE NEIGHBOUR: 'it returns false'. Refute it at one input. -/
def kernelWrongWrong : ChangeSpec := { name := "kernelWrong", fn := fun _ => fun
  | [d1, d2, d3] => { results := [.lit (.bool false)], args := [d1, d2, d3] }
  | _ => none }
def KernelWrongWrongFalsely : Prop := kernelWrongRow.holds Tryz.pinned (OpenSpec.ofChange kernelWrongWrong)

/-- 'septumlaw25.KernelClock': WHATEVER THE INPUT: true; the input reads as it did. -/
def kernelClockSpec : ChangeSpec := { name := "kernelClock", fn := fun _ => fun
  | [d1, d2, d3] => { results := [.lit (.bool true)], args := [d1, d2, d3] }
  | _ => none }
def kernelClockRow : OpenClaim := { program := "ytpkimnaenlbbjaagreat", sum := "cb3c254afe545ec87bec0644023dfb3236f6f5b0f1da8abeb23f44a13807b110", func := "septum/septumlaw25.KernelClock", spec := "kernelClock", unfollowed := true, recurses := true, apart := false }
def KernelClockSaid : Prop := kernelClockRow.holds Tryz.pinned (OpenSpec.ofChange kernelClockSpec)

/-- ITS FALSE NEIGHBOUR: 'it returns false'. Refute it at one input. -/
def kernelClockWrong : ChangeSpec := { name := "kernelClock", fn := fun _ => fun
  | [d1, d2, d3] => { results := [.lit (.bool false)], args := [d1, d2, d3] }
  | _ => none }
def KernelClockWrongFalsely : Prop := kernelClockRow.holds Tryz.pinned (OpenSpec.ofChange kernelClockWrong)

/-- 'septumlaw25.KernelLock': WHATEVER THE INPUT: true; the input reads as it did. -/
def kernelLockSpec : ChangeSpec := { name := "kernelLock", fn := fun _ => fun
  | [d1, d2] => { results := [.lit (.bool true)], args := [d1, d2] }
  | _ => none }
def kernelLockRow : OpenClaim := { program := "ytpkimnaenlbbjaagreat", sum := "cb3c254afe545ec87bec0644023dfb3236f6f5b0f1da8abeb23f44a13807b110", func := "septum/septumlaw25.KernelLock", spec := "kernelLock", unfollowed := true, recurses := true, apart := false }
def KernelLockSaid : Prop := kernelLockRow.holds Tryz.pinned (OpenSpec.ofChange kernelLockSpec)

/-- ITS FALSE NEIGHBOUR: 'it returns false'. Refute it at one input. -/
def kernelLockWrong : ChangeSpec := { name := "kernelLock", fn := fun _ => fun
  | [d1, d2] => { results := [.lit (.bool false)], args := [d1, d2] }
  | _ => none }
def KernelLockWrongFalsely : Prop := kernelLockRow.holds Tryz.pinned (OpenSpec.ofChange kernelLockWrong)

/-- 'septumlaw25.KernelCalls': WHATEVER THE INPUT: true; the input reads as it did. -/
def kernelCallsSpec : ChangeSpec := { name := "kernelCalls", fn := fun _ => fun
  | [d1, d2] => { results := [.lit (.bool true)], args := [d1, d2] }
  | _ => none }
def kernelCallsRow : OpenClaim := { program := "ytpkimnaenlbbjaagreat", sum := "cb3c254afe545ec87bec0644023dfb3236f6f5b0f1da8abeb23f44a13807b110", func := "septum/septumlaw25.KernelCalls", spec := "kernelCalls", unfollowed := true, recurses := true, apart := false }
def KernelCallsSaid : Prop := kernelCallsRow.holds Tryz.pinned (OpenSpec.ofChange kernelCallsSpec)

/-- ITS FALSE NEIGHBOUR: 'it returns false'. Refute it at one input. -/
def kernelCallsWrong : ChangeSpec := { name := "kernelCalls", fn := fun _ => fun
  | [d1, d2] => { results := [.lit (.bool false)], args := [d1, d2] }
  | _ => none }
def KernelCallsWrongFalsely : Prop := kernelCallsRow.holds Tryz.pinned (OpenSpec.ofChange kernelCallsWrong)

/- THE SECOND FORM. 'bulk': how many values and letters a reading holds, each counted each time it is reached (what is shared counts as often as it is met; a slice's spare places count too). A statement '..UptoSaid' is the law's where the arguments, and the package variables that the reading takes, are together of bulk at most 1048576: NARROWER than '..Said'. Prove '..Said' where nothing that the law and all that it calls make is longer than what came in: it says more and counts as full. Else prove '..UptoSaid'. A law counts once. -/
mutual
def uptoBulk {H : Type} : DataW H → Nat
  | .lit (.string bytes) => bytes.length + 1
  | .lit _ => 1
  | .nil => 1
  | .ptr d => uptoBulk d + 1
  | .slice elems spare => uptoBulkAll elems + uptoBulkAll spare + 1
  | .agg parts => uptoBulkAll parts + 1
  | .iface _ d => uptoBulk d + 1
  | .map entries => uptoBulkEntries entries + 1
  | .held _ => 1
def uptoBulkAll {H : Type} : List (DataW H) → Nat
  | [] => 0
  | d :: r => uptoBulk d + uptoBulkAll r
def uptoBulkEntries {H : Type} : List (Lit × DataW H) → Nat
  | [] => 0
  | x :: r => uptoBulkEntry x + uptoBulkEntries r
def uptoBulkEntry {H : Type} : Lit × DataW H → Nat
  | (.string bytes, d) => bytes.length + uptoBulk d + 1
  | (_, d) => uptoBulk d + 1
 end
def uptoSmall : (H : Type) → List (DataW H) → Bool := fun _ ds => decide (uptoBulkAll ds ≤ 1048576)
def OpenSpec.upto (s : _root_.Go.ChangeSpec) : _root_.Go.OpenSpec := { _root_.Go.OpenSpec.ofChange s with cond := some uptoSmall }

/-- 'septumlaw31.ModelKeeps', WHERE WHAT IT READS IS OF BULK AT MOST 1048576: true; the input reads as it did. -/
def modelKeepsUptoRow : OpenClaim := { program := "ytpkimnaenlbbjaagreat", sum := "cb3c254afe545ec87bec0644023dfb3236f6f5b0f1da8abeb23f44a13807b110", func := "septum/septumlaw31.ModelKeeps", spec := "modelKeeps", inPlace := ["slices.overlaps[int]"], unfollowed := true, recurses := true, apart := false, narrowed := true }
def ModelKeepsUptoSaid : Prop := modelKeepsUptoRow.holds Tryz.pinned (OpenSpec.upto modelKeepsSpec)

/-- 'septumlaw31.ModelOdd', WHERE WHAT IT READS IS OF BULK AT MOST 1048576: true; the input reads as it did. -/
def modelOddUptoRow : OpenClaim := { program := "ytpkimnaenlbbjaagreat", sum := "cb3c254afe545ec87bec0644023dfb3236f6f5b0f1da8abeb23f44a13807b110", func := "septum/septumlaw31.ModelOdd", spec := "modelOdd", inPlace := ["slices.overlaps[int]"], unfollowed := true, recurses := true, apart := false, narrowed := true }
def ModelOddUptoSaid : Prop := modelOddUptoRow.holds Tryz.pinned (OpenSpec.upto modelOddSpec)

/-- 'septumlaw25.KernelNil', WHERE WHAT IT READS IS OF BULK AT MOST 1048576: true; the input reads as it did. -/
def kernelNilUptoRow : OpenClaim := { program := "ytpkimnaenlbbjaagreat", sum := "cb3c254afe545ec87bec0644023dfb3236f6f5b0f1da8abeb23f44a13807b110", func := "septum/septumlaw25.KernelNil", spec := "kernelNil", unfollowed := true, recurses := true, apart := false, narrowed := true }
def KernelNilUptoSaid : Prop := kernelNilUptoRow.holds Tryz.pinned (OpenSpec.upto kernelNilSpec)

/-- 'septumlaw25.KernelWrong', WHERE WHAT IT READS IS OF BULK AT MOST 1048576: true; the input reads as it did. -/
def kernelWrongUptoRow : OpenClaim := { program := "ytpkimnaenlbbjaagreat", sum := "cb3c254afe545ec87bec0644023dfb3236f6f5b0f1da8abeb23f44a13807b110", func := "septum/septumlaw25.KernelWrong", spec := "kernelWrong", unfollowed := true, recurses := true, apart := false, narrowed := true }
def KernelWrongUptoSaid : Prop := kernelWrongUptoRow.holds Tryz.pinned (OpenSpec.upto kernelWrongSpec)

/-- 'septumlaw25.KernelClock', WHERE WHAT IT READS IS OF BULK AT MOST 1048576: true; the input reads as it did. -/
def kernelClockUptoRow : OpenClaim := { program := "ytpkimnaenlbbjaagreat", sum := "cb3c254afe545ec87bec0644023dfb3236f6f5b0f1da8abeb23f44a13807b110", func := "septum/septumlaw25.KernelClock", spec := "kernelClock", unfollowed := true, recurses := true, apart := false, narrowed := true }
def KernelClockUptoSaid : Prop := kernelClockUptoRow.holds Tryz.pinned (OpenSpec.upto kernelClockSpec)

/-- 'septumlaw25.KernelLock', WHERE WHAT IT READS IS OF BULK AT MOST 1048576: true; the input reads as it did. -/
def kernelLockUptoRow : OpenClaim := { program := "ytpkimnaenlbbjaagreat", sum := "cb3c254afe545ec87bec0644023dfb3236f6f5b0f1da8abeb23f44a13807b110", func := "septum/septumlaw25.KernelLock", spec := "kernelLock", unfollowed := true, recurses := true, apart := false, narrowed := true }
def KernelLockUptoSaid : Prop := kernelLockUptoRow.holds Tryz.pinned (OpenSpec.upto kernelLockSpec)

/-- 'septumlaw25.KernelCalls', WHERE WHAT IT READS IS OF BULK AT MOST 1048576: true; the input reads as it did. -/
def kernelCallsUptoRow : OpenClaim := { program := "ytpkimnaenlbbjaagreat", sum := "cb3c254afe545ec87bec0644023dfb3236f6f5b0f1da8abeb23f44a13807b110", func := "septum/septumlaw25.KernelCalls", spec := "kernelCalls", unfollowed := true, recurses := true, apart := false, narrowed := true }
def KernelCallsUptoSaid : Prop := kernelCallsUptoRow.holds Tryz.pinned (OpenSpec.upto kernelCallsSpec)

end Rows
end Go.Proofs.YtpkimnaenlbbjaaGreat

/- KernelNil: a nil op does nothing: the law answers true for every call, and leaves it as it was. Conditions: none. -/
import Derived.Test.YtpkimnaenlbbjaaGreatRows
import Derived.Test.YtpkimnaenlbbjaaGreatL5
import Derived.WalkKit
import Derived.ProofKit
import Derived.OpenShut
import Derived.ShutString
import Derived.ChangeOld
import Derived.Below
import Derived.SizedLaws
namespace Go.Proofs.YtpkimnaenlbbjaaGreat.kernelNil
open Go.ChangeShapes Go.WideShapes Go.ChangeAt Go.RowKit
open Go.Proofs.YtpkimnaenlbbjaaGreat.AM
theorem own : ownKnob Tryz.prog.godebug = none := by kernel_rfl
theorem laidOut : laidOutB Tryz.prog = true := by kernel_rfl
def shape : TS := .pair (.int .i64) (.pair (.int .i64) (.pair (.int .i64) (.pair (.int .i64) (.pair (.slice (.int .i64)) (.pair (.int .i64) .unit)))))
theorem shaped : tsc Tryz.prog shape (.ty 38) = true := by kernel_rfl
def isStruct : Option TypeDesc → Bool
  | some (.struct _) => true
  | _ => false
theorem struct_of {o : Option TypeDesc} (h : isStruct o = true) : ∃ fs, o = some (.struct fs) := by
  unfold isStruct at h
  split at h
  · exact ⟨_, rfl⟩
  · cases h
theorem struct38 : ∃ fs, Tryz.prog.underlying 38 = some (.struct fs) := struct_of (by kernel_rfl)
set_option maxRecDepth 100000 in
theorem walk {H : Type} {enc : TypeId × Value → H} {W : World} {v : Value} {d : DataW H} {ps : List MemPlace} {b0 : Nat} (hr : DataW.Trod enc Tryz.prog W 0 (fun _ => true) true 38 v d ps) (hv : Value.okWide Tryz.prog W .any b0 38 v) :
    Calls Tryz.prog 5 #[v] W fun e W' => e = .returned (.bool true) ∧ Below W.heap.size W W' := by
  obtain ⟨fs, hfs⟩ := struct38
  obtain ⟨cs, rfl, hsz⟩ := okWide_struct hfs hv
  have hsz6 : cs.size = 6 := hsz.trans (by kernel_rfl)
  obtain ⟨fuel, hf⟩ := hr
  obtain ⟨ay, h', r', FP', S, _, _, hVR, _, hSh⟩ := read_got (enc := enc) shape (.ty 38) shaped fuel cs.toList Hp.empty _ _ ⟨_, hf⟩ (by simp [Md.off, TS.sz, shape, hsz6]) (St.start W default)
  obtain ⟨h0, hm⟩ := awake27
  have hmemo := memo1_ok (f := 27) (v := .b true) (fun r r' v' h => h) hm
  have fin : ∀ {x : AV}, ay = [] ∨ VRs r' [x] [.agg cs] → callM Fall M27 100 5 [x] h' = .ret (.b true, h') → VRs r' [x] [.agg cs] → Calls Tryz.prog 5 #[.agg cs] W fun e W' => e = .returned (.bool true) ∧ Below W.heap.size W W' :=
    fun _ hc hx => law_calls S hx (meets_of mixed Fall_ok hmemo hc)
  have hx : VRs r' [.ag ay] [.agg cs] := ⟨.agg cs, [], rfl, ⟨cs, rfl, by simpa [Md.off] using hVR⟩, rfl⟩
  obtain ⟨_, _, rfl, _, ⟨a, rfl, _⟩, _, _, rfl, _, ⟨b, rfl, _⟩, _, _, rfl, _, ⟨c, rfl, _⟩, _, _, rfl, _, ⟨d, rfl, _⟩, w, _, rfl, _, hw, _, _, rfl, _, ⟨f, rfl, _⟩, rfl⟩ := hSh
  rcases hw with rfl | rfl | ⟨id, rows, rfl, _, _⟩
  · exact fin (.inr hx) (law5_ns a b c d f h') hx
  · exact fin (.inr hx) (law5_es a b c d f h') hx
  · exact fin (.inr hx) (law5_sl a b c d f id rows.length h') hx
set_option maxRecDepth 100000 in
theorem lifted (os : Os) (started : os.Started) (H : Type) (enc : TypeId × Value → H) :
    ReturnsInHanded {} Tryz.checked os 5 .any (Rows.kernelNilSpec.pre6 enc Tryz.prog Tryz.f5 Rows.kernelNilRow.domain false) (Rows.kernelNilSpec.post enc Tryz.prog Tryz.f5 false true false false) := by
  refine returnsInHanded_of_change_sized (C := Tryz.checked) own started (by kernel_rfl) Tryz.func5
    (ChangeSpec.witness6 (enc := enc) (C := Tryz.checked) false ⟨#[], #[.agg #[.int .i64 0, .int .i64 0, .int .i64 0, .int .i64 0, .slice none 0 0, .int .i64 0]], []⟩ 8 (by kernel_rfl) (by kernel_rfl) (by kernel_rfl) (by kernel_rfl)) ?_
  intro W base args ds gs before hval0 hW hcnd hsz0 _
  have hval : ∀ (j : Nat) t v, Tryz.f5.params[j]? = some t → args[j]? = some v → Value.okWide Tryz.prog W .any base t v := hval0
  have hW' := hW
  obtain ⟨p, q, hA0, hV, rfl, hfz, hnd⟩ := hW
  have hpar : Tryz.f5.params = #[38] := by kernel_rfl
  have hA : DataW.TrodAll enc Tryz.prog W 0 (fun _ => true) true Tryz.f5.params.toList args.toList ds p := hA0
  rw [hpar] at hA hval
  obtain ⟨v0, vs0, d0, ds0, p0, q0, hargs, rfl, rfl, h0, r0⟩ := trodAll_cons hA
  obtain ⟨rfl, rfl, rfl⟩ := trodAll_nil r0
  obtain rfl : args = #[v0] := by cases args; simp_all
  obtain ⟨rfl, rfl⟩ := trodVars_none hV
  have k0 := h0
  have lt0 : ∀ x ∈ p0, x.block < W.heap.size := by obtain ⟨m, hm⟩ := k0; exact DataW.trod_lt m _ _ _ hm
  have hv0 := hval 0 38 v0 rfl rfl
  clear hA0 hval0 hsz0
  refine (walk h0 hv0).mono fun e W' ⟨he, bel⟩ => ?_
  subst he
  exact ⟨_, rfl, _, _, _, [], _, [], hW', trodAll_mk1 (shut_bool (by kernel_rfl) _), (trodAll_cons_mk (Below.trod laidOut (by kernel_rfl) (of_decide_eq_true (by kernel_rfl)) k0 bel lt0) trodAll_mk0), rfl, bel.frame _, fun h => by cases h⟩
theorem fIn : (Rows.kernelNilRow.inPlace == Tryz.prog.inPlace 5) = true := by kernel_rfl
theorem fUn : (Rows.kernelNilRow.unfollowed == Tryz.prog.unfollowed 5) = true := by kernel_rfl
theorem fRe : (Rows.kernelNilRow.recurses == Tryz.prog.recurses 5) = true := by kernel_rfl
theorem fNa : (Rows.kernelNilRow.named == Tryz.prog.varsNamed 5) = true := by kernel_rfl
theorem fMa : mapsRowed Tryz.prog = true := by kernel_rfl
theorem fWf : Rows.kernelNilRow.wf (OpenSpec.ofChange Rows.kernelNilSpec) = true := by kernel_rfl
theorem closed : joinedFacts Tryz.prog 5 Tryz.f5 Rows.kernelNilSpec Rows.kernelNilRow = true := by
  unfold joinedFacts
  rw [fIn, fUn, fRe, fNa, fMa, fWf, laidOut]
  kernel_rfl
theorem fNamed : Tryz.prog.funcNamed Rows.kernelNilRow.func = some 5 := by kernel_rfl
theorem fInst : Tryz.f5.isInstance Tryz.prog Rows.kernelNilRow.origin Rows.kernelNilRow.targs := of_decide_eq_true (by kernel_rfl)
theorem fWrap : Tryz.f5.isWrapper Tryz.prog Rows.kernelNilRow.wrapper Rows.kernelNilRow.mainSum := by
  unfold Func.isWrapper; first | (rw [if_pos (by decide +kernel)]; kernel_rfl) | (rw [if_neg (by decide +kernel)]; exact ⟨rfl, rfl⟩)
theorem over : Rows.kernelNilRow.holds Tryz.pinned (OpenSpec.ofChange Rows.kernelNilSpec) :=
  OpenClaim.holds_of_wide 5 Tryz.f5 rfl rfl rfl rfl rfl rfl rfl ⟨rfl, rfl, rfl, rfl, rfl⟩ rfl rfl rfl rfl rfl fNamed Tryz.func5 closed fInst fWrap
    (fun os started H enc _ => lifted os started H enc)
theorem proved : Rows.KernelNilSaid := over
#print axioms proved
end Go.Proofs.YtpkimnaenlbbjaaGreat.kernelNil
namespace Go.Proofs.YtpkimnaenlbbjaaGreat
/-- The row, under a short name, for the claim. -/
theorem kernelNil_holds : Rows.KernelNilSaid := kernelNil.proved
end Go.Proofs.YtpkimnaenlbbjaaGreat

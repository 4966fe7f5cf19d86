/- A closed computation, put together of known calls. Conditions: none. -/
import Derived.Test.YtpkimnaenlbbjaaGreatR27_0
import Derived.Test.YtpkimnaenlbbjaaGreatR27_1
import Derived.Test.YtpkimnaenlbbjaaGreatR27_2
import Derived.Test.YtpkimnaenlbbjaaGreatQ2
namespace Go.Proofs.YtpkimnaenlbbjaaGreat.AM
open Go
def Ks27 : List Known := [K27_0, K27_1, K27_2, K27_3, K27_4, K27_5, K27_6, K27_7, K27_8, K27_9, K27_10, K27_11, K27_12, K27_13, K27_14, K27_15, K27_16, K27_17, K27_18, K27_19, K27_20, K27_21, K27_22, K27_23, K27_24, K27_25, K27_26, K27_27, K27_28, K27_29, K27_30, K27_31, K27_32, K27_33, K27_34, K27_35, K27_36, K27_37, K27_38, K27_39, K27_40, K27_41, K27_42, K27_43, K27_44, K27_45, K27_46, K27_47, K27_48, K27_49, K27_50, K27_51, K27_52, K27_53]
theorem ks_cons {P : Program} {k : Known} {l : List Known} (h : k.ok P) (hl : ∀ k, k ∈ l → k.ok P) : ∀ k2, k2 ∈ k :: l → k2.ok P := by
  intro k2 hk
  rcases List.mem_cons.1 hk with rfl | hk
  · exact h
  · exact hl k2 hk
theorem ko {k : Known} {n : Nat} (h : k.reckon Fall [] n = true) : k.ok Tryz.prog := Known.ok_of mixed Fall_ok (fun k hk => by cases hk) h
theorem ks27 : ∀ k, k ∈ Ks27 → k.ok Tryz.prog := ks_cons (ko r27_0) (ks_cons (ko r27_1) (ks_cons (ko r27_2) (ks_cons (ko r27_3) (ks_cons (ko r27_4) (ks_cons (ko r27_5) (ks_cons (ko r27_6) (ks_cons (ko r27_7) (ks_cons (ko r27_8) (ks_cons (ko r27_9) (ks_cons (ko r27_10) (ks_cons (ko r27_11) (ks_cons (ko r27_12) (ks_cons (ko r27_13) (ks_cons (ko r27_14) (ks_cons (ko r27_15) (ks_cons (ko r27_16) (ks_cons (ko r27_17) (ks_cons (ko r27_18) (ks_cons (ko r27_19) (ks_cons (ko r27_20) (ks_cons (ko r27_21) (ks_cons (ko r27_22) (ks_cons (ko r27_23) (ks_cons (ko r27_24) (ks_cons (ko r27_25) (ks_cons (ko r27_26) (ks_cons (ko r27_27) (ks_cons (ko r27_28) (ks_cons (ko r27_29) (ks_cons (ko r27_30) (ks_cons (ko r27_31) (ks_cons (ko r27_32) (ks_cons (ko r27_33) (ks_cons (ko r27_34) (ks_cons (ko r27_35) (ks_cons (ko r27_36) (ks_cons (ko r27_37) (ks_cons (ko r27_38) (ks_cons (ko r27_39) (ks_cons (ko r27_40) (ks_cons (ko r27_41) (ks_cons (ko r27_42) (ks_cons (ko r27_43) (ks_cons (ko r27_44) (ks_cons (ko r27_45) (ks_cons (ko r27_46) (ks_cons (ko r27_47) (ks_cons (ko r27_48) (ks_cons (ko r27_49) (ks_cons (ko r27_50) (ks_cons (ko r27_51) (ks_cons (ko r27_52) (ks_cons (ko r27_53) ((fun k hk => by cases hk)))))))))))))))))))))))))))))))))))))))))))))))))))))))
theorem root27 : answers (callM Fall (memoOf Ks27) 100000 27 [] Hp.empty) (fun v _ => AV.eqb v (.b true)) = true := by kernel_rfl
theorem awake27 : ∃ h, Meets Tryz.prog 27 [] Hp.empty (.b true) h := by
  obtain ⟨v, h, h1, h2⟩ := answers_of root27
  have := meets_of mixed Fall_ok (memoOf_ok ks27) h1
  rw [AV.eqb_sound _ _ h2] at this
  exact ⟨h, this⟩
end Go.Proofs.YtpkimnaenlbbjaaGreat.AM

/- Known calls, reckoned. Conditions: none. -/
import Derived.Test.YtpkimnaenlbbjaaGreatH0
namespace Go.Proofs.YtpkimnaenlbbjaaGreat.AM
open Go
theorem r27_2 : Known.reckon Fall [] 100000 K27_2 = true := by kernel_rfl
theorem r27_5 : Known.reckon Fall [] 100000 K27_5 = true := by kernel_rfl
theorem r27_8 : Known.reckon Fall [] 100000 K27_8 = true := by kernel_rfl
theorem r27_11 : Known.reckon Fall [] 100000 K27_11 = true := by kernel_rfl
theorem r27_14 : Known.reckon Fall [] 100000 K27_14 = true := by kernel_rfl
theorem r27_17 : Known.reckon Fall [] 100000 K27_17 = true := by kernel_rfl
theorem r27_20 : Known.reckon Fall [] 100000 K27_20 = true := by kernel_rfl
theorem r27_23 : Known.reckon Fall [] 100000 K27_23 = true := by kernel_rfl
theorem r27_26 : Known.reckon Fall [] 100000 K27_26 = true := by kernel_rfl
theorem r27_29 : Known.reckon Fall [] 100000 K27_29 = true := by kernel_rfl
theorem r27_32 : Known.reckon Fall [] 100000 K27_32 = true := by kernel_rfl
theorem r27_35 : Known.reckon Fall [] 100000 K27_35 = true := by kernel_rfl
theorem r27_38 : Known.reckon Fall [] 100000 K27_38 = true := by kernel_rfl
theorem r27_41 : Known.reckon Fall [] 100000 K27_41 = true := by kernel_rfl
theorem r27_44 : Known.reckon Fall [] 100000 K27_44 = true := by kernel_rfl
theorem r27_47 : Known.reckon Fall [] 100000 K27_47 = true := by kernel_rfl
theorem r27_50 : Known.reckon Fall [] 100000 K27_50 = true := by kernel_rfl
theorem r27_53 : Known.reckon Fall [] 100000 K27_53 = true := by kernel_rfl
end Go.Proofs.YtpkimnaenlbbjaaGreat.AM

/- Known calls, reckoned. Conditions: none. -/
import Derived.Test.YtpkimnaenlbbjaaGreatH0
namespace Go.Proofs.YtpkimnaenlbbjaaGreat.AM
open Go
theorem r27_1 : Known.reckon Fall [] 100000 K27_1 = true := by kernel_rfl
theorem r27_4 : Known.reckon Fall [] 100000 K27_4 = true := by kernel_rfl
theorem r27_7 : Known.reckon Fall [] 100000 K27_7 = true := by kernel_rfl
theorem r27_10 : Known.reckon Fall [] 100000 K27_10 = true := by kernel_rfl
theorem r27_13 : Known.reckon Fall [] 100000 K27_13 = true := by kernel_rfl
theorem r27_16 : Known.reckon Fall [] 100000 K27_16 = true := by kernel_rfl
theorem r27_19 : Known.reckon Fall [] 100000 K27_19 = true := by kernel_rfl
theorem r27_22 : Known.reckon Fall [] 100000 K27_22 = true := by kernel_rfl
theorem r27_25 : Known.reckon Fall [] 100000 K27_25 = true := by kernel_rfl
theorem r27_28 : Known.reckon Fall [] 100000 K27_28 = true := by kernel_rfl
theorem r27_31 : Known.reckon Fall [] 100000 K27_31 = true := by kernel_rfl
theorem r27_34 : Known.reckon Fall [] 100000 K27_34 = true := by kernel_rfl
theorem r27_37 : Known.reckon Fall [] 100000 K27_37 = true := by kernel_rfl
theorem r27_40 : Known.reckon Fall [] 100000 K27_40 = true := by kernel_rfl
theorem r27_43 : Known.reckon Fall [] 100000 K27_43 = true := by kernel_rfl
theorem r27_46 : Known.reckon Fall [] 100000 K27_46 = true := by kernel_rfl
theorem r27_49 : Known.reckon Fall [] 100000 K27_49 = true := by kernel_rfl
theorem r27_52 : Known.reckon Fall [] 100000 K27_52 = true := by kernel_rfl
end Go.Proofs.YtpkimnaenlbbjaaGreat.AM

/- Known calls, reckoned. Conditions: none. -/
import Derived.Test.YtpkimnaenlbbjaaGreatH0
namespace Go.Proofs.YtpkimnaenlbbjaaGreat.AM
open Go
theorem r27_0 : Known.reckon Fall [] 100000 K27_0 = true := by kernel_rfl
theorem r27_3 : Known.reckon Fall [] 100000 K27_3 = true := by kernel_rfl
theorem r27_6 : Known.reckon Fall [] 100000 K27_6 = true := by kernel_rfl
theorem r27_9 : Known.reckon Fall [] 100000 K27_9 = true := by kernel_rfl
theorem r27_12 : Known.reckon Fall [] 100000 K27_12 = true := by kernel_rfl
theorem r27_15 : Known.reckon Fall [] 100000 K27_15 = true := by kernel_rfl
theorem r27_18 : Known.reckon Fall [] 100000 K27_18 = true := by kernel_rfl
theorem r27_21 : Known.reckon Fall [] 100000 K27_21 = true := by kernel_rfl
theorem r27_24 : Known.reckon Fall [] 100000 K27_24 = true := by kernel_rfl
theorem r27_27 : Known.reckon Fall [] 100000 K27_27 = true := by kernel_rfl
theorem r27_30 : Known.reckon Fall [] 100000 K27_30 = true := by kernel_rfl
theorem r27_33 : Known.reckon Fall [] 100000 K27_33 = true := by kernel_rfl
theorem r27_36 : Known.reckon Fall [] 100000 K27_36 = true := by kernel_rfl
theorem r27_39 : Known.reckon Fall [] 100000 K27_39 = true := by kernel_rfl
theorem r27_42 : Known.reckon Fall [] 100000 K27_42 = true := by kernel_rfl
theorem r27_45 : Known.reckon Fall [] 100000 K27_45 = true := by kernel_rfl
theorem r27_48 : Known.reckon Fall [] 100000 K27_48 = true := by kernel_rfl
theorem r27_51 : Known.reckon Fall [] 100000 K27_51 = true := by kernel_rfl
end Go.Proofs.YtpkimnaenlbbjaaGreat.AM

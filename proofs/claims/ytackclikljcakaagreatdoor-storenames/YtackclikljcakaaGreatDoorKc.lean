/- Each recorded call, reckoned by the kernel. No condition. -/
import Derived.Test.YtackclikljcakaaGreatDoorRec
import Derived.Test.YtackclikljcakaaGreatDoorIdx
namespace Go.Proofs.YtackclikljcakaaGreatDoor
open Go Go.Ab
set_option maxRecDepth 1000000
theorem k1 : checks (fnsM Tryz.prog l1 3000) e1 = true := by kernel_rfl
theorem k2 : checks (fnsM Tryz.prog l2 3000) e2 = true := by kernel_rfl
theorem k8 : checks (fnsM Tryz.prog l8 3000) e8 = true := by kernel_rfl
theorem k10 : checks (fnsM Tryz.prog l10 3000) e10 = true := by kernel_rfl
theorem k12 : checks (fnsM Tryz.prog l12 3000) e12 = true := by kernel_rfl
theorem k18 : checks (fnsM Tryz.prog l18 3000) e18 = true := by kernel_rfl
theorem k20 : checks (fnsM Tryz.prog l20 3000) e20 = true := by kernel_rfl
theorem k26 : checks (fnsM Tryz.prog l26 3000) e26 = true := by kernel_rfl
theorem k28 : checks (fnsM Tryz.prog l28 3000) e28 = true := by kernel_rfl
theorem k30 : checks (fnsM Tryz.prog l30 3000) e30 = true := by kernel_rfl
theorem k35 : checks (fnsM Tryz.prog l35 3000) e35 = true := by kernel_rfl
theorem k39 : checks (fnsM Tryz.prog l39 3000) e39 = true := by kernel_rfl
end Go.Proofs.YtackclikljcakaaGreatDoor

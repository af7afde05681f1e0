/- Each recorded call, reckoned by the kernel. No condition. -/
import Derived.Test.YtackclikljcakaaGreatDoorRec
import Derived.Test.YtackclikljcakaaGreatDoorIdx
namespace Go.Proofs.YtackclikljcakaaGreatDoor
open Go Go.Ab
set_option maxRecDepth 1000000
theorem k4 : checks (fnsM Tryz.prog l4 3000) e4 = true := by kernel_rfl
theorem k5 : checks (fnsM Tryz.prog l5 3000) e5 = true := by kernel_rfl
theorem k6 : checks (fnsM Tryz.prog l6 3000) e6 = true := by kernel_rfl
theorem k9 : checks (fnsM Tryz.prog l9 3000) e9 = true := by kernel_rfl
theorem k17 : checks (fnsM Tryz.prog l17 3000) e17 = true := by kernel_rfl
theorem k21 : checks (fnsM Tryz.prog l21 3000) e21 = true := by kernel_rfl
theorem k27 : checks (fnsM Tryz.prog l27 3000) e27 = true := by kernel_rfl
theorem k32 : checks (fnsM Tryz.prog l32 3000) e32 = true := by kernel_rfl
end Go.Proofs.YtackclikljcakaaGreatDoor

/- Each recorded call, reckoned by the kernel. No condition. -/
import Derived.Test.YtackclikljcakaaGreatDoorRec
import Derived.Test.YtackclikljcakaaGreatDoorIdx
namespace Go.Proofs.YtackclikljcakaaGreatDoor
open Go Go.Ab
set_option maxRecDepth 1000000
theorem k0 : checks (fnsM Tryz.prog l0 3000) e0 = true := by kernel_rfl
theorem k7 : checks (fnsM Tryz.prog l7 3000) e7 = true := by kernel_rfl
theorem k13 : checks (fnsM Tryz.prog l13 3000) e13 = true := by kernel_rfl
theorem k14 : checks (fnsM Tryz.prog l14 3000) e14 = true := by kernel_rfl
theorem k19 : checks (fnsM Tryz.prog l19 3000) e19 = true := by kernel_rfl
theorem k22 : checks (fnsM Tryz.prog l22 3000) e22 = true := by kernel_rfl
theorem k24 : checks (fnsM Tryz.prog l24 3000) e24 = true := by kernel_rfl
theorem k25 : checks (fnsM Tryz.prog l25 3000) e25 = true := by kernel_rfl
theorem k29 : checks (fnsM Tryz.prog l29 3000) e29 = true := by kernel_rfl
theorem k34 : checks (fnsM Tryz.prog l34 3000) e34 = true := by kernel_rfl
theorem k36 : checks (fnsM Tryz.prog l36 3000) e36 = true := by kernel_rfl
theorem k37 : checks (fnsM Tryz.prog l37 3000) e37 = true := by kernel_rfl
end Go.Proofs.YtackclikljcakaaGreatDoor

/- Each recorded call, reckoned by the kernel. No condition. -/
import Derived.Test.YtackclikljcakaaGreatDoorRec
import Derived.Test.YtackclikljcakaaGreatDoorIdx
namespace Go.Proofs.YtackclikljcakaaGreatDoor
open Go Go.Ab
set_option maxRecDepth 1000000
theorem k3 : checks (fnsM Tryz.prog l3 3000) e3 = true := by kernel_rfl
theorem k11 : checks (fnsM Tryz.prog l11 3000) e11 = true := by kernel_rfl
theorem k15 : checks (fnsM Tryz.prog l15 3000) e15 = true := by kernel_rfl
theorem k16 : checks (fnsM Tryz.prog l16 3000) e16 = true := by kernel_rfl
theorem k23 : checks (fnsM Tryz.prog l23 3000) e23 = true := by kernel_rfl
theorem k31 : checks (fnsM Tryz.prog l31 3000) e31 = true := by kernel_rfl
theorem k33 : checks (fnsM Tryz.prog l33 3000) e33 = true := by kernel_rfl
theorem k38 : checks (fnsM Tryz.prog l38 3000) e38 = true := by kernel_rfl
theorem k40 : isYes ((fnsM Tryz.prog l40 3000).callF 3 [] [] (st0 Tryz.prog)) = true := by kernel_rfl
end Go.Proofs.YtackclikljcakaaGreatDoor

/- Closed facts of the program's functions: their code is such as the evaluator takes. No condition. -/
import Derived.Test.YtackclikljcakaaGreatDoorIdx
namespace Go.Proofs.YtackclikljcakaaGreatDoor
open Go Go.Ab
set_option maxRecDepth 1000000
theorem code0 : (((maskOf fnM Tryz.prog.funcs.toList).drop 0).take 40).all (funcOk' Tryz.prog.globals.size) = true := by kernel_rfl
theorem code120 : (((maskOf fnM Tryz.prog.funcs.toList).drop 120).take 40).all (funcOk' Tryz.prog.globals.size) = true := by kernel_rfl
theorem code240 : (((maskOf fnM Tryz.prog.funcs.toList).drop 240).take 40).all (funcOk' Tryz.prog.globals.size) = true := by kernel_rfl
theorem code360 : (((maskOf fnM Tryz.prog.funcs.toList).drop 360).take 40).all (funcOk' Tryz.prog.globals.size) = true := by kernel_rfl
end Go.Proofs.YtackclikljcakaaGreatDoor

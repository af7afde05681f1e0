/- Closed facts of the program's functions: their code is such as the evaluator takes. No condition. -/
import Derived.Test.YtackclikljcakaaGreatDoorIdx
namespace Go.Proofs.YtackclikljcakaaGreatDoor
open Go Go.Ab
set_option maxRecDepth 1000000
theorem code40 : (((maskOf fnM Tryz.prog.funcs.toList).drop 40).take 40).all (funcOk' Tryz.prog.globals.size) = true := by kernel_rfl
theorem code160 : (((maskOf fnM Tryz.prog.funcs.toList).drop 160).take 40).all (funcOk' Tryz.prog.globals.size) = true := by kernel_rfl
theorem code280 : (((maskOf fnM Tryz.prog.funcs.toList).drop 280).take 40).all (funcOk' Tryz.prog.globals.size) = true := by kernel_rfl
theorem code400 : (((maskOf fnM Tryz.prog.funcs.toList).drop 400).take 40).all (funcOk' Tryz.prog.globals.size) = true := by kernel_rfl
theorem noGo : Tryz.prog.funcs.toList.all (fun fn => !fn.goes) = true := by kernel_rfl
end Go.Proofs.YtackclikljcakaaGreatDoor

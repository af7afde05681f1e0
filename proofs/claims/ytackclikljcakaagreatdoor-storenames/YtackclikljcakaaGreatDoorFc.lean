/- Closed facts of the program's functions: their code is such as the evaluator takes. No condition. -/
import Derived.Test.YtackclikljcakaaGreatDoorIdx
namespace Go.Proofs.YtackclikljcakaaGreatDoor
open Go Go.Ab
set_option maxRecDepth 1000000
theorem code80 : (((maskOf fnM Tryz.prog.funcs.toList).drop 80).take 40).all (funcOk' Tryz.prog.globals.size) = true := by kernel_rfl
theorem code200 : (((maskOf fnM Tryz.prog.funcs.toList).drop 200).take 40).all (funcOk' Tryz.prog.globals.size) = true := by kernel_rfl
theorem code320 : (((maskOf fnM Tryz.prog.funcs.toList).drop 320).take 40).all (funcOk' Tryz.prog.globals.size) = true := by kernel_rfl
theorem code440 : (((maskOf fnM Tryz.prog.funcs.toList).drop 440).take 40).all (funcOk' Tryz.prog.globals.size) = true := by kernel_rfl
theorem zeros : Tryz.prog.types.toList.all zeroFree = true := by kernel_rfl
theorem noNums : Tryz.prog.funcs.toList.all noNum = true := by kernel_rfl
theorem mixed : Tryz.prog.follows .mixedOrders = true := by kernel_rfl
theorem cloneAt : namedAt Tryz.prog "maps.clone" = [89] := by kernel_rfl
theorem cmpAt : namedAt Tryz.prog "internal/bytealg.abigen_runtime_cmpstring" = [321] := by kernel_rfl
end Go.Proofs.YtackclikljcakaaGreatDoor

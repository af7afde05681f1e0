/- What is taken of the program: its code, its zero values, the two functions without a text. No condition. -/
import Derived.Test.YtackclikljcakaaGreatDoorFa
import Derived.Test.YtackclikljcakaaGreatDoorFb
import Derived.Test.YtackclikljcakaaGreatDoorFc
import Derived.Laws.Externs
namespace Go.Proofs.YtackclikljcakaaGreatDoor
open Go Go.Ab
set_option maxRecDepth 1000000
theorem codes : (maskOf fnM Tryz.prog.funcs.toList).all (funcOk' Tryz.prog.globals.size) = true := by
  have := all_from 0 40 code0 (all_from 40 40 code40 (all_from 80 40 code80 (all_from 120 40 code120 (all_from 160 40 code160 (all_from 200 40 code200 (all_from 240 40 code240 (all_from 280 40 code280 (all_from 320 40 code320 (all_from 360 40 code360 (all_from 400 40 code400 (all_from 440 40 code440 (all_end 480 (by rw [fnN]; decide)))))))))))))
  exact this
theorem fit : Fit Tryz.prog := fit_of zeros noNums (fun _ _ h => holes_at 480 fnL fnB h) codes mixed
theorem fitExt : FitExt Tryz.prog where
  clone f fn hf hb hn args W := by
    obtain rfl : f = 89 := List.mem_singleton.1 (namedAt_spec cloneAt hf hb hn)
    rw [run_callFunc_extern Tryz.func89 (by kernel_rfl) (by kernel_rfl) (by kernel_rfl) (e := Extern.MapsClone.clone) (by kernel_rfl)]
    simp only [Sem.run_bind, Sem.run_pure]
  compare f fn hf hb hn a b W := by
    obtain rfl : f = 321 := List.mem_singleton.1 (namedAt_spec cmpAt hf hb hn)
    rw [run_callFunc_extern Tryz.func321 (by kernel_rfl) (by kernel_rfl) (by kernel_rfl) (e := Extern.BytealgCompare.compare) (by kernel_rfl)]
    first | rfl | simp [Extern.BytealgCompare.compare, Extern.Bytes.bytesOf, Sem.run_bind]
end Go.Proofs.YtackclikljcakaaGreatDoor

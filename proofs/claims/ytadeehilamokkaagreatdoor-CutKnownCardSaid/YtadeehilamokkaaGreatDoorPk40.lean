/- The law CutKnown: part 40: Kq4. By an AI agent. -/
import Derived.Test.YtadeehilamokkaaGreatDoorPk36
section
namespace Go.Di
open Go Go.Conc Go.Co Go.Proofs
set_option maxRecDepth 1000000
theorem rs55 : ran tab1 100 40 s55 = true := by decide +kernel
theorem rs56 : ran tab1 100 40 s56 = true := by decide +kernel
theorem rs57 : ran tab1 100 40 s57 = true := by decide +kernel
theorem rs58 : ran tab1 100 40 s58 = true := by decide +kernel
theorem rs59 : ran tab1 100 40 s59 = true := by decide +kernel
theorem rs60 : ran tab1 100 40 s60 = true := by decide +kernel
theorem rs61 : ran tab1 100 40 s61 = true := by decide +kernel
theorem rs62 : ran tab1 100 40 s62 = true := by decide +kernel
theorem rs63 : ran tab1 100 40 s63 = true := by decide +kernel
theorem rs64 : ran tab1 100 40 s64 = true := by decide +kernel
theorem rs65 : ran tab1 100 40 s65 = true := by decide +kernel
theorem rs66 : ran tab1 100 40 s66 = true := by decide +kernel
theorem rs67 : ran tab1 100 40 s67 = true := by decide +kernel
theorem rs68 : ran tab1 100 40 s68 = true := by decide +kernel
theorem rs69 : ran tab1 100 40 s69 = true := by decide +kernel
theorem rs70 : ran tab1 100 40 s70 = true := by decide +kernel
theorem rs71 : ran tab1 100 40 s71 = true := by decide +kernel
theorem rs72 : ran tab1 100 40 s72 = true := by decide +kernel
end Go.Di
end

/- The law CutKnown: part 34: Kx5. By an AI agent. -/
import Derived.Test.YtadeehilamokkaaGreatDoorPk29
section
namespace Go.Di
open Go Go.Conc Go.Co Go.Proofs
set_option maxRecDepth 1000000
theorem rk23 : ran tab1 100 40 k23 = true := by decide +kernel
theorem rk24 : ran tab1 100 40 k24 = true := by decide +kernel
theorem rk25 : ran tab1 100 40 k25 = true := by decide +kernel
theorem rk26 : ran tab1 100 40 k26 = true := by decide +kernel
theorem rk27 : ran tab1 100 40 k27 = true := by decide +kernel
end Go.Di
end

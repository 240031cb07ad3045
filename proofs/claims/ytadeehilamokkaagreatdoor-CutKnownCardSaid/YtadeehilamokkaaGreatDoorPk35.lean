/- The law CutKnown: part 35: Kx6. By an AI agent. -/
import Derived.Test.YtadeehilamokkaaGreatDoorPk29
section
namespace Go.Di
open Go Go.Conc Go.Co Go.Proofs
set_option maxRecDepth 1000000
theorem rk20 : ran tab1 100 40 k20 = true := by decide +kernel
theorem rk21 : ran tab1 100 40 k21 = true := by decide +kernel
theorem rk22 : ran tab1 100 40 k22 = true := by decide +kernel
end Go.Di
end

/- The law CutKnown: part 30: Kx1. By an AI agent. -/
import Derived.Test.YtadeehilamokkaaGreatDoorPk29
section
namespace Go.Di
open Go Go.Conc Go.Co Go.Proofs
set_option maxRecDepth 1000000
theorem rk1 : ran tab1 100 40 k1 = true := by decide +kernel
theorem rk2 : ran tab1 100 40 k2 = true := by decide +kernel
theorem rk3 : ran tab1 100 40 k3 = true := by decide +kernel
theorem rk4 : ran tab1 100 40 k4 = true := by decide +kernel
theorem rk5 : ran tab1 100 40 k5 = true := by decide +kernel
theorem rk6 : ran tab1 100 40 k6 = true := by decide +kernel
end Go.Di
end

/- The law CutKnown: part 31: Kx2. By an AI agent. -/
import Derived.Test.YtadeehilamokkaaGreatDoorPk29
section
namespace Go.Di
open Go Go.Conc Go.Co Go.Proofs
set_option maxRecDepth 1000000
theorem rk7 : ran tab1 100 40 k7 = true := by decide +kernel
theorem rk8 : ran tab1 100 40 k8 = true := by decide +kernel
theorem rk9 : ran tab1 100 40 k9 = true := by decide +kernel
theorem rk10 : ran tab1 100 40 k10 = true := by decide +kernel
theorem rk11 : ran tab1 100 40 k11 = true := by decide +kernel
theorem rk12 : ran tab1 100 40 k12 = true := by decide +kernel
end Go.Di
end

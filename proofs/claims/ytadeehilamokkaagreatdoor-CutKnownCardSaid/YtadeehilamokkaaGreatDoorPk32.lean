/- The law CutKnown: part 32: Kx3. By an AI agent. -/
import Derived.Test.YtadeehilamokkaaGreatDoorPk29
section
namespace Go.Di
open Go Go.Conc Go.Co Go.Proofs
set_option maxRecDepth 1000000
theorem rk13 : ran tab1 100 40 k13 = true := by decide +kernel
theorem rk14 : ran tab1 100 40 k14 = true := by decide +kernel
theorem rk15 : ran tab1 100 40 k15 = true := by decide +kernel
theorem rk16 : ran tab1 100 40 k16 = true := by decide +kernel
theorem rk17 : ran tab1 100 40 k17 = true := by decide +kernel
end Go.Di
end

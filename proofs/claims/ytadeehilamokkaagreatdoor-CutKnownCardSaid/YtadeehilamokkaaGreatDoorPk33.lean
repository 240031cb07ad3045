/- The law CutKnown: part 33: Kx4. By an AI agent. -/
import Derived.Test.YtadeehilamokkaaGreatDoorPk29
section
namespace Go.Di
open Go Go.Conc Go.Co Go.Proofs
set_option maxRecDepth 1000000
theorem rk19 : ran tab1 100 40 k19 = true := by decide +kernel
end Go.Di
end

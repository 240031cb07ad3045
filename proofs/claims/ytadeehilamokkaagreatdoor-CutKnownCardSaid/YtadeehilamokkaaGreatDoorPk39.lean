/- The law CutKnown: part 39: Kq3. By an AI agent. -/
import Derived.Test.YtadeehilamokkaaGreatDoorPk36
section
namespace Go.Di
open Go Go.Conc Go.Co Go.Proofs
set_option maxRecDepth 1000000
theorem rs37 : ran tab1 100 40 s37 = true := by decide +kernel
theorem rs38 : ran tab1 100 40 s38 = true := by decide +kernel
theorem rs39 : ran tab1 100 40 s39 = true := by decide +kernel
theorem rs40 : ran tab1 100 40 s40 = true := by decide +kernel
theorem rs41 : ran tab1 100 40 s41 = true := by decide +kernel
theorem rs42 : ran tab1 100 40 s42 = true := by decide +kernel
theorem rs43 : ran tab1 100 40 s43 = true := by decide +kernel
theorem rs44 : ran tab1 100 40 s44 = true := by decide +kernel
theorem rs45 : ran tab1 100 40 s45 = true := by decide +kernel
theorem rs46 : ran tab1 100 40 s46 = true := by decide +kernel
theorem rs47 : ran tab1 100 40 s47 = true := by decide +kernel
theorem rs48 : ran tab1 100 40 s48 = true := by decide +kernel
theorem rs49 : ran tab1 100 40 s49 = true := by decide +kernel
theorem rs50 : ran tab1 100 40 s50 = true := by decide +kernel
theorem rs51 : ran tab1 100 40 s51 = true := by decide +kernel
theorem rs52 : ran tab1 100 40 s52 = true := by decide +kernel
theorem rs53 : ran tab1 100 40 s53 = true := by decide +kernel
theorem rs54 : ran tab1 100 40 s54 = true := by decide +kernel
end Go.Di
end

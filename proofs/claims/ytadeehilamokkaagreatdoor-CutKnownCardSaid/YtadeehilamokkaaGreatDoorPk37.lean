/- The law CutKnown: part 37: Kq1. By an AI agent. -/
import Derived.Test.YtadeehilamokkaaGreatDoorPk36
section
namespace Go.Di
open Go Go.Conc Go.Co Go.Proofs
set_option maxRecDepth 1000000
theorem rs1 : ran tab1 100 40 s1 = true := by decide +kernel
theorem rs2 : ran tab1 100 40 s2 = true := by decide +kernel
theorem rs3 : ran tab1 100 40 s3 = true := by decide +kernel
theorem rs4 : ran tab1 100 40 s4 = true := by decide +kernel
theorem rs5 : ran tab1 100 40 s5 = true := by decide +kernel
theorem rs6 : ran tab1 100 40 s6 = true := by decide +kernel
theorem rs7 : ran tab1 100 40 s7 = true := by decide +kernel
theorem rs8 : ran tab1 100 40 s8 = true := by decide +kernel
theorem rs9 : ran tab1 100 40 s9 = true := by decide +kernel
theorem rs10 : ran tab1 100 40 s10 = true := by decide +kernel
theorem rs11 : ran tab1 100 40 s11 = true := by decide +kernel
theorem rs12 : ran tab1 100 40 s12 = true := by decide +kernel
theorem rs13 : ran tab1 100 40 s13 = true := by decide +kernel
theorem rs14 : ran tab1 100 40 s14 = true := by decide +kernel
theorem rs15 : ran tab1 100 40 s15 = true := by decide +kernel
theorem rs16 : ran tab1 100 40 s16 = true := by decide +kernel
theorem rs17 : ran tab1 100 40 s17 = true := by decide +kernel
theorem rs18 : ran tab1 100 40 s18 = true := by decide +kernel
end Go.Di
end

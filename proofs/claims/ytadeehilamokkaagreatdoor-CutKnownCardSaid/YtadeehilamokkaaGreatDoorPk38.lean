/- The law CutKnown: part 38: Kq2. By an AI agent. -/
import Derived.Test.YtadeehilamokkaaGreatDoorPk36
section
namespace Go.Di
open Go Go.Conc Go.Co Go.Proofs
set_option maxRecDepth 1000000
theorem rs19 : ran tab1 100 40 s19 = true := by decide +kernel
theorem rs20 : ran tab1 100 40 s20 = true := by decide +kernel
theorem rs21 : ran tab1 100 40 s21 = true := by decide +kernel
theorem rs22 : ran tab1 100 40 s22 = true := by decide +kernel
theorem rs23 : ran tab1 100 40 s23 = true := by decide +kernel
theorem rs24 : ran tab1 100 40 s24 = true := by decide +kernel
theorem rs25 : ran tab1 100 40 s25 = true := by decide +kernel
theorem rs26 : ran tab1 100 40 s26 = true := by decide +kernel
theorem rs27 : ran tab1 100 40 s27 = true := by decide +kernel
theorem rs28 : ran tab1 100 40 s28 = true := by decide +kernel
theorem rs29 : ran tab1 100 40 s29 = true := by decide +kernel
theorem rs30 : ran tab1 100 40 s30 = true := by decide +kernel
theorem rs31 : ran tab1 100 40 s31 = true := by decide +kernel
theorem rs32 : ran tab1 100 40 s32 = true := by decide +kernel
theorem rs33 : ran tab1 100 40 s33 = true := by decide +kernel
theorem rs34 : ran tab1 100 40 s34 = true := by decide +kernel
theorem rs35 : ran tab1 100 40 s35 = true := by decide +kernel
theorem rs36 : ran tab1 100 40 s36 = true := by decide +kernel
end Go.Di
end

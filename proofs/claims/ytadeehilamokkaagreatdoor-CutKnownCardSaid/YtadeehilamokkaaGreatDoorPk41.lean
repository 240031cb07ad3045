/- The law CutKnown: part 41: Kq5. By an AI agent. -/
import Derived.Test.YtadeehilamokkaaGreatDoorPk37
import Derived.Test.YtadeehilamokkaaGreatDoorPk38
import Derived.Test.YtadeehilamokkaaGreatDoorPk39
import Derived.Test.YtadeehilamokkaaGreatDoorPk40
section
namespace Go.Di
open Go Go.Conc Go.Co Go.Proofs
set_option maxRecDepth 1000000
theorem rk18 : ran (more tab1 rows18) 100 40 k18 = true := by decide +kernel
theorem rows18_ok {Final : Machine → Trace → Prop} : ∀ r ∈ rows18, GoodRow Tryz.prog Final r := by
  intro r hr
  simp only [rows18, List.mem_cons, List.not_mem_nil, or_false] at hr
  rcases hr with rfl | rfl | rfl | rfl | rfl | rfl | rfl | rfl | rfl | rfl | rfl | rfl | rfl | rfl | rfl | rfl | rfl | rfl | rfl | rfl | rfl | rfl | rfl | rfl | rfl | rfl | rfl | rfl | rfl | rfl | rfl | rfl | rfl | rfl | rfl | rfl | rfl | rfl | rfl | rfl | rfl | rfl | rfl | rfl | rfl | rfl | rfl | rfl | rfl | rfl | rfl | rfl | rfl | rfl | rfl | rfl | rfl | rfl | rfl | rfl | rfl | rfl | rfl | rfl | rfl | rfl | rfl | rfl | rfl | rfl | rfl | rfl
  · exact good_of_ran tab1_ok rs1
  · exact good_of_ran tab1_ok rs2
  · exact good_of_ran tab1_ok rs3
  · exact good_of_ran tab1_ok rs4
  · exact good_of_ran tab1_ok rs5
  · exact good_of_ran tab1_ok rs6
  · exact good_of_ran tab1_ok rs7
  · exact good_of_ran tab1_ok rs8
  · exact good_of_ran tab1_ok rs9
  · exact good_of_ran tab1_ok rs10
  · exact good_of_ran tab1_ok rs11
  · exact good_of_ran tab1_ok rs12
  · exact good_of_ran tab1_ok rs13
  · exact good_of_ran tab1_ok rs14
  · exact good_of_ran tab1_ok rs15
  · exact good_of_ran tab1_ok rs16
  · exact good_of_ran tab1_ok rs17
  · exact good_of_ran tab1_ok rs18
  · exact good_of_ran tab1_ok rs19
  · exact good_of_ran tab1_ok rs20
  · exact good_of_ran tab1_ok rs21
  · exact good_of_ran tab1_ok rs22
  · exact good_of_ran tab1_ok rs23
  · exact good_of_ran tab1_ok rs24
  · exact good_of_ran tab1_ok rs25
  · exact good_of_ran tab1_ok rs26
  · exact good_of_ran tab1_ok rs27
  · exact good_of_ran tab1_ok rs28
  · exact good_of_ran tab1_ok rs29
  · exact good_of_ran tab1_ok rs30
  · exact good_of_ran tab1_ok rs31
  · exact good_of_ran tab1_ok rs32
  · exact good_of_ran tab1_ok rs33
  · exact good_of_ran tab1_ok rs34
  · exact good_of_ran tab1_ok rs35
  · exact good_of_ran tab1_ok rs36
  · exact good_of_ran tab1_ok rs37
  · exact good_of_ran tab1_ok rs38
  · exact good_of_ran tab1_ok rs39
  · exact good_of_ran tab1_ok rs40
  · exact good_of_ran tab1_ok rs41
  · exact good_of_ran tab1_ok rs42
  · exact good_of_ran tab1_ok rs43
  · exact good_of_ran tab1_ok rs44
  · exact good_of_ran tab1_ok rs45
  · exact good_of_ran tab1_ok rs46
  · exact good_of_ran tab1_ok rs47
  · exact good_of_ran tab1_ok rs48
  · exact good_of_ran tab1_ok rs49
  · exact good_of_ran tab1_ok rs50
  · exact good_of_ran tab1_ok rs51
  · exact good_of_ran tab1_ok rs52
  · exact good_of_ran tab1_ok rs53
  · exact good_of_ran tab1_ok rs54
  · exact good_of_ran tab1_ok rs55
  · exact good_of_ran tab1_ok rs56
  · exact good_of_ran tab1_ok rs57
  · exact good_of_ran tab1_ok rs58
  · exact good_of_ran tab1_ok rs59
  · exact good_of_ran tab1_ok rs60
  · exact good_of_ran tab1_ok rs61
  · exact good_of_ran tab1_ok rs62
  · exact good_of_ran tab1_ok rs63
  · exact good_of_ran tab1_ok rs64
  · exact good_of_ran tab1_ok rs65
  · exact good_of_ran tab1_ok rs66
  · exact good_of_ran tab1_ok rs67
  · exact good_of_ran tab1_ok rs68
  · exact good_of_ran tab1_ok rs69
  · exact good_of_ran tab1_ok rs70
  · exact good_of_ran tab1_ok rs71
  · exact good_of_ran tab1_ok rs72
end Go.Di
end

/- The law CutKnown: part 29: Kx0. By an AI agent. -/
import Derived.Test.YtadeehilamokkaaGreatDoorPk28
section
namespace Go.Di
open Go Go.Conc Go.Co Go.Proofs
variable {Final : Machine → Trace → Prop} {x : Cx}
set_option maxRecDepth 1000000
abbrev vc : DV := (.agg [(.sl [(ii (5)), (ii (4)), (ii (4)), (ii (5))] none sn), (.sl [(ii (2)), (ii (2)), (ii (2)), (ii (2))] none sn), (ii (1)), (.sl [(ii (0)), (ii (3))] none sn)])
abbrev vd : DV := (.agg [(.sl [(ii (3)), (ii (1)), (ii (3))] none sn), (.sl [(ii (2)), (ii (5)), (ii (2))] none sn), (ii (0)), (.sl [(ii (0))] none sn)])
abbrev sz : SF := ⟨false, some true⟩
abbrev k1 : Row := (21, [(.sl [(.agg [(.sl [(ii (0)), (ii (0)), (ii (0)), (ii (0))] none sn), (.sl [(ii (1)), (ii (2)), (ii (1)), (ii (3))] none sn), (ii (0)), (.sl [(ii (0)), (ii (0))] none sn)])] none sn)], (ii (5)))
abbrev k2 : Row := (21, [(.sl [va, vb, vc, vd] none sn)], (ii (0)))
abbrev k3 : Row := (21, [(.sl [(.agg [(.sl [(ii (0)), (ii (0)), (ii (0)), (ii (0))] none sn), (.sl [(ii (10)), (ii (2)), (ii (1)), (ii (3))] none sn), (ii (0)), (.sl [(ii (0))] none sn)])] none sn)], (ii (1)))
abbrev k4 : Row := (21, [(.sl [(.agg [(.sl [(ii (0)), (ii (0))] none sn), (.sl [(ii (1)), (ii (2)), (ii (1)), (ii (3))] none sn), (ii (0)), (.sl [(ii (0))] none sn)])] none sn)], (ii (7)))
abbrev k5 : Row := (22, [vb, (ii (1))], (.tup [(.agg [(.sl [(ii (0)), (ii (0)), (ii (1)), (ii (0))] none su), (.sl [(ii (2)), (ii (4)), (ii (3)), (ii (4))] none su), (ii (0)), (.sl [(ii (0)), (ii (1)), (ii (2)), (ii (3))] none sn)]), (ii (0))]))
abbrev k6 : Row := (22, [vb, (ii (2))], (.tup [(.agg [(.sl [(ii (2)), (ii (4)), (ii (3)), (ii (4))] none su), (.sl [(ii (0)), (ii (0)), (ii (1)), (ii (0))] none su), (ii (0)), (.sl [(ii (0)), (ii (1)), (ii (2)), (ii (3))] none sn)]), (ii (0))]))
abbrev k7 : Row := (22, [vb, (ii (3))], (.tup [(.agg [(.sl [(ii (0)), (ii (1)), (ii (0)), (ii (0))] none su), (.sl [(ii (4)), (ii (3)), (ii (4)), (ii (2))] none su), (ii (0)), (.sl [(ii (0)), (ii (1)), (ii (2)), (ii (3))] none sn)]), (ii (0))]))
abbrev k8 : Row := (22, [vc, (ii (1))], (.tup [(.agg [(.sl [(ii (2)), (ii (2)), (ii (2)), (ii (2))] none su), (.sl [(ii (5)), (ii (4)), (ii (4)), (ii (5))] none su), (ii (1)), (.sl [(ii (1)), (ii (2))] none sn)]), (ii (0))]))
abbrev k9 : Row := (24, [va, vb, (ii (1))], (.tup [(.agg [(ii (0)), (ii (0))]), (ii (11))]))
abbrev k10 : Row := (24, [va, vb, (ii (2))], (.tup [(.agg [(ii (0)), (ii (0))]), (ii (7))]))
abbrev k11 : Row := (24, [vb, vc, (ii (0))], (.tup [(.agg [(ii (5)), (ii (5))]), (ii (0))]))
abbrev k12 : Row := (25, [va, vb], (.tup [(.sl [(ii (0))] none su), (ii (0))]))
abbrev k13 : Row := (25, [vb, vc], (.tup [(.sl [(ii (-1)), (ii (0))] none su), (ii (0))]))
abbrev k14 : Row := (26, [(.sl [va, vb] none sn), (ii (1)), (ii (0))], (.tup [(.sl [] none su), (ii (0))]))
abbrev k15 : Row := (27, [(.sl [va, vd] none sn), (ii (0)), (ii (1))], (.tup [(ii (0)), (ii (0))]))
abbrev k16 : Row := (28, [(.sl [va, vd, vb] none sn)], (.tup [(.sl [(.sl [(ii (0)), (ii (2))] none sn)] none su), (ii (0))]))
abbrev k17 : Row := (29, [(.sl [va, vd] none sn), (ii (0)), (ii (1))], (.tup [(ii (1)), (ii (0))]))
abbrev k18 : Row := (29, [(.sl [va, vb] none sn), (ii (0)), (ii (1))], (.tup [(ii (0)), (ii (0))]))
abbrev k19 : Row := (31, [(.sl [va, vd] none sn)], (.tup [(ii (0)), (ii (0))]))
abbrev k20 : Row := (31, [(.sl [va, vb] none sn)], (.tup [(ii (2)), (ii (0))]))
abbrev k21 : Row := (32, [(.sl [va, vd] none sn)], (.tup [(.sl [(.agg [(ii (0)), (ii (0)), (ii (0))])] none su), (ii (0))]))
abbrev k22 : Row := (33, [(.sl [va, vb] none sn), (.sl [(.agg [(ii (0)), (ii (0)), (ii (0))]), (.agg [(ii (1)), (ii (0)), (ii (0))])] none sn)], (.tup [(ii (-1)), (ii (0))]))
abbrev k23 : Row := (33, [(.sl [va, vb] none sn), (.sl [(.agg [(ii (0)), (ii (1)), (ii (0))])] none sn)], (.tup [(ii (0)), (ii (12))]))
abbrev k24 : Row := (35, [va, (.sl [(ii (5)), (ii (6)), (ii (7)), (ii (8))] none sn)], (.tup [(.agg [(.sl [(ii (0)), (ii (0)), (ii (0)), (ii (0))] none su), (.sl [(ii (5)), (ii (6)), (ii (7)), (ii (8))] none su), (ii (0)), (.sl [(ii (0))] none su)]), (.agg [(.sl [(ii (4)), (ii (3)), (ii (2)), (ii (1))] none su), (.sl [(ii (1)), (ii (2)), (ii (1)), (ii (3))] none su), (ii (0)), (.sl [(ii (0))] none su)]), (ii (0))]))
abbrev k25 : Row := (36, [va, vd], (.tup [(.agg [(.sl [] none sz), (.sl [] none sz), (ii (0)), (.sl [] none sz)]), (ii (12))]))
abbrev k26 : Row := (36, [va, vb], (.tup [(.agg [(.sl [(ii (0)), (ii (0)), (ii (0)), (ii (0))] none su), (.sl [(ii (0)), (ii (1)), (ii (0)), (ii (0))] none su), (ii (0)), (.sl [(ii (0))] none su)]), (ii (0))]))
abbrev k27 : Row := (36, [vb, va], (.tup [(.agg [(.sl [] none sz), (.sl [] none sz), (ii (0)), (.sl [] none sz)]), (ii (11))]))
abbrev kW : Row := (10, [(.sl [va, vb] none sn)], (.tup [(ss [48, 48, 48, 48, 47, 49, 50, 49, 51, 47, 48, 47, 48, 10, 52, 51, 52, 50, 47, 48, 49, 48, 48, 47, 48, 47, 48, 49, 50, 51, 10]), (ii (0))]))
abbrev kR : Row := (14, [(ss [48, 48, 48, 47, 49, 97, 49, 47, 48, 47, 48, 10])], (.tup [(.sl [] none ⟨true, some true⟩), (ii (1)), (ii (2))]))
end Go.Di
end

/- The law CutKnown: part 42: Kw6. By an AI agent. -/
import Derived.Test.YtadeehilamokkaaGreatDoorPk30
import Derived.Test.YtadeehilamokkaaGreatDoorPk31
import Derived.Test.YtadeehilamokkaaGreatDoorPk32
import Derived.Test.YtadeehilamokkaaGreatDoorPk33
import Derived.Test.YtadeehilamokkaaGreatDoorPk34
import Derived.Test.YtadeehilamokkaaGreatDoorPk35
import Derived.Test.YtadeehilamokkaaGreatDoorPk41
section
namespace Go.Di
open Go Go.Conc Go.Co Go.Proofs
variable {Final : Machine → Trace → Prop} {x : Cx}
set_option maxRecDepth 1000000
noncomputable abbrev cK := (deepP Tryz.prog TyH tab1 100 40).1
noncomputable abbrev yK := (deepP Tryz.prog TyH tab1 100 40).2
noncomputable abbrev iK := isoOf tab1 cK
theorem cK_ok : CallOK Tryz.prog Final cK := (deepP_ok plain_try mixed_try ty_ok tab1_ok 40).1
theorem regK : ∀ id ops draw, RegOK Tryz.prog Final TyH iK cK yK id ops draw := fun id ops draw => reg_ok plain_try mixed_try ty_ok cK_ok (iso_ok tab1_ok cK_ok) (deepP_ok plain_try mixed_try ty_ok tab1_ok 40).2 id ops draw
abbrev psK : List PM := [⟨[0, 0, 0, 0], [1, 2, 1, 3], 0, [0]⟩, ⟨[4, 3, 4, 2], [0, 1, 0, 0], 0, [0, 1, 2, 3]⟩]
def preE (env : List DV) : Bool := decide (env.length = 38) && match env.head? with
  | some (DV.sl r none _) => DV.eqbs r [va, vb]
  | _ => false
noncomputable def preW : Bool := match codeD Tryz.prog TyH iK cK yK 100 10 false (seqs [lft y10, lft (rgt y10)] .skip) ([.sl [va, vb] none sn] ++ List.replicate 37 dundef) [] with
  | some (.normal, env, []) => preE env
  | _ => false
theorem preW_eq : preW = true := by decide +kernel
theorem preW_ok : ∃ env g, codeD Tryz.prog TyH iK cK yK 100 10 false (seqs [lft y10, lft (rgt y10)] .skip) ([.sl [va, vb] none sn] ++ List.replicate 37 dundef) [] = some (.normal, env, []) ∧ env.length = 38 ∧ env[0]? = some (.sl [va, vb] none g) := by
  have h := preW_eq
  unfold preW at h
  split at h
  · rename_i env he
    simp only [preE, Bool.and_eq_true, decide_eq_true_eq] at h
    obtain ⟨h1, h2⟩ := h
    split at h2
    · rename_i r g h3
      rw [eqbs_eq _ _ h2, List.head?_eq_getElem?] at h3
      exact ⟨env, g, he, h1, h3⟩
    · cases h2
  · cases h
theorem good_bare {f : FuncId} {args : List DV} {d : DV} (hp : args.all DV.pure = true) (hv : d.pure = true) (h : ∀ x vals, Rel x → x.S = [] → RVs x args vals → EnterOK Tryz.prog Final x f vals fun y v => Rel y ∧ Mono x y ∧ RV y d v) : GoodRow Tryz.prog Final (f, args, d) := by
  intro x vals hR ha
  have ha' : RVs x.bare args vals := ⟨ha.1, fun j c hj => (ha.2 j c hj).pure_mono (x := x) (y := x.bare) (fun b o h => ⟨h, rfl⟩) (List.all_eq_true.1 hp c (List.mem_of_getElem? hj))⟩
  obtain ⟨h4, h5⟩ := h x.bare vals hR.bare rfl ha'
  refine ⟨h4, fun fr cs hn => h5 fr cs fun y u ⟨q2, q3, q4⟩ => ?_⟩
  exact hn (x.behind y) u ⟨rfl, hR.behind q3 q2, mono_behind hR q3, q4.pure_mono (x := y) (y := x.behind y) (fun b o h => ⟨h, rfl⟩) hv⟩
theorem okK : ∀ p ∈ psK, p.Ok := by
  intro p hp
  simp only [psK, List.mem_cons, List.not_mem_nil, or_false] at hp
  rcases hp with rfl | rfl <;> simp [PM.Ok]
theorem g10 : GoodRow Tryz.prog Final kW := good_bare (by decide +kernel) (by decide +kernel) fun x vals hR hS ha => by
  obtain ⟨env, g, h1, h2, h3⟩ := preW_ok
  have h := write_bare (ps := psK) (cK_ok (Final := Final)) regK rfl okK (by decide) h1 h3 h2 hR hS ha
  have e : kW.2.2 = .tup [sv (linesB psK), .val (.int .i64 0)] := eqb_eq _ _ (by decide +kernel)
  rw [← e] at h
  exact h
abbrev e1K : List DV := [(.val (.string ⟨#[48, 48, 48, 47, 49, 97, 49, 47, 48, 47, 48, 10]⟩)), (.val (.tuple #[])), (.sl [] none ⟨false, some true⟩), (.val (.int .i64 (0))), (.val (.int .i64 (0))), (.val (.iface 102 (.agg #[(.int .i64 (1))]))), (.val (.tuple #[])), (.val (.tuple #[])), (.val (.string ⟨#[48, 48, 48, 47, 49, 97, 49, 47, 48, 47, 48, 10]⟩)), (.val (.int .i64 (12))), (.val (.bool false)), (.tup [(.sl [] none ⟨false, some true⟩), (.val (.iface 102 (.agg #[(.int .i64 (1))])))]), (.val (.string ⟨#[48, 48, 48, 47, 49, 97, 49, 47, 48, 47, 48, 10]⟩)), (.tup [(.sl [] none ⟨false, some true⟩), (.val (.iface 102 (.agg #[(.int .i64 (1))])))]), (.sl [] none ⟨false, some true⟩), (.val (.iface 102 (.agg #[(.int .i64 (1))]))), (.val (.tuple #[])), (.val (.tuple #[])), (.val (.tuple #[])), (.val (.tuple #[])), (.val (.tuple #[])), (.val (.tuple #[])), (.val (.tuple #[])), (.val (.tuple #[])), (.val (.tuple #[])), (.val (.tuple #[])), (.val (.tuple #[])), (.val (.tuple #[]))]
abbrev e2K : List DV := [(.val (.string ⟨#[48, 48, 48, 47, 49, 97, 49, 47, 48, 47, 48, 10]⟩)), (.val (.tuple #[])), (.sl [] none ⟨false, some true⟩), (.val (.int .i64 (0))), (.val (.int .i64 (0))), (.val (.iface 102 (.agg #[(.int .i64 (1))]))), (.ptr 0 0), (.val (.tuple #[])), (.val (.string ⟨#[48, 48, 48, 47, 49, 97, 49, 47, 48, 47, 48, 10]⟩)), (.val (.int .i64 (12))), (.val (.bool false)), (.tup [(.sl [] none ⟨false, some true⟩), (.val (.iface 102 (.agg #[(.int .i64 (1))])))]), (.val (.string ⟨#[48, 48, 48, 47, 49, 97, 49, 47, 48, 47, 48, 10]⟩)), (.tup [(.sl [] none ⟨false, some true⟩), (.val (.iface 102 (.agg #[(.int .i64 (1))])))]), (.sl [] none ⟨false, some true⟩), (.val (.iface 102 (.agg #[(.int .i64 (1))]))), (.agg [(.val (.int .i64 (0)))]), (.val (.tuple #[])), (.val (.tuple #[])), (.val (.tuple #[])), (.val (.tuple #[])), (.val (.tuple #[])), (.val (.tuple #[])), (.val (.tuple #[])), (.val (.tuple #[])), (.val (.tuple #[])), (.val (.tuple #[])), (.val (.tuple #[]))]
theorem u1 : codeD Tryz.prog TyH iK cK yK 100 14 false (seqs [lft y14, lft (rgt y14), lft (rgt (rgt y14))] .skip) ([ss [48, 48, 48, 47, 49, 97, 49, 47, 48, 47, 48, 10]] ++ List.replicate 27 dundef) [] = some (.normal, e1K, []) := by kernel_rfl
theorem u2 : codeD Tryz.prog TyH iK cK yK 100 14 false (seqs [lft x14] .skip) e1K [] = some (.normal, e2K, [.cells [ii 0]]) := by kernel_rfl
theorem u3 (v : Value) : codeD Tryz.prog TyH iK cK yK 100 14 false c14 (((e2K.set 17 (.val (.iface 102 (.agg #[(.int .i64 (1))])))).set 18 (.val (.iface 104 v))).set 19 (.val (.bool true))) [.cells [ii 1]] = some (.ret, ((((((e2K.set 17 (.val (.iface 102 (.agg #[(.int .i64 (1))])))).set 18 (.val (.iface 104 v))).set 19 (.val (.bool true))).set 20 (.ptr 0 0)).set 21 (ii 1)).set 2 (.sl [] none ⟨true, some true⟩) |>.set 3 (ii 1)).set 4 (ii 2), [.cells [ii 1]]) := by kernel_rfl
theorem p14 : Post14 TyH iK cK yK 100 e2K [.cells [ii 1]] (.val (.iface 102 (.agg #[(.int .i64 (1))]))) true [.sl [] none ⟨true, some true⟩, ii 1, ii 2] := ⟨fun v => ⟨_, _, .inl (u3 v), rfl⟩⟩
theorem g14 : GoodRow Tryz.prog Final kR := good_bare (by decide +kernel) (by decide +kernel) fun x vals hR hS ha =>
  read_hit (n := 1) ty_ok (cK_ok (Final := Final)) regK (td := ⟨.struct [(0, 1, false)], 1, some [ii 0]⟩) (by kernel_rfl) rfl u1 u2 rfl rfl rfl p14 hR hS ha
abbrev rowsK : List Row := [(7, [], bb true), kW, kR, k1, k2, k3, k4, k5, k6, k7, k8, k9, k10, k11, k12, k13, k14, k15, k16, k17, k18, k19, k20, k21, k22, k23, k24, k25, k26, k27]
theorem r5 : ran (more tab1 rowsK) 100 6 (5, [], bb true) = true := by decide +kernel
theorem rowsK_ok : ∀ r ∈ rowsK, GoodRow Tryz.prog Final r := by
  intro r hr
  simp only [rowsK, List.mem_cons, List.not_mem_nil, or_false] at hr
  rcases hr with rfl | rfl | rfl | rfl | rfl | rfl | rfl | rfl | rfl | rfl | rfl | rfl | rfl | rfl | rfl | rfl | rfl | rfl | rfl | rfl | rfl | rfl | rfl | rfl | rfl | rfl | rfl | rfl | rfl | rfl
  · exact good_of_ran tab17_ok ran17
  · exact g10
  · exact g14
  · exact good_of_ran tab1_ok rk1
  · exact good_of_ran tab1_ok rk2
  · exact good_of_ran tab1_ok rk3
  · exact good_of_ran tab1_ok rk4
  · exact good_of_ran tab1_ok rk5
  · exact good_of_ran tab1_ok rk6
  · exact good_of_ran tab1_ok rk7
  · exact good_of_ran tab1_ok rk8
  · exact good_of_ran tab1_ok rk9
  · exact good_of_ran tab1_ok rk10
  · exact good_of_ran tab1_ok rk11
  · exact good_of_ran tab1_ok rk12
  · exact good_of_ran tab1_ok rk13
  · exact good_of_ran tab1_ok rk14
  · exact good_of_ran tab1_ok rk15
  · exact good_of_ran tab1_ok rk16
  · exact good_of_ran tab1_ok rk17
  · exact good_of_ran (more_ok tab1_ok rows18_ok) rk18
  · exact good_of_ran tab1_ok rk19
  · exact good_of_ran tab1_ok rk20
  · exact good_of_ran tab1_ok rk21
  · exact good_of_ran tab1_ok rk22
  · exact good_of_ran tab1_ok rk23
  · exact good_of_ran tab1_ok rk24
  · exact good_of_ran tab1_ok rk25
  · exact good_of_ran tab1_ok rk26
  · exact good_of_ran tab1_ok rk27
theorem tab5_ok : TabOK Tryz.prog Final (more tab1 rowsK) := more_ok tab1_ok rowsK_ok
theorem known5 : GoodRow Tryz.prog Final (5, [], bb true) := good_of_ran tab5_ok r5
end Go.Di
end

/- The law CutKnown: part 45: Kw9. By an AI agent. -/
import Derived.Test.YtadeehilamokkaaGreatDoorPk44
import Derived.Test.YtadeehilamokkaaGreatDoorTie
import Derived.Test.YtadeehilamokkaaGreatDoorCards
import Derived.SevenTiedAt
section
namespace Go.Tv
open Go Go.Proofs Go.Proofs.YtadeehilamokkaaGreatDoor
theorem holds_tied_goes {p : Pinned} {s : OpenSpec} {c : OpenClaim} (kinds : List LaidKind) (tests : Bool) (har : Bool × String) (lk : Bool)
    (hc : c.holds p s) (hw : c.wfByText s = true) (htie : c.laidByTextAt .later p kinds tests)
    (hst : c.start = .entering) (hnb : c.noBlocks = false ∧ c.again = false) (hm : p.checked.prog.mainIs = some (har.1, har.2.toList)) (hn : (!har.1 && har.2.isEmpty && !lk) = false)
    (hl : ∀ f fn, p.checked.prog.funcNamed c.func = some f → p.checked.prog.funcs[f]? = some fn → lk = p.checked.prog.looks [] ∧ ∀ (j : Nat) t, fn.params[j]? = some t → p.checked.prog.wantsStandIn t = false)
    (hg : true = c.goesBy p.checked.prog) :
    Claim7.holds p (.plain s) { stood := { row := c, standIns := [], harness := har, looks := lk }, kinds := [], alts := [], goes := true, laidByText := true, laidKinds := kinds, laidTests := tests, laidLooks := .later } := by
  have h6 : ∀ r : OpenClaim, Claim7.isSixth { stood := { row := r, standIns := [], harness := har, looks := lk }, kinds := [] } = false := fun r => by simpa [Claim7.isSixth] using hn
  exact ⟨Claim7.tied_new_at .later kinds tests (Claim7.new_of_sixth hc har lk hst hnb hm (h6 c) hl) hw, (fun D hD => by cases hD), htie, (fun h => by cases h), hg⟩
set_option maxRecDepth 100000 in
theorem cut_known : Rows.CutKnownCardSaid :=
  holds_tied_goes [.data, .handle, .pinned] true (true, "35b1f8f6d9a3bda12da3589a3b7cc03f41d047318345d815f1efe68ea677edf1") true
    known_holds (by kernel_rfl) cutKnown_row_tie rfl ⟨rfl, rfl⟩ (by kernel_rfl) rfl
    (fun f fn hf hfn => by
      obtain rfl : f = 5 := Option.some.inj ((show Tryz.prog.funcNamed "maculature/maculaturelaw01.CutKnown" = some 5 by kernel_rfl).symm.trans hf) |>.symm
      obtain rfl : fn = Tryz.f5 := (Option.some.inj (Tryz.func5.symm.trans hfn)).symm
      exact ⟨by kernel_rfl, fun j t ht => by
        have hp : Tryz.f5.params = #[] := by kernel_rfl
        rw [hp] at ht
        simp at ht⟩)
    (by kernel_rfl)
end Go.Tv
namespace Go.Proofs.YtadeehilamokkaaGreatDoor
theorem cutKnown_holds : Rows.CutKnownCardSaid := Go.Tv.cut_known
end Go.Proofs.YtadeehilamokkaaGreatDoor
end

/-
  No cell of these rows narrows 'for every input' (looked for: loops, veiled, ifaces, maps, wideKeys, modest, calm, conditions, laid).
  DERIVED. THE GIVEN ROWS OF THIS SEAT. 8 by the template 'for every input the law returns true; each argument reads behind the call as it read before'; 0 by the template 'total and deterministic' (their statements: YtedcgbkilmlbhaaGreatTotals.lean).
  GIVEN WITH THE SEED: the statements are not yours to turn. If you find one false, say at which input.
  Laid BY PROGRAM, IN A SANDBOX (cutbox-rows.mjs): the forced cells as the released guide's own fill.sh prints them over the translation 918e6ddc73ee5345… (all of the seat's roots in one cut). By AI agents, Wed Nov 11 2026. No macro, syntax, notation, axiom, sorry.
-/
import Derived.Test.YtedcgbkilmlbhaaGreatChecked
import GoSem.Claim
import GoSem.ClaimJoined
import GoSem.ClaimMapViews
import Derived.JoinedTies
import Derived.KernelRfl
namespace Go.Proofs.YtedcgbkilmlbhaaGreat
/- THE CELL 'sum', in the pinned program and in every row, IS THE sha256 OF THE DUMP (.gsa) THAT YtedcgbkilmlbhaaGreatProg.lean LOADS. Nothing in Lean hashes anything: it is a label: what it is worth is what the hold of that sum in a sandbox is worth. -/
noncomputable def Tryz.pinned : Pinned := { name := "ytedcgbkilmlbhaagreat", sum := "918e6ddc73ee5345480bf5fe65910e13c58f5f3c6d7c3624dc532904ae1850ab", checked := Tryz.checked }
namespace Rows
def none {H : Type} : Left H := { results := [], args := [] }

/-- 'maculaturelaw01.CutSeams': WHATEVER THE INPUT: true; the input reads as it did. -/
def cutSeamsSpec : ChangeSpec := { name := "cutSeams", fn := fun _ => fun
  | [d1, d2, d3, d4, d5] => { results := [.lit (.bool true)], args := [d1, d2, d3, d4, d5] }
  | _ => none }
def cutSeamsRow : OpenClaim := { program := "ytedcgbkilmlbhaagreat", sum := "918e6ddc73ee5345480bf5fe65910e13c58f5f3c6d7c3624dc532904ae1850ab", func := "maculature/maculaturelaw01.CutSeams", spec := "cutSeams", unfollowed := true, recurses := true, plainKeys := false, leaving := true, apart := false }
def CutSeamsSaid : Prop := cutSeamsRow.holds Tryz.pinned (OpenSpec.ofChange cutSeamsSpec)

/-- ITS FALSE NEIGHBOUR: 'it returns false'. Refute it at one input. -/
def cutSeamsWrong : ChangeSpec := { name := "cutSeams", fn := fun _ => fun
  | [d1, d2, d3, d4, d5] => { results := [.lit (.bool false)], args := [d1, d2, d3, d4, d5] }
  | _ => none }
def CutSeamsWrongFalsely : Prop := cutSeamsRow.holds Tryz.pinned (OpenSpec.ofChange cutSeamsWrong)

/-- 'maculaturelaw01.CutStacks': WHATEVER THE INPUT: true; the input reads as it did. -/
def cutStacksSpec : ChangeSpec := { name := "cutStacks", fn := fun _ => fun
  | [d1, d2, d3, d4] => { results := [.lit (.bool true)], args := [d1, d2, d3, d4] }
  | _ => none }
def cutStacksRow : OpenClaim := { program := "ytedcgbkilmlbhaagreat", sum := "918e6ddc73ee5345480bf5fe65910e13c58f5f3c6d7c3624dc532904ae1850ab", func := "maculature/maculaturelaw01.CutStacks", spec := "cutStacks", unfollowed := true, recurses := true, plainKeys := false, leaving := true, apart := false }
def CutStacksSaid : Prop := cutStacksRow.holds Tryz.pinned (OpenSpec.ofChange cutStacksSpec)

/-- ITS FALSE NEIGHBOUR: 'it returns false'. Refute it at one input. -/
def cutStacksWrong : ChangeSpec := { name := "cutStacks", fn := fun _ => fun
  | [d1, d2, d3, d4] => { results := [.lit (.bool false)], args := [d1, d2, d3, d4] }
  | _ => none }
def CutStacksWrongFalsely : Prop := cutStacksRow.holds Tryz.pinned (OpenSpec.ofChange cutStacksWrong)

/-- 'maculaturelaw01.CutLeast': WHATEVER THE INPUT: true; the input reads as it did. -/
def cutLeastSpec : ChangeSpec := { name := "cutLeast", fn := fun _ => fun
  | [d1, d2, d3, d4, d5] => { results := [.lit (.bool true)], args := [d1, d2, d3, d4, d5] }
  | _ => none }
def cutLeastRow : OpenClaim := { program := "ytedcgbkilmlbhaagreat", sum := "918e6ddc73ee5345480bf5fe65910e13c58f5f3c6d7c3624dc532904ae1850ab", func := "maculature/maculaturelaw01.CutLeast", spec := "cutLeast", unfollowed := true, recurses := true, plainKeys := false, leaving := true, apart := false }
def CutLeastSaid : Prop := cutLeastRow.holds Tryz.pinned (OpenSpec.ofChange cutLeastSpec)

/-- ITS FALSE NEIGHBOUR: 'it returns false'. Refute it at one input. -/
def cutLeastWrong : ChangeSpec := { name := "cutLeast", fn := fun _ => fun
  | [d1, d2, d3, d4, d5] => { results := [.lit (.bool false)], args := [d1, d2, d3, d4, d5] }
  | _ => none }
def CutLeastWrongFalsely : Prop := cutLeastRow.holds Tryz.pinned (OpenSpec.ofChange cutLeastWrong)

/-- 'maculaturelaw01.CutParts': WHATEVER THE INPUT: true; the input reads as it did. -/
def cutPartsSpec : ChangeSpec := { name := "cutParts", fn := fun _ => fun
  | [d1, d2, d3, d4] => { results := [.lit (.bool true)], args := [d1, d2, d3, d4] }
  | _ => none }
def cutPartsRow : OpenClaim := { program := "ytedcgbkilmlbhaagreat", sum := "918e6ddc73ee5345480bf5fe65910e13c58f5f3c6d7c3624dc532904ae1850ab", func := "maculature/maculaturelaw01.CutParts", spec := "cutParts", unfollowed := true, recurses := true, plainKeys := false, leaving := true, apart := false }
def CutPartsSaid : Prop := cutPartsRow.holds Tryz.pinned (OpenSpec.ofChange cutPartsSpec)

/-- ITS FALSE NEIGHBOUR: 'it returns false'. Refute it at one input. -/
def cutPartsWrong : ChangeSpec := { name := "cutParts", fn := fun _ => fun
  | [d1, d2, d3, d4] => { results := [.lit (.bool false)], args := [d1, d2, d3, d4] }
  | _ => none }
def CutPartsWrongFalsely : Prop := cutPartsRow.holds Tryz.pinned (OpenSpec.ofChange cutPartsWrong)

/-- 'maculaturelaw01.CutChecks': WHATEVER THE INPUT: true; the input reads as it did. -/
def cutChecksSpec : ChangeSpec := { name := "cutChecks", fn := fun _ => fun
  | [d1, d2, d3, d4] => { results := [.lit (.bool true)], args := [d1, d2, d3, d4] }
  | _ => none }
def cutChecksRow : OpenClaim := { program := "ytedcgbkilmlbhaagreat", sum := "918e6ddc73ee5345480bf5fe65910e13c58f5f3c6d7c3624dc532904ae1850ab", func := "maculature/maculaturelaw01.CutChecks", spec := "cutChecks", unfollowed := true, recurses := true, plainKeys := false, leaving := true, apart := false }
def CutChecksSaid : Prop := cutChecksRow.holds Tryz.pinned (OpenSpec.ofChange cutChecksSpec)

/-- ITS FALSE NEIGHBOUR: 'it returns false'. Refute it at one input. -/
def cutChecksWrong : ChangeSpec := { name := "cutChecks", fn := fun _ => fun
  | [d1, d2, d3, d4] => { results := [.lit (.bool false)], args := [d1, d2, d3, d4] }
  | _ => none }
def CutChecksWrongFalsely : Prop := cutChecksRow.holds Tryz.pinned (OpenSpec.ofChange cutChecksWrong)

/-- 'maculaturelaw01.CutTurned': WHATEVER THE INPUT: true; the input reads as it did. -/
def cutTurnedSpec : ChangeSpec := { name := "cutTurned", fn := fun _ => fun
  | [d] => { results := [.lit (.bool true)], args := [d] }
  | _ => none }
def cutTurnedRow : OpenClaim := { program := "ytedcgbkilmlbhaagreat", sum := "918e6ddc73ee5345480bf5fe65910e13c58f5f3c6d7c3624dc532904ae1850ab", func := "maculature/maculaturelaw01.CutTurned", spec := "cutTurned", unfollowed := true, recurses := true, plainKeys := false, leaving := true, apart := false }
def CutTurnedSaid : Prop := cutTurnedRow.holds Tryz.pinned (OpenSpec.ofChange cutTurnedSpec)

/-- ITS FALSE NEIGHBOUR: 'it returns false'. Refute it at one input. -/
def cutTurnedWrong : ChangeSpec := { name := "cutTurned", fn := fun _ => fun
  | [d] => { results := [.lit (.bool false)], args := [d] }
  | _ => none }
def CutTurnedWrongFalsely : Prop := cutTurnedRow.holds Tryz.pinned (OpenSpec.ofChange cutTurnedWrong)

/-- 'maculaturelaw01.CutAll': WHATEVER THE INPUT: true; the input reads as it did. -/
def cutAllSpec : ChangeSpec := { name := "cutAll", fn := fun _ => fun
  | [d] => { results := [.lit (.bool true)], args := [d] }
  | _ => none }
def cutAllRow : OpenClaim := { program := "ytedcgbkilmlbhaagreat", sum := "918e6ddc73ee5345480bf5fe65910e13c58f5f3c6d7c3624dc532904ae1850ab", func := "maculature/maculaturelaw01.CutAll", spec := "cutAll", unfollowed := true, recurses := true, plainKeys := false, leaving := true, apart := false }
def CutAllSaid : Prop := cutAllRow.holds Tryz.pinned (OpenSpec.ofChange cutAllSpec)

/-- ITS FALSE NEIGHBOUR: 'it returns false'. Refute it at one input. -/
def cutAllWrong : ChangeSpec := { name := "cutAll", fn := fun _ => fun
  | [d] => { results := [.lit (.bool false)], args := [d] }
  | _ => none }
def CutAllWrongFalsely : Prop := cutAllRow.holds Tryz.pinned (OpenSpec.ofChange cutAllWrong)

/-- 'maculaturelaw01.CutBroken': WHATEVER THE INPUT: true; the input reads as it did. -/
def cutBrokenSpec : ChangeSpec := { name := "cutBroken", fn := fun _ => fun
  | [d] => { results := [.lit (.bool true)], args := [d] }
  | _ => none }
def cutBrokenRow : OpenClaim := { program := "ytedcgbkilmlbhaagreat", sum := "918e6ddc73ee5345480bf5fe65910e13c58f5f3c6d7c3624dc532904ae1850ab", func := "maculature/maculaturelaw01.CutBroken", spec := "cutBroken", unfollowed := true, recurses := true, plainKeys := false, leaving := true, apart := false }
def CutBrokenSaid : Prop := cutBrokenRow.holds Tryz.pinned (OpenSpec.ofChange cutBrokenSpec)

/-- ITS FALSE NEIGHBOUR: 'it returns false'. Refute it at one input. -/
def cutBrokenWrong : ChangeSpec := { name := "cutBroken", fn := fun _ => fun
  | [d] => { results := [.lit (.bool false)], args := [d] }
  | _ => none }
def CutBrokenWrongFalsely : Prop := cutBrokenRow.holds Tryz.pinned (OpenSpec.ofChange cutBrokenWrong)

/- THE SECOND FORM. 'bulk': how many values and letters a reading holds, each counted each time it is reached (what is shared counts as often as it is met; a slice's spare places count too). A statement '..UptoSaid' is the law's where the arguments, and the package variables that the reading takes, are together of bulk at most 1048576: NARROWER than '..Said'. Prove '..Said' where nothing that the law and all that it calls make is longer than what came in: it says more and counts as full. Else prove '..UptoSaid'. A law counts once. -/
mutual
def uptoBulk {H : Type} : DataW H → Nat
  | .lit (.string bytes) => bytes.length + 1
  | .lit _ => 1
  | .nil => 1
  | .ptr d => uptoBulk d + 1
  | .slice elems spare => uptoBulkAll elems + uptoBulkAll spare + 1
  | .agg parts => uptoBulkAll parts + 1
  | .iface _ d => uptoBulk d + 1
  | .map entries => uptoBulkEntries entries + 1
  | .held _ => 1
def uptoBulkAll {H : Type} : List (DataW H) → Nat
  | [] => 0
  | d :: r => uptoBulk d + uptoBulkAll r
def uptoBulkEntries {H : Type} : List (Lit × DataW H) → Nat
  | [] => 0
  | x :: r => uptoBulkEntry x + uptoBulkEntries r
def uptoBulkEntry {H : Type} : Lit × DataW H → Nat
  | (.string bytes, d) => bytes.length + uptoBulk d + 1
  | (_, d) => uptoBulk d + 1
 end
def uptoSmall : (H : Type) → List (DataW H) → Bool := fun _ ds => decide (uptoBulkAll ds ≤ 1048576)
def OpenSpec.upto (s : _root_.Go.ChangeSpec) : _root_.Go.OpenSpec := { _root_.Go.OpenSpec.ofChange s with cond := some uptoSmall }

/-- 'maculaturelaw01.CutSeams', WHERE WHAT IT READS IS OF BULK AT MOST 1048576: true; the input reads as it did. -/
def cutSeamsUptoRow : OpenClaim := { program := "ytedcgbkilmlbhaagreat", sum := "918e6ddc73ee5345480bf5fe65910e13c58f5f3c6d7c3624dc532904ae1850ab", func := "maculature/maculaturelaw01.CutSeams", spec := "cutSeams", unfollowed := true, recurses := true, plainKeys := false, leaving := true, apart := false, narrowed := true }
def CutSeamsUptoSaid : Prop := cutSeamsUptoRow.holds Tryz.pinned (OpenSpec.upto cutSeamsSpec)

/-- 'maculaturelaw01.CutStacks', WHERE WHAT IT READS IS OF BULK AT MOST 1048576: true; the input reads as it did. -/
def cutStacksUptoRow : OpenClaim := { program := "ytedcgbkilmlbhaagreat", sum := "918e6ddc73ee5345480bf5fe65910e13c58f5f3c6d7c3624dc532904ae1850ab", func := "maculature/maculaturelaw01.CutStacks", spec := "cutStacks", unfollowed := true, recurses := true, plainKeys := false, leaving := true, apart := false, narrowed := true }
def CutStacksUptoSaid : Prop := cutStacksUptoRow.holds Tryz.pinned (OpenSpec.upto cutStacksSpec)

/-- 'maculaturelaw01.CutLeast', WHERE WHAT IT READS IS OF BULK AT MOST 1048576: true; the input reads as it did. -/
def cutLeastUptoRow : OpenClaim := { program := "ytedcgbkilmlbhaagreat", sum := "918e6ddc73ee5345480bf5fe65910e13c58f5f3c6d7c3624dc532904ae1850ab", func := "maculature/maculaturelaw01.CutLeast", spec := "cutLeast", unfollowed := true, recurses := true, plainKeys := false, leaving := true, apart := false, narrowed := true }
def CutLeastUptoSaid : Prop := cutLeastUptoRow.holds Tryz.pinned (OpenSpec.upto cutLeastSpec)

/-- 'maculaturelaw01.CutParts', WHERE WHAT IT READS IS OF BULK AT MOST 1048576: true; the input reads as it did. -/
def cutPartsUptoRow : OpenClaim := { program := "ytedcgbkilmlbhaagreat", sum := "918e6ddc73ee5345480bf5fe65910e13c58f5f3c6d7c3624dc532904ae1850ab", func := "maculature/maculaturelaw01.CutParts", spec := "cutParts", unfollowed := true, recurses := true, plainKeys := false, leaving := true, apart := false, narrowed := true }
def CutPartsUptoSaid : Prop := cutPartsUptoRow.holds Tryz.pinned (OpenSpec.upto cutPartsSpec)

/-- 'maculaturelaw01.CutChecks', WHERE WHAT IT READS IS OF BULK AT MOST 1048576: true; the input reads as it did. -/
def cutChecksUptoRow : OpenClaim := { program := "ytedcgbkilmlbhaagreat", sum := "918e6ddc73ee5345480bf5fe65910e13c58f5f3c6d7c3624dc532904ae1850ab", func := "maculature/maculaturelaw01.CutChecks", spec := "cutChecks", unfollowed := true, recurses := true, plainKeys := false, leaving := true, apart := false, narrowed := true }
def CutChecksUptoSaid : Prop := cutChecksUptoRow.holds Tryz.pinned (OpenSpec.upto cutChecksSpec)

/-- 'maculaturelaw01.CutTurned', WHERE WHAT IT READS IS OF BULK AT MOST 1048576: true; the input reads as it did. -/
def cutTurnedUptoRow : OpenClaim := { program := "ytedcgbkilmlbhaagreat", sum := "918e6ddc73ee5345480bf5fe65910e13c58f5f3c6d7c3624dc532904ae1850ab", func := "maculature/maculaturelaw01.CutTurned", spec := "cutTurned", unfollowed := true, recurses := true, plainKeys := false, leaving := true, apart := false, narrowed := true }
def CutTurnedUptoSaid : Prop := cutTurnedUptoRow.holds Tryz.pinned (OpenSpec.upto cutTurnedSpec)

/-- 'maculaturelaw01.CutAll', WHERE WHAT IT READS IS OF BULK AT MOST 1048576: true; the input reads as it did. -/
def cutAllUptoRow : OpenClaim := { program := "ytedcgbkilmlbhaagreat", sum := "918e6ddc73ee5345480bf5fe65910e13c58f5f3c6d7c3624dc532904ae1850ab", func := "maculature/maculaturelaw01.CutAll", spec := "cutAll", unfollowed := true, recurses := true, plainKeys := false, leaving := true, apart := false, narrowed := true }
def CutAllUptoSaid : Prop := cutAllUptoRow.holds Tryz.pinned (OpenSpec.upto cutAllSpec)

/-- 'maculaturelaw01.CutBroken', WHERE WHAT IT READS IS OF BULK AT MOST 1048576: true; the input reads as it did. -/
def cutBrokenUptoRow : OpenClaim := { program := "ytedcgbkilmlbhaagreat", sum := "918e6ddc73ee5345480bf5fe65910e13c58f5f3c6d7c3624dc532904ae1850ab", func := "maculature/maculaturelaw01.CutBroken", spec := "cutBroken", unfollowed := true, recurses := true, plainKeys := false, leaving := true, apart := false, narrowed := true }
def CutBrokenUptoSaid : Prop := cutBrokenUptoRow.holds Tryz.pinned (OpenSpec.upto cutBrokenSpec)

end Rows
end Go.Proofs.YtedcgbkilmlbhaaGreat

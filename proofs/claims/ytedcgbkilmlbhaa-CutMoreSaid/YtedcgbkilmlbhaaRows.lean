/-
  No cell of these rows narrows 'for every input' (looked for: loops, veiled, ifaces, maps, wideKeys, modest, calm, conditions, laid).
  DERIVED. THE GIVEN ROWS OF THIS SEAT. 4 by the template 'for every input the law returns true; each argument reads behind the call as it read before'; 0 by the template 'total and deterministic' (their statements: YtedcgbkilmlbhaaTotals.lean).
  GIVEN WITH THE SEED: the statements are not yours to turn. If you find one false, say at which input.
  Laid BY PROGRAM, IN A SANDBOX (cutbox-rows.mjs): the forced cells as the released guide's own fill.sh prints them over the translation 2706b5a1b8e8e358… (all of the seat's roots in one cut). By AI agents, Wed Nov 11 2026. No macro, syntax, notation, axiom, sorry.
-/
import Derived.Test.YtedcgbkilmlbhaaChecked
import GoSem.Claim
import GoSem.ClaimJoined
import GoSem.ClaimMapViews
import Derived.JoinedTies
import Derived.KernelRfl
namespace Go.Proofs.Ytedcgbkilmlbhaa
/- THE CELL 'sum', in the pinned program and in every row, IS THE sha256 OF THE DUMP (.gsa) THAT YtedcgbkilmlbhaaProg.lean LOADS. Nothing in Lean hashes anything: it is a label: what it is worth is what the hold of that sum in a sandbox is worth. -/
noncomputable def Try.pinned : Pinned := { name := "ytedcgbkilmlbhaa", sum := "2706b5a1b8e8e35836342654373934bdc1fcb61303751280d1ebc7ba3dfdb5ed", checked := Try.checked }
namespace Rows
def none {H : Type} : Left H := { results := [], args := [] }

/-- 'maculaturelaw01.CutWays': WHATEVER THE INPUT: true; the input reads as it did. -/
def cutWaysSpec : ChangeSpec := { name := "cutWays", fn := fun _ => fun
  | [d] => { results := [.lit (.bool true)], args := [d] }
  | _ => none }
def cutWaysRow : OpenClaim := { program := "ytedcgbkilmlbhaa", sum := "2706b5a1b8e8e35836342654373934bdc1fcb61303751280d1ebc7ba3dfdb5ed", func := "maculature/maculaturelaw01.CutWays", spec := "cutWays", unfollowed := true, recurses := true, plainKeys := false, leaving := true, apart := false }
def CutWaysSaid : Prop := cutWaysRow.holds Try.pinned (OpenSpec.ofChange cutWaysSpec)

/-- ITS FALSE NEIGHBOUR: 'it returns false'. Refute it at one input. -/
def cutWaysWrong : ChangeSpec := { name := "cutWays", fn := fun _ => fun
  | [d] => { results := [.lit (.bool false)], args := [d] }
  | _ => none }
def CutWaysWrongFalsely : Prop := cutWaysRow.holds Try.pinned (OpenSpec.ofChange cutWaysWrong)

/-- 'maculaturelaw01.CutMore': WHATEVER THE INPUT: true; the input reads as it did. -/
def cutMoreSpec : ChangeSpec := { name := "cutMore", fn := fun _ => fun
  | [d] => { results := [.lit (.bool true)], args := [d] }
  | _ => none }
def cutMoreRow : OpenClaim := { program := "ytedcgbkilmlbhaa", sum := "2706b5a1b8e8e35836342654373934bdc1fcb61303751280d1ebc7ba3dfdb5ed", func := "maculature/maculaturelaw01.CutMore", spec := "cutMore", unfollowed := true, recurses := true, plainKeys := false, leaving := true, apart := false }
def CutMoreSaid : Prop := cutMoreRow.holds Try.pinned (OpenSpec.ofChange cutMoreSpec)

/-- ITS FALSE NEIGHBOUR: 'it returns false'. Refute it at one input. -/
def cutMoreWrong : ChangeSpec := { name := "cutMore", fn := fun _ => fun
  | [d] => { results := [.lit (.bool false)], args := [d] }
  | _ => none }
def CutMoreWrongFalsely : Prop := cutMoreRow.holds Try.pinned (OpenSpec.ofChange cutMoreWrong)

/-- 'maculaturelaw01.CutLongest': WHATEVER THE INPUT: true; the input reads as it did. -/
def cutLongestSpec : ChangeSpec := { name := "cutLongest", fn := fun _ => fun
  | [d] => { results := [.lit (.bool true)], args := [d] }
  | _ => none }
def cutLongestRow : OpenClaim := { program := "ytedcgbkilmlbhaa", sum := "2706b5a1b8e8e35836342654373934bdc1fcb61303751280d1ebc7ba3dfdb5ed", func := "maculature/maculaturelaw01.CutLongest", spec := "cutLongest", unfollowed := true, recurses := true, plainKeys := false, leaving := true, apart := false }
def CutLongestSaid : Prop := cutLongestRow.holds Try.pinned (OpenSpec.ofChange cutLongestSpec)

/-- ITS FALSE NEIGHBOUR: 'it returns false'. Refute it at one input. -/
def cutLongestWrong : ChangeSpec := { name := "cutLongest", fn := fun _ => fun
  | [d] => { results := [.lit (.bool false)], args := [d] }
  | _ => none }
def CutLongestWrongFalsely : Prop := cutLongestRow.holds Try.pinned (OpenSpec.ofChange cutLongestWrong)

/-- 'maculaturelaw01.CutWorn': WHATEVER THE INPUT: true; the input reads as it did. -/
def cutWornSpec : ChangeSpec := { name := "cutWorn", fn := fun _ => fun
  | [d] => { results := [.lit (.bool true)], args := [d] }
  | _ => none }
def cutWornRow : OpenClaim := { program := "ytedcgbkilmlbhaa", sum := "2706b5a1b8e8e35836342654373934bdc1fcb61303751280d1ebc7ba3dfdb5ed", func := "maculature/maculaturelaw01.CutWorn", spec := "cutWorn", unfollowed := true, recurses := true, plainKeys := false, leaving := true, apart := false }
def CutWornSaid : Prop := cutWornRow.holds Try.pinned (OpenSpec.ofChange cutWornSpec)

/-- ITS FALSE NEIGHBOUR: 'it returns false'. Refute it at one input. -/
def cutWornWrong : ChangeSpec := { name := "cutWorn", fn := fun _ => fun
  | [d] => { results := [.lit (.bool false)], args := [d] }
  | _ => none }
def CutWornWrongFalsely : Prop := cutWornRow.holds Try.pinned (OpenSpec.ofChange cutWornWrong)

/- THE SECOND FORM. 'bulk': how many values and letters a reading holds, each counted each time it is reached (what is shared counts as often as it is met; a slice's spare places count too). A statement '..UptoSaid' is the law's where the arguments, and the package variables that the reading takes, are together of bulk at most 1048576: NARROWER than '..Said'. Prove '..Said' where nothing that the law and all that it calls make is longer than what came in: it says more and counts as full. Else prove '..UptoSaid'. A law counts once. -/
mutual
def uptoBulk {H : Type} : DataW H → Nat
  | .lit (.string bytes) => bytes.length + 1
  | .lit _ => 1
  | .nil => 1
  | .ptr d => uptoBulk d + 1
  | .slice elems spare => uptoBulkAll elems + uptoBulkAll spare + 1
  | .agg parts => uptoBulkAll parts + 1
  | .iface _ d => uptoBulk d + 1
  | .map entries => uptoBulkEntries entries + 1
  | .held _ => 1
def uptoBulkAll {H : Type} : List (DataW H) → Nat
  | [] => 0
  | d :: r => uptoBulk d + uptoBulkAll r
def uptoBulkEntries {H : Type} : List (Lit × DataW H) → Nat
  | [] => 0
  | x :: r => uptoBulkEntry x + uptoBulkEntries r
def uptoBulkEntry {H : Type} : Lit × DataW H → Nat
  | (.string bytes, d) => bytes.length + uptoBulk d + 1
  | (_, d) => uptoBulk d + 1
 end
def uptoSmall : (H : Type) → List (DataW H) → Bool := fun _ ds => decide (uptoBulkAll ds ≤ 1048576)
def OpenSpec.upto (s : _root_.Go.ChangeSpec) : _root_.Go.OpenSpec := { _root_.Go.OpenSpec.ofChange s with cond := some uptoSmall }

/-- 'maculaturelaw01.CutWays', WHERE WHAT IT READS IS OF BULK AT MOST 1048576: true; the input reads as it did. -/
def cutWaysUptoRow : OpenClaim := { program := "ytedcgbkilmlbhaa", sum := "2706b5a1b8e8e35836342654373934bdc1fcb61303751280d1ebc7ba3dfdb5ed", func := "maculature/maculaturelaw01.CutWays", spec := "cutWays", unfollowed := true, recurses := true, plainKeys := false, leaving := true, apart := false, narrowed := true }
def CutWaysUptoSaid : Prop := cutWaysUptoRow.holds Try.pinned (OpenSpec.upto cutWaysSpec)

/-- 'maculaturelaw01.CutMore', WHERE WHAT IT READS IS OF BULK AT MOST 1048576: true; the input reads as it did. -/
def cutMoreUptoRow : OpenClaim := { program := "ytedcgbkilmlbhaa", sum := "2706b5a1b8e8e35836342654373934bdc1fcb61303751280d1ebc7ba3dfdb5ed", func := "maculature/maculaturelaw01.CutMore", spec := "cutMore", unfollowed := true, recurses := true, plainKeys := false, leaving := true, apart := false, narrowed := true }
def CutMoreUptoSaid : Prop := cutMoreUptoRow.holds Try.pinned (OpenSpec.upto cutMoreSpec)

/-- 'maculaturelaw01.CutLongest', WHERE WHAT IT READS IS OF BULK AT MOST 1048576: true; the input reads as it did. -/
def cutLongestUptoRow : OpenClaim := { program := "ytedcgbkilmlbhaa", sum := "2706b5a1b8e8e35836342654373934bdc1fcb61303751280d1ebc7ba3dfdb5ed", func := "maculature/maculaturelaw01.CutLongest", spec := "cutLongest", unfollowed := true, recurses := true, plainKeys := false, leaving := true, apart := false, narrowed := true }
def CutLongestUptoSaid : Prop := cutLongestUptoRow.holds Try.pinned (OpenSpec.upto cutLongestSpec)

/-- 'maculaturelaw01.CutWorn', WHERE WHAT IT READS IS OF BULK AT MOST 1048576: true; the input reads as it did. -/
def cutWornUptoRow : OpenClaim := { program := "ytedcgbkilmlbhaa", sum := "2706b5a1b8e8e35836342654373934bdc1fcb61303751280d1ebc7ba3dfdb5ed", func := "maculature/maculaturelaw01.CutWorn", spec := "cutWorn", unfollowed := true, recurses := true, plainKeys := false, leaving := true, apart := false, narrowed := true }
def CutWornUptoSaid : Prop := cutWornUptoRow.holds Try.pinned (OpenSpec.upto cutWornSpec)

end Rows
end Go.Proofs.Ytedcgbkilmlbhaa

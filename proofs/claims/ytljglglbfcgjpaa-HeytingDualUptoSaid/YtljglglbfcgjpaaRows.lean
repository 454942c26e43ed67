/-
  No cell of these rows narrows 'for every input' (looked for: loops, veiled, ifaces, maps, wideKeys, modest, calm, conditions, laid).
  DERIVED. THE GIVEN ROWS OF THIS SEAT. 3 by the template 'for every input the law returns true; each argument reads behind the call as it read before'; 0 by the template 'total and deterministic' (their statements: YtljglglbfcgjpaaTotals.lean).
  GIVEN WITH THE SEED: the statements are not yours to turn. If you find one false, say at which input.
  Laid BY PROGRAM, IN A SANDBOX (cutbox-rows.mjs): the forced cells as the released guide's own fill.sh prints them over the translation 2d86e86c66bfe732… (all of the seat's roots in one cut). By AI agents, Wed Nov 11 2026. No macro, syntax, notation, axiom, sorry.
-/
import Derived.Test.YtljglglbfcgjpaaChecked
import GoSem.Claim
import GoSem.ClaimJoined
import GoSem.ClaimMapViews
import Derived.JoinedTies
import Derived.KernelRfl
namespace Go.Proofs.Ytljglglbfcgjpaa
/- THE CELL 'sum', in the pinned program and in every row, IS THE sha256 OF THE DUMP (.gsa) THAT YtljglglbfcgjpaaProg.lean LOADS. Nothing in Lean hashes anything: it is a label: what it is worth is what the hold of that sum in a sandbox is worth. -/
noncomputable def Try.pinned : Pinned := { name := "ytljglglbfcgjpaa", sum := "2d86e86c66bfe732cf7b9cc820b36c46b0130612e29716f11792dc302f96197a", checked := Try.checked }
namespace Rows
def none {H : Type} : Left H := { results := [], args := [] }

/-- 'dictumlaw23.HeytingDual': WHATEVER THE INPUT: true; the input reads as it did. -/
def heytingDualSpec : ChangeSpec := { name := "heytingDual", fn := fun _ => fun
  | [d] => { results := [.lit (.bool true)], args := [d] }
  | _ => none }
def heytingDualRow : OpenClaim := { program := "ytljglglbfcgjpaa", sum := "2d86e86c66bfe732cf7b9cc820b36c46b0130612e29716f11792dc302f96197a", func := "dictum/dictumlaw23.HeytingDual", spec := "heytingDual", unfollowed := true, recurses := true, apart := false }
def HeytingDualSaid : Prop := heytingDualRow.holds Try.pinned (OpenSpec.ofChange heytingDualSpec)

/-- ITS FALSE NEIGHBOUR: 'it returns false'. Refute it at one input. -/
def heytingDualWrong : ChangeSpec := { name := "heytingDual", fn := fun _ => fun
  | [d] => { results := [.lit (.bool false)], args := [d] }
  | _ => none }
def HeytingDualWrongFalsely : Prop := heytingDualRow.holds Try.pinned (OpenSpec.ofChange heytingDualWrong)

/-- 'dictumlaw23.HeytingResiduates': WHATEVER THE INPUT: true; the input reads as it did. -/
def heytingResiduatesSpec : ChangeSpec := { name := "heytingResiduates", fn := fun _ => fun
  | [d1, d2, d3, d4] => { results := [.lit (.bool true)], args := [d1, d2, d3, d4] }
  | _ => none }
def heytingResiduatesRow : OpenClaim := { program := "ytljglglbfcgjpaa", sum := "2d86e86c66bfe732cf7b9cc820b36c46b0130612e29716f11792dc302f96197a", func := "dictum/dictumlaw23.HeytingResiduates", spec := "heytingResiduates", unfollowed := true, recurses := true, apart := false }
def HeytingResiduatesSaid : Prop := heytingResiduatesRow.holds Try.pinned (OpenSpec.ofChange heytingResiduatesSpec)

/-- ITS FALSE NEIGHBOUR: 'it returns false'. Refute it at one input. -/
def heytingResiduatesWrong : ChangeSpec := { name := "heytingResiduates", fn := fun _ => fun
  | [d1, d2, d3, d4] => { results := [.lit (.bool false)], args := [d1, d2, d3, d4] }
  | _ => none }
def HeytingResiduatesWrongFalsely : Prop := heytingResiduatesRow.holds Try.pinned (OpenSpec.ofChange heytingResiduatesWrong)

/-- 'dictumlaw23.HeytingTells': WHATEVER THE INPUT: true; the input reads as it did. -/
def heytingTellsSpec : ChangeSpec := { name := "heytingTells", fn := fun _ => fun
  | [d1, d2, d3] => { results := [.lit (.bool true)], args := [d1, d2, d3] }
  | _ => none }
def heytingTellsRow : OpenClaim := { program := "ytljglglbfcgjpaa", sum := "2d86e86c66bfe732cf7b9cc820b36c46b0130612e29716f11792dc302f96197a", func := "dictum/dictumlaw23.HeytingTells", spec := "heytingTells", unfollowed := true, recurses := true, apart := false }
def HeytingTellsSaid : Prop := heytingTellsRow.holds Try.pinned (OpenSpec.ofChange heytingTellsSpec)

/-- ITS FALSE NEIGHBOUR: 'it returns false'. Refute it at one input. -/
def heytingTellsWrong : ChangeSpec := { name := "heytingTells", fn := fun _ => fun
  | [d1, d2, d3] => { results := [.lit (.bool false)], args := [d1, d2, d3] }
  | _ => none }
def HeytingTellsWrongFalsely : Prop := heytingTellsRow.holds Try.pinned (OpenSpec.ofChange heytingTellsWrong)

/- THE SECOND FORM. 'bulk': how many values and letters a reading holds, each counted each time it is reached (what is shared counts as often as it is met; a slice's spare places count too). A statement '..UptoSaid' is the law's where the arguments, and the package variables that the reading takes, are together of bulk at most 1048576: NARROWER than '..Said'. Prove '..Said' where nothing that the law and all that it calls make is longer than what came in: it says more and counts as full. Else prove '..UptoSaid'. A law counts once. -/
mutual
def uptoBulk {H : Type} : DataW H → Nat
  | .lit (.string bytes) => bytes.length + 1
  | .lit _ => 1
  | .nil => 1
  | .ptr d => uptoBulk d + 1
  | .slice elems spare => uptoBulkAll elems + uptoBulkAll spare + 1
  | .agg parts => uptoBulkAll parts + 1
  | .iface _ d => uptoBulk d + 1
  | .map entries => uptoBulkEntries entries + 1
  | .held _ => 1
def uptoBulkAll {H : Type} : List (DataW H) → Nat
  | [] => 0
  | d :: r => uptoBulk d + uptoBulkAll r
def uptoBulkEntries {H : Type} : List (Lit × DataW H) → Nat
  | [] => 0
  | x :: r => uptoBulkEntry x + uptoBulkEntries r
def uptoBulkEntry {H : Type} : Lit × DataW H → Nat
  | (.string bytes, d) => bytes.length + uptoBulk d + 1
  | (_, d) => uptoBulk d + 1
 end
def uptoSmall : (H : Type) → List (DataW H) → Bool := fun _ ds => decide (uptoBulkAll ds ≤ 1048576)
def OpenSpec.upto (s : _root_.Go.ChangeSpec) : _root_.Go.OpenSpec := { _root_.Go.OpenSpec.ofChange s with cond := some uptoSmall }

/-- 'dictumlaw23.HeytingDual', WHERE WHAT IT READS IS OF BULK AT MOST 1048576: true; the input reads as it did. -/
def heytingDualUptoRow : OpenClaim := { program := "ytljglglbfcgjpaa", sum := "2d86e86c66bfe732cf7b9cc820b36c46b0130612e29716f11792dc302f96197a", func := "dictum/dictumlaw23.HeytingDual", spec := "heytingDual", unfollowed := true, recurses := true, apart := false, narrowed := true }
def HeytingDualUptoSaid : Prop := heytingDualUptoRow.holds Try.pinned (OpenSpec.upto heytingDualSpec)

/-- 'dictumlaw23.HeytingResiduates', WHERE WHAT IT READS IS OF BULK AT MOST 1048576: true; the input reads as it did. -/
def heytingResiduatesUptoRow : OpenClaim := { program := "ytljglglbfcgjpaa", sum := "2d86e86c66bfe732cf7b9cc820b36c46b0130612e29716f11792dc302f96197a", func := "dictum/dictumlaw23.HeytingResiduates", spec := "heytingResiduates", unfollowed := true, recurses := true, apart := false, narrowed := true }
def HeytingResiduatesUptoSaid : Prop := heytingResiduatesUptoRow.holds Try.pinned (OpenSpec.upto heytingResiduatesSpec)

/-- 'dictumlaw23.HeytingTells', WHERE WHAT IT READS IS OF BULK AT MOST 1048576: true; the input reads as it did. -/
def heytingTellsUptoRow : OpenClaim := { program := "ytljglglbfcgjpaa", sum := "2d86e86c66bfe732cf7b9cc820b36c46b0130612e29716f11792dc302f96197a", func := "dictum/dictumlaw23.HeytingTells", spec := "heytingTells", unfollowed := true, recurses := true, apart := false, narrowed := true }
def HeytingTellsUptoSaid : Prop := heytingTellsUptoRow.holds Try.pinned (OpenSpec.upto heytingTellsSpec)

end Rows
end Go.Proofs.Ytljglglbfcgjpaa

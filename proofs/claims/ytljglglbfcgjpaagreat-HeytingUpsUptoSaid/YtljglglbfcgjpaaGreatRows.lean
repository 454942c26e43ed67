/-
  No cell of these rows narrows 'for every input' (looked for: loops, veiled, ifaces, maps, wideKeys, modest, calm, conditions, laid).
  DERIVED. THE GIVEN ROWS OF THIS SEAT. 3 by the template 'for every input the law returns true; each argument reads behind the call as it read before'; 0 by the template 'total and deterministic' (their statements: YtljglglbfcgjpaaGreatTotals.lean).
  GIVEN WITH THE SEED: the statements are not yours to turn. If you find one false, say at which input.
  Laid BY PROGRAM, IN A SANDBOX (cutbox-rows.mjs): the forced cells as the released guide's own fill.sh prints them over the translation e6bc94d2eb798c01… (all of the seat's roots in one cut). By AI agents, Wed Nov 11 2026. No macro, syntax, notation, axiom, sorry.
-/
import Derived.Test.YtljglglbfcgjpaaGreatChecked
import GoSem.Claim
import GoSem.ClaimJoined
import GoSem.ClaimMapViews
import Derived.JoinedTies
import Derived.KernelRfl
namespace Go.Proofs.YtljglglbfcgjpaaGreat
/- THE CELL 'sum', in the pinned program and in every row, IS THE sha256 OF THE DUMP (.gsa) THAT YtljglglbfcgjpaaGreatProg.lean LOADS. Nothing in Lean hashes anything: it is a label: what it is worth is what the hold of that sum in a sandbox is worth. -/
noncomputable def Tryz.pinned : Pinned := { name := "ytljglglbfcgjpaagreat", sum := "e6bc94d2eb798c01f35f27b7d2bec9b5ab18325b3e79f9768a856ea969eda21a", checked := Tryz.checked }
namespace Rows
def none {H : Type} : Left H := { results := [], args := [] }

/-- 'dictumlaw23.HeytingUps': WHATEVER THE INPUT: true; the input reads as it did. -/
def heytingUpsSpec : ChangeSpec := { name := "heytingUps", fn := fun _ => fun
  | [d1, d2, d3] => { results := [.lit (.bool true)], args := [d1, d2, d3] }
  | _ => none }
def heytingUpsRow : OpenClaim := { program := "ytljglglbfcgjpaagreat", sum := "e6bc94d2eb798c01f35f27b7d2bec9b5ab18325b3e79f9768a856ea969eda21a", func := "dictum/dictumlaw23.HeytingUps", spec := "heytingUps", unfollowed := true, recurses := true, plainKeys := false, apart := false }
def HeytingUpsSaid : Prop := heytingUpsRow.holds Tryz.pinned (OpenSpec.ofChange heytingUpsSpec)

/-- ITS FALSE NEIGHBOUR: 'it returns false'. Refute it at one input. -/
def heytingUpsWrong : ChangeSpec := { name := "heytingUps", fn := fun _ => fun
  | [d1, d2, d3] => { results := [.lit (.bool false)], args := [d1, d2, d3] }
  | _ => none }
def HeytingUpsWrongFalsely : Prop := heytingUpsRow.holds Tryz.pinned (OpenSpec.ofChange heytingUpsWrong)

/-- 'dictumlaw23.HeytingValues': WHATEVER THE INPUT: true; the input reads as it did. -/
def heytingValuesSpec : ChangeSpec := { name := "heytingValues", fn := fun _ => fun
  | [d1, d2, d3, d4] => { results := [.lit (.bool true)], args := [d1, d2, d3, d4] }
  | _ => none }
def heytingValuesRow : OpenClaim := { program := "ytljglglbfcgjpaagreat", sum := "e6bc94d2eb798c01f35f27b7d2bec9b5ab18325b3e79f9768a856ea969eda21a", func := "dictum/dictumlaw23.HeytingValues", spec := "heytingValues", unfollowed := true, recurses := true, plainKeys := false, apart := false }
def HeytingValuesSaid : Prop := heytingValuesRow.holds Tryz.pinned (OpenSpec.ofChange heytingValuesSpec)

/-- ITS FALSE NEIGHBOUR: 'it returns false'. Refute it at one input. -/
def heytingValuesWrong : ChangeSpec := { name := "heytingValues", fn := fun _ => fun
  | [d1, d2, d3, d4] => { results := [.lit (.bool false)], args := [d1, d2, d3, d4] }
  | _ => none }
def HeytingValuesWrongFalsely : Prop := heytingValuesRow.holds Tryz.pinned (OpenSpec.ofChange heytingValuesWrong)

/-- 'dictumlaw23.HeytingForces': WHATEVER THE INPUT: true; the input reads as it did. -/
def heytingForcesSpec : ChangeSpec := { name := "heytingForces", fn := fun _ => fun
  | [d1, d2, d3] => { results := [.lit (.bool true)], args := [d1, d2, d3] }
  | _ => none }
def heytingForcesRow : OpenClaim := { program := "ytljglglbfcgjpaagreat", sum := "e6bc94d2eb798c01f35f27b7d2bec9b5ab18325b3e79f9768a856ea969eda21a", func := "dictum/dictumlaw23.HeytingForces", spec := "heytingForces", unfollowed := true, recurses := true, plainKeys := false, apart := false }
def HeytingForcesSaid : Prop := heytingForcesRow.holds Tryz.pinned (OpenSpec.ofChange heytingForcesSpec)

/-- ITS FALSE NEIGHBOUR: 'it returns false'. Refute it at one input. -/
def heytingForcesWrong : ChangeSpec := { name := "heytingForces", fn := fun _ => fun
  | [d1, d2, d3] => { results := [.lit (.bool false)], args := [d1, d2, d3] }
  | _ => none }
def HeytingForcesWrongFalsely : Prop := heytingForcesRow.holds Tryz.pinned (OpenSpec.ofChange heytingForcesWrong)

/- THE SECOND FORM. 'bulk': how many values and letters a reading holds, each counted each time it is reached (what is shared counts as often as it is met; a slice's spare places count too). A statement '..UptoSaid' is the law's where the arguments, and the package variables that the reading takes, are together of bulk at most 1048576: NARROWER than '..Said'. Prove '..Said' where nothing that the law and all that it calls make is longer than what came in: it says more and counts as full. Else prove '..UptoSaid'. A law counts once. -/
mutual
def uptoBulk {H : Type} : DataW H → Nat
  | .lit (.string bytes) => bytes.length + 1
  | .lit _ => 1
  | .nil => 1
  | .ptr d => uptoBulk d + 1
  | .slice elems spare => uptoBulkAll elems + uptoBulkAll spare + 1
  | .agg parts => uptoBulkAll parts + 1
  | .iface _ d => uptoBulk d + 1
  | .map entries => uptoBulkEntries entries + 1
  | .held _ => 1
def uptoBulkAll {H : Type} : List (DataW H) → Nat
  | [] => 0
  | d :: r => uptoBulk d + uptoBulkAll r
def uptoBulkEntries {H : Type} : List (Lit × DataW H) → Nat
  | [] => 0
  | x :: r => uptoBulkEntry x + uptoBulkEntries r
def uptoBulkEntry {H : Type} : Lit × DataW H → Nat
  | (.string bytes, d) => bytes.length + uptoBulk d + 1
  | (_, d) => uptoBulk d + 1
 end
def uptoSmall : (H : Type) → List (DataW H) → Bool := fun _ ds => decide (uptoBulkAll ds ≤ 1048576)
def OpenSpec.upto (s : _root_.Go.ChangeSpec) : _root_.Go.OpenSpec := { _root_.Go.OpenSpec.ofChange s with cond := some uptoSmall }

/-- 'dictumlaw23.HeytingUps', WHERE WHAT IT READS IS OF BULK AT MOST 1048576: true; the input reads as it did. -/
def heytingUpsUptoRow : OpenClaim := { program := "ytljglglbfcgjpaagreat", sum := "e6bc94d2eb798c01f35f27b7d2bec9b5ab18325b3e79f9768a856ea969eda21a", func := "dictum/dictumlaw23.HeytingUps", spec := "heytingUps", unfollowed := true, recurses := true, plainKeys := false, apart := false, narrowed := true }
def HeytingUpsUptoSaid : Prop := heytingUpsUptoRow.holds Tryz.pinned (OpenSpec.upto heytingUpsSpec)

/-- 'dictumlaw23.HeytingValues', WHERE WHAT IT READS IS OF BULK AT MOST 1048576: true; the input reads as it did. -/
def heytingValuesUptoRow : OpenClaim := { program := "ytljglglbfcgjpaagreat", sum := "e6bc94d2eb798c01f35f27b7d2bec9b5ab18325b3e79f9768a856ea969eda21a", func := "dictum/dictumlaw23.HeytingValues", spec := "heytingValues", unfollowed := true, recurses := true, plainKeys := false, apart := false, narrowed := true }
def HeytingValuesUptoSaid : Prop := heytingValuesUptoRow.holds Tryz.pinned (OpenSpec.upto heytingValuesSpec)

/-- 'dictumlaw23.HeytingForces', WHERE WHAT IT READS IS OF BULK AT MOST 1048576: true; the input reads as it did. -/
def heytingForcesUptoRow : OpenClaim := { program := "ytljglglbfcgjpaagreat", sum := "e6bc94d2eb798c01f35f27b7d2bec9b5ab18325b3e79f9768a856ea969eda21a", func := "dictum/dictumlaw23.HeytingForces", spec := "heytingForces", unfollowed := true, recurses := true, plainKeys := false, apart := false, narrowed := true }
def HeytingForcesUptoSaid : Prop := heytingForcesUptoRow.holds Tryz.pinned (OpenSpec.upto heytingForcesSpec)

end Rows
end Go.Proofs.YtljglglbfcgjpaaGreat

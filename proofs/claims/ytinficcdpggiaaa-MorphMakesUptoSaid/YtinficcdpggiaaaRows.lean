/-
  No cell of these rows narrows 'for every input' (looked for: loops, veiled, ifaces, maps, wideKeys, modest, calm, conditions, laid).
  DERIVED. THE GIVEN ROWS OF THIS SEAT. 5 by the template 'for every input the law returns true; each argument reads behind the call as it read before'; 0 by the template 'total and deterministic' (their statements: YtinficcdpggiaaaTotals.lean).
  GIVEN WITH THE SEED: the statements are not yours to turn. If you find one false, say at which input.
  Laid BY PROGRAM, IN A SANDBOX (cutbox-rows.mjs): the forced cells as the released guide's own fill.sh prints them over the translation 56be9b14951e4d2a… (all of the seat's roots in one cut). By AI agents, Wed Nov 11 2026. No macro, syntax, notation, axiom, sorry.
-/
import Derived.Test.YtinficcdpggiaaaChecked
import GoSem.Claim
import GoSem.ClaimJoined
import GoSem.ClaimMapViews
import Derived.JoinedTies
import Derived.KernelRfl
namespace Go.Proofs.Ytinficcdpggiaaa
/- THE CELL 'sum', in the pinned program and in every row, IS THE sha256 OF THE DUMP (.gsa) THAT YtinficcdpggiaaaProg.lean LOADS. Nothing in Lean hashes anything: it is a label: what it is worth is what the hold of that sum in a sandbox is worth. -/
noncomputable def Try.pinned : Pinned := { name := "ytinficcdpggiaaa", sum := "56be9b14951e4d2a17bca246ef270a9b031070da3ad86f6d9c9d78f3903b02e0", checked := Try.checked }
namespace Rows
def none {H : Type} : Left H := { results := [], args := [] }

/-- 'dictumlaw19.MorphMakes': WHATEVER THE INPUT: true; the input reads as it did. -/
def morphMakesSpec : ChangeSpec := { name := "morphMakes", fn := fun _ => fun
  | [d1, d2] => { results := [.lit (.bool true)], args := [d1, d2] }
  | _ => none }
def morphMakesRow : OpenClaim := { program := "ytinficcdpggiaaa", sum := "56be9b14951e4d2a17bca246ef270a9b031070da3ad86f6d9c9d78f3903b02e0", func := "dictum/dictumlaw19.MorphMakes", spec := "morphMakes", unfollowed := true, recurses := true, apart := false }
def MorphMakesSaid : Prop := morphMakesRow.holds Try.pinned (OpenSpec.ofChange morphMakesSpec)

/-- ITS FALSE NEIGHBOUR: 'it returns false'. Refute it at one input. -/
def morphMakesWrong : ChangeSpec := { name := "morphMakes", fn := fun _ => fun
  | [d1, d2] => { results := [.lit (.bool false)], args := [d1, d2] }
  | _ => none }
def MorphMakesWrongFalsely : Prop := morphMakesRow.holds Try.pinned (OpenSpec.ofChange morphMakesWrong)

/-- 'dictumlaw19.MorphGlues': WHATEVER THE INPUT: true; the input reads as it did. -/
def morphGluesSpec : ChangeSpec := { name := "morphGlues", fn := fun _ => fun
  | [d1, d2] => { results := [.lit (.bool true)], args := [d1, d2] }
  | _ => none }
def morphGluesRow : OpenClaim := { program := "ytinficcdpggiaaa", sum := "56be9b14951e4d2a17bca246ef270a9b031070da3ad86f6d9c9d78f3903b02e0", func := "dictum/dictumlaw19.MorphGlues", spec := "morphGlues", unfollowed := true, recurses := true, apart := false }
def MorphGluesSaid : Prop := morphGluesRow.holds Try.pinned (OpenSpec.ofChange morphGluesSpec)

/-- ITS FALSE NEIGHBOUR: 'it returns false'. Refute it at one input. -/
def morphGluesWrong : ChangeSpec := { name := "morphGlues", fn := fun _ => fun
  | [d1, d2] => { results := [.lit (.bool false)], args := [d1, d2] }
  | _ => none }
def MorphGluesWrongFalsely : Prop := morphGluesRow.holds Try.pinned (OpenSpec.ofChange morphGluesWrong)

/-- 'dictumlaw19.MorphKeeps': WHATEVER THE INPUT: true; the input reads as it did. -/
def morphKeepsSpec : ChangeSpec := { name := "morphKeeps", fn := fun _ => fun
  | [d1, d2, d3, d4, d5] => { results := [.lit (.bool true)], args := [d1, d2, d3, d4, d5] }
  | _ => none }
def morphKeepsRow : OpenClaim := { program := "ytinficcdpggiaaa", sum := "56be9b14951e4d2a17bca246ef270a9b031070da3ad86f6d9c9d78f3903b02e0", func := "dictum/dictumlaw19.MorphKeeps", spec := "morphKeeps", unfollowed := true, recurses := true, apart := false }
def MorphKeepsSaid : Prop := morphKeepsRow.holds Try.pinned (OpenSpec.ofChange morphKeepsSpec)

/-- ITS FALSE NEIGHBOUR: 'it returns false'. Refute it at one input. -/
def morphKeepsWrong : ChangeSpec := { name := "morphKeeps", fn := fun _ => fun
  | [d1, d2, d3, d4, d5] => { results := [.lit (.bool false)], args := [d1, d2, d3, d4, d5] }
  | _ => none }
def MorphKeepsWrongFalsely : Prop := morphKeepsRow.holds Try.pinned (OpenSpec.ofChange morphKeepsWrong)

/-- 'dictumlaw19.MorphGlued': WHATEVER THE INPUT: true; the input reads as it did. -/
def morphGluedSpec : ChangeSpec := { name := "morphGlued", fn := fun _ => fun
  | [d1, d2, d3] => { results := [.lit (.bool true)], args := [d1, d2, d3] }
  | _ => none }
def morphGluedRow : OpenClaim := { program := "ytinficcdpggiaaa", sum := "56be9b14951e4d2a17bca246ef270a9b031070da3ad86f6d9c9d78f3903b02e0", func := "dictum/dictumlaw19.MorphGlued", spec := "morphGlued", unfollowed := true, recurses := true, apart := false }
def MorphGluedSaid : Prop := morphGluedRow.holds Try.pinned (OpenSpec.ofChange morphGluedSpec)

/-- ITS FALSE NEIGHBOUR: 'it returns false'. Refute it at one input. -/
def morphGluedWrong : ChangeSpec := { name := "morphGlued", fn := fun _ => fun
  | [d1, d2, d3] => { results := [.lit (.bool false)], args := [d1, d2, d3] }
  | _ => none }
def MorphGluedWrongFalsely : Prop := morphGluedRow.holds Try.pinned (OpenSpec.ofChange morphGluedWrong)

/-- 'dictumlaw19.MorphLeast': WHATEVER THE INPUT: true; the input reads as it did. -/
def morphLeastSpec : ChangeSpec := { name := "morphLeast", fn := fun _ => fun
  | [d] => { results := [.lit (.bool true)], args := [d] }
  | _ => none }
def morphLeastRow : OpenClaim := { program := "ytinficcdpggiaaa", sum := "56be9b14951e4d2a17bca246ef270a9b031070da3ad86f6d9c9d78f3903b02e0", func := "dictum/dictumlaw19.MorphLeast", spec := "morphLeast", unfollowed := true, recurses := true, apart := false }
def MorphLeastSaid : Prop := morphLeastRow.holds Try.pinned (OpenSpec.ofChange morphLeastSpec)

/-- ITS FALSE NEIGHBOUR: 'it returns false'. Refute it at one input. -/
def morphLeastWrong : ChangeSpec := { name := "morphLeast", fn := fun _ => fun
  | [d] => { results := [.lit (.bool false)], args := [d] }
  | _ => none }
def MorphLeastWrongFalsely : Prop := morphLeastRow.holds Try.pinned (OpenSpec.ofChange morphLeastWrong)

/- THE SECOND FORM. 'bulk': how many values and letters a reading holds, each counted each time it is reached (what is shared counts as often as it is met; a slice's spare places count too). A statement '..UptoSaid' is the law's where the arguments, and the package variables that the reading takes, are together of bulk at most 1048576: NARROWER than '..Said'. Prove '..Said' where nothing that the law and all that it calls make is longer than what came in: it says more and counts as full. Else prove '..UptoSaid'. A law counts once. -/
mutual
def uptoBulk {H : Type} : DataW H → Nat
  | .lit (.string bytes) => bytes.length + 1
  | .lit _ => 1
  | .nil => 1
  | .ptr d => uptoBulk d + 1
  | .slice elems spare => uptoBulkAll elems + uptoBulkAll spare + 1
  | .agg parts => uptoBulkAll parts + 1
  | .iface _ d => uptoBulk d + 1
  | .map entries => uptoBulkEntries entries + 1
  | .held _ => 1
def uptoBulkAll {H : Type} : List (DataW H) → Nat
  | [] => 0
  | d :: r => uptoBulk d + uptoBulkAll r
def uptoBulkEntries {H : Type} : List (Lit × DataW H) → Nat
  | [] => 0
  | x :: r => uptoBulkEntry x + uptoBulkEntries r
def uptoBulkEntry {H : Type} : Lit × DataW H → Nat
  | (.string bytes, d) => bytes.length + uptoBulk d + 1
  | (_, d) => uptoBulk d + 1
 end
def uptoSmall : (H : Type) → List (DataW H) → Bool := fun _ ds => decide (uptoBulkAll ds ≤ 1048576)
def OpenSpec.upto (s : _root_.Go.ChangeSpec) : _root_.Go.OpenSpec := { _root_.Go.OpenSpec.ofChange s with cond := some uptoSmall }

/-- 'dictumlaw19.MorphMakes', WHERE WHAT IT READS IS OF BULK AT MOST 1048576: true; the input reads as it did. -/
def morphMakesUptoRow : OpenClaim := { program := "ytinficcdpggiaaa", sum := "56be9b14951e4d2a17bca246ef270a9b031070da3ad86f6d9c9d78f3903b02e0", func := "dictum/dictumlaw19.MorphMakes", spec := "morphMakes", unfollowed := true, recurses := true, apart := false, narrowed := true }
def MorphMakesUptoSaid : Prop := morphMakesUptoRow.holds Try.pinned (OpenSpec.upto morphMakesSpec)

/-- 'dictumlaw19.MorphGlues', WHERE WHAT IT READS IS OF BULK AT MOST 1048576: true; the input reads as it did. -/
def morphGluesUptoRow : OpenClaim := { program := "ytinficcdpggiaaa", sum := "56be9b14951e4d2a17bca246ef270a9b031070da3ad86f6d9c9d78f3903b02e0", func := "dictum/dictumlaw19.MorphGlues", spec := "morphGlues", unfollowed := true, recurses := true, apart := false, narrowed := true }
def MorphGluesUptoSaid : Prop := morphGluesUptoRow.holds Try.pinned (OpenSpec.upto morphGluesSpec)

/-- 'dictumlaw19.MorphKeeps', WHERE WHAT IT READS IS OF BULK AT MOST 1048576: true; the input reads as it did. -/
def morphKeepsUptoRow : OpenClaim := { program := "ytinficcdpggiaaa", sum := "56be9b14951e4d2a17bca246ef270a9b031070da3ad86f6d9c9d78f3903b02e0", func := "dictum/dictumlaw19.MorphKeeps", spec := "morphKeeps", unfollowed := true, recurses := true, apart := false, narrowed := true }
def MorphKeepsUptoSaid : Prop := morphKeepsUptoRow.holds Try.pinned (OpenSpec.upto morphKeepsSpec)

/-- 'dictumlaw19.MorphGlued', WHERE WHAT IT READS IS OF BULK AT MOST 1048576: true; the input reads as it did. -/
def morphGluedUptoRow : OpenClaim := { program := "ytinficcdpggiaaa", sum := "56be9b14951e4d2a17bca246ef270a9b031070da3ad86f6d9c9d78f3903b02e0", func := "dictum/dictumlaw19.MorphGlued", spec := "morphGlued", unfollowed := true, recurses := true, apart := false, narrowed := true }
def MorphGluedUptoSaid : Prop := morphGluedUptoRow.holds Try.pinned (OpenSpec.upto morphGluedSpec)

/-- 'dictumlaw19.MorphLeast', WHERE WHAT IT READS IS OF BULK AT MOST 1048576: true; the input reads as it did. -/
def morphLeastUptoRow : OpenClaim := { program := "ytinficcdpggiaaa", sum := "56be9b14951e4d2a17bca246ef270a9b031070da3ad86f6d9c9d78f3903b02e0", func := "dictum/dictumlaw19.MorphLeast", spec := "morphLeast", unfollowed := true, recurses := true, apart := false, narrowed := true }
def MorphLeastUptoSaid : Prop := morphLeastUptoRow.holds Try.pinned (OpenSpec.upto morphLeastSpec)

end Rows
end Go.Proofs.Ytinficcdpggiaaa

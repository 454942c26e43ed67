/-
  No cell of these rows narrows 'for every input' (looked for: loops, veiled, ifaces, maps, wideKeys, modest, calm, conditions, laid).
  DERIVED. THE GIVEN ROWS OF THIS SEAT. 3 by the template 'for every input the law returns true; each argument reads behind the call as it read before'; 0 by the template 'total and deterministic' (their statements: YtobpfhmjdoekfaaGreatTotals.lean).
  GIVEN WITH THE SEED: the statements are not yours to turn. If you find one false, say at which input.
  Laid BY PROGRAM, IN A SANDBOX (cutbox-rows.mjs): the forced cells as the released guide's own fill.sh prints them over the translation b30168c1eb39a7dd… (all of the seat's roots in one cut). By AI agents, Wed Nov 11 2026. No macro, syntax, notation, axiom, sorry.
-/
import Derived.Test.YtobpfhmjdoekfaaGreatChecked
import GoSem.Claim
import GoSem.ClaimJoined
import GoSem.ClaimMapViews
import Derived.JoinedTies
import Derived.KernelRfl
namespace Go.Proofs.YtobpfhmjdoekfaaGreat
/- THE CELL 'sum', in the pinned program and in every row, IS THE sha256 OF THE DUMP (.gsa) THAT YtobpfhmjdoekfaaGreatProg.lean LOADS. Nothing in Lean hashes anything: it is a label: what it is worth is what the hold of that sum in a sandbox is worth. -/
noncomputable def Tryz.pinned : Pinned := { name := "ytobpfhmjdoekfaagreat", sum := "b30168c1eb39a7ddc29b3e2026f6af89264e71cffca785948632346edc421279", checked := Tryz.checked }
namespace Rows
def none {H : Type} : Left H := { results := [], args := [] }

/-- 'dictumlaw26.NishimuraLadder': WHATEVER THE INPUT: true; the input reads as it did. -/
def nishimuraLadderSpec : ChangeSpec := { name := "nishimuraLadder", fn := fun _ => fun
  | [d1, d2, d3] => { results := [.lit (.bool true)], args := [d1, d2, d3] }
  | _ => none }
def nishimuraLadderRow : OpenClaim := { program := "ytobpfhmjdoekfaagreat", sum := "b30168c1eb39a7ddc29b3e2026f6af89264e71cffca785948632346edc421279", func := "dictum/dictumlaw26.NishimuraLadder", spec := "nishimuraLadder", unfollowed := true, recurses := true, plainKeys := false, apart := false }
def NishimuraLadderSaid : Prop := nishimuraLadderRow.holds Tryz.pinned (OpenSpec.ofChange nishimuraLadderSpec)

/-- ITS FALSE NEIGHBOUR: 'it returns false'. Refute it at one input. -/
def nishimuraLadderWrong : ChangeSpec := { name := "nishimuraLadder", fn := fun _ => fun
  | [d1, d2, d3] => { results := [.lit (.bool false)], args := [d1, d2, d3] }
  | _ => none }
def NishimuraLadderWrongFalsely : Prop := nishimuraLadderRow.holds Tryz.pinned (OpenSpec.ofChange nishimuraLadderWrong)

/-- 'dictumlaw26.NishimuraRungs': WHATEVER THE INPUT: true; the input reads as it did. -/
def nishimuraRungsSpec : ChangeSpec := { name := "nishimuraRungs", fn := fun _ => fun
  | [d1, d2, d3] => { results := [.lit (.bool true)], args := [d1, d2, d3] }
  | _ => none }
def nishimuraRungsRow : OpenClaim := { program := "ytobpfhmjdoekfaagreat", sum := "b30168c1eb39a7ddc29b3e2026f6af89264e71cffca785948632346edc421279", func := "dictum/dictumlaw26.NishimuraRungs", spec := "nishimuraRungs", unfollowed := true, recurses := true, plainKeys := false, apart := false }
def NishimuraRungsSaid : Prop := nishimuraRungsRow.holds Tryz.pinned (OpenSpec.ofChange nishimuraRungsSpec)

/-- ITS FALSE NEIGHBOUR: 'it returns false'. Refute it at one input. -/
def nishimuraRungsWrong : ChangeSpec := { name := "nishimuraRungs", fn := fun _ => fun
  | [d1, d2, d3] => { results := [.lit (.bool false)], args := [d1, d2, d3] }
  | _ => none }
def NishimuraRungsWrongFalsely : Prop := nishimuraRungsRow.holds Tryz.pinned (OpenSpec.ofChange nishimuraRungsWrong)

/-- 'dictumlaw26.NishimuraForces': WHATEVER THE INPUT: true; the input reads as it did. -/
def nishimuraForcesSpec : ChangeSpec := { name := "nishimuraForces", fn := fun _ => fun
  | [d1, d2, d3] => { results := [.lit (.bool true)], args := [d1, d2, d3] }
  | _ => none }
def nishimuraForcesRow : OpenClaim := { program := "ytobpfhmjdoekfaagreat", sum := "b30168c1eb39a7ddc29b3e2026f6af89264e71cffca785948632346edc421279", func := "dictum/dictumlaw26.NishimuraForces", spec := "nishimuraForces", unfollowed := true, recurses := true, plainKeys := false, apart := false }
def NishimuraForcesSaid : Prop := nishimuraForcesRow.holds Tryz.pinned (OpenSpec.ofChange nishimuraForcesSpec)

/-- ITS FALSE NEIGHBOUR: 'it returns false'. Refute it at one input. -/
def nishimuraForcesWrong : ChangeSpec := { name := "nishimuraForces", fn := fun _ => fun
  | [d1, d2, d3] => { results := [.lit (.bool false)], args := [d1, d2, d3] }
  | _ => none }
def NishimuraForcesWrongFalsely : Prop := nishimuraForcesRow.holds Tryz.pinned (OpenSpec.ofChange nishimuraForcesWrong)

/- THE SECOND FORM. 'bulk': how many values and letters a reading holds, each counted each time it is reached (what is shared counts as often as it is met; a slice's spare places count too). A statement '..UptoSaid' is the law's where the arguments, and the package variables that the reading takes, are together of bulk at most 1048576: NARROWER than '..Said'. Prove '..Said' where nothing that the law and all that it calls make is longer than what came in: it says more and counts as full. Else prove '..UptoSaid'. A law counts once. -/
mutual
def uptoBulk {H : Type} : DataW H → Nat
  | .lit (.string bytes) => bytes.length + 1
  | .lit _ => 1
  | .nil => 1
  | .ptr d => uptoBulk d + 1
  | .slice elems spare => uptoBulkAll elems + uptoBulkAll spare + 1
  | .agg parts => uptoBulkAll parts + 1
  | .iface _ d => uptoBulk d + 1
  | .map entries => uptoBulkEntries entries + 1
  | .held _ => 1
def uptoBulkAll {H : Type} : List (DataW H) → Nat
  | [] => 0
  | d :: r => uptoBulk d + uptoBulkAll r
def uptoBulkEntries {H : Type} : List (Lit × DataW H) → Nat
  | [] => 0
  | x :: r => uptoBulkEntry x + uptoBulkEntries r
def uptoBulkEntry {H : Type} : Lit × DataW H → Nat
  | (.string bytes, d) => bytes.length + uptoBulk d + 1
  | (_, d) => uptoBulk d + 1
 end
def uptoSmall : (H : Type) → List (DataW H) → Bool := fun _ ds => decide (uptoBulkAll ds ≤ 1048576)
def OpenSpec.upto (s : _root_.Go.ChangeSpec) : _root_.Go.OpenSpec := { _root_.Go.OpenSpec.ofChange s with cond := some uptoSmall }

/-- 'dictumlaw26.NishimuraLadder', WHERE WHAT IT READS IS OF BULK AT MOST 1048576: true; the input reads as it did. -/
def nishimuraLadderUptoRow : OpenClaim := { program := "ytobpfhmjdoekfaagreat", sum := "b30168c1eb39a7ddc29b3e2026f6af89264e71cffca785948632346edc421279", func := "dictum/dictumlaw26.NishimuraLadder", spec := "nishimuraLadder", unfollowed := true, recurses := true, plainKeys := false, apart := false, narrowed := true }
def NishimuraLadderUptoSaid : Prop := nishimuraLadderUptoRow.holds Tryz.pinned (OpenSpec.upto nishimuraLadderSpec)

/-- 'dictumlaw26.NishimuraRungs', WHERE WHAT IT READS IS OF BULK AT MOST 1048576: true; the input reads as it did. -/
def nishimuraRungsUptoRow : OpenClaim := { program := "ytobpfhmjdoekfaagreat", sum := "b30168c1eb39a7ddc29b3e2026f6af89264e71cffca785948632346edc421279", func := "dictum/dictumlaw26.NishimuraRungs", spec := "nishimuraRungs", unfollowed := true, recurses := true, plainKeys := false, apart := false, narrowed := true }
def NishimuraRungsUptoSaid : Prop := nishimuraRungsUptoRow.holds Tryz.pinned (OpenSpec.upto nishimuraRungsSpec)

/-- 'dictumlaw26.NishimuraForces', WHERE WHAT IT READS IS OF BULK AT MOST 1048576: true; the input reads as it did. -/
def nishimuraForcesUptoRow : OpenClaim := { program := "ytobpfhmjdoekfaagreat", sum := "b30168c1eb39a7ddc29b3e2026f6af89264e71cffca785948632346edc421279", func := "dictum/dictumlaw26.NishimuraForces", spec := "nishimuraForces", unfollowed := true, recurses := true, plainKeys := false, apart := false, narrowed := true }
def NishimuraForcesUptoSaid : Prop := nishimuraForcesUptoRow.holds Tryz.pinned (OpenSpec.upto nishimuraForcesSpec)

end Rows
end Go.Proofs.YtobpfhmjdoekfaaGreat

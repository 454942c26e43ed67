/-
  No cell of these rows narrows 'for every input' (looked for: loops, veiled, ifaces, maps, wideKeys, modest, calm, conditions, laid).
  DERIVED. THE GIVEN ROWS OF THIS SEAT. 4 by the template 'for every input the law returns true; each argument reads behind the call as it read before'; 0 by the template 'total and deterministic' (their statements: YtobpfhmjdoekfaaTotals.lean).
  GIVEN WITH THE SEED: the statements are not yours to turn. If you find one false, say at which input.
  Laid BY PROGRAM, IN A SANDBOX (cutbox-rows.mjs): the forced cells as the released guide's own fill.sh prints them over the translation 5fa149454a491692… (all of the seat's roots in one cut). By AI agents, Wed Nov 11 2026. No macro, syntax, notation, axiom, sorry.
-/
import Derived.Test.YtobpfhmjdoekfaaChecked
import GoSem.Claim
import GoSem.ClaimJoined
import GoSem.ClaimMapViews
import Derived.JoinedTies
import Derived.KernelRfl
namespace Go.Proofs.Ytobpfhmjdoekfaa
/- THE CELL 'sum', in the pinned program and in every row, IS THE sha256 OF THE DUMP (.gsa) THAT YtobpfhmjdoekfaaProg.lean LOADS. Nothing in Lean hashes anything: it is a label: what it is worth is what the hold of that sum in a sandbox is worth. -/
noncomputable def Try.pinned : Pinned := { name := "ytobpfhmjdoekfaa", sum := "5fa149454a49169230f2781e5c6ba2230dedf6ff2357372ba49aaa2d5b354a91", checked := Try.checked }
namespace Rows
def none {H : Type} : Left H := { results := [], args := [] }

/-- 'dictumlaw26.NishimuraOps': WHATEVER THE INPUT: true; the input reads as it did. -/
def nishimuraOpsSpec : ChangeSpec := { name := "nishimuraOps", fn := fun _ => fun
  | [d1, d2] => { results := [.lit (.bool true)], args := [d1, d2] }
  | _ => none }
def nishimuraOpsRow : OpenClaim := { program := "ytobpfhmjdoekfaa", sum := "5fa149454a49169230f2781e5c6ba2230dedf6ff2357372ba49aaa2d5b354a91", func := "dictum/dictumlaw26.NishimuraOps", spec := "nishimuraOps", unfollowed := true, recurses := true, plainKeys := false, apart := false }
def NishimuraOpsSaid : Prop := nishimuraOpsRow.holds Try.pinned (OpenSpec.ofChange nishimuraOpsSpec)

/-- ITS FALSE NEIGHBOUR: 'it returns false'. Refute it at one input. -/
def nishimuraOpsWrong : ChangeSpec := { name := "nishimuraOps", fn := fun _ => fun
  | [d1, d2] => { results := [.lit (.bool false)], args := [d1, d2] }
  | _ => none }
def NishimuraOpsWrongFalsely : Prop := nishimuraOpsRow.holds Try.pinned (OpenSpec.ofChange nishimuraOpsWrong)

/-- 'dictumlaw26.NishimuraModels': WHATEVER THE INPUT: true; the input reads as it did. -/
def nishimuraModelsSpec : ChangeSpec := { name := "nishimuraModels", fn := fun _ => fun
  | [d1, d2] => { results := [.lit (.bool true)], args := [d1, d2] }
  | _ => none }
def nishimuraModelsRow : OpenClaim := { program := "ytobpfhmjdoekfaa", sum := "5fa149454a49169230f2781e5c6ba2230dedf6ff2357372ba49aaa2d5b354a91", func := "dictum/dictumlaw26.NishimuraModels", spec := "nishimuraModels", unfollowed := true, recurses := true, plainKeys := false, apart := false }
def NishimuraModelsSaid : Prop := nishimuraModelsRow.holds Try.pinned (OpenSpec.ofChange nishimuraModelsSpec)

/-- ITS FALSE NEIGHBOUR: 'it returns false'. Refute it at one input. -/
def nishimuraModelsWrong : ChangeSpec := { name := "nishimuraModels", fn := fun _ => fun
  | [d1, d2] => { results := [.lit (.bool false)], args := [d1, d2] }
  | _ => none }
def NishimuraModelsWrongFalsely : Prop := nishimuraModelsRow.holds Try.pinned (OpenSpec.ofChange nishimuraModelsWrong)

/-- 'dictumlaw26.NishimuraHeyting': WHATEVER THE INPUT: true; the input reads as it did. -/
def nishimuraHeytingSpec : ChangeSpec := { name := "nishimuraHeyting", fn := fun _ => fun
  | [d1, d2, d3] => { results := [.lit (.bool true)], args := [d1, d2, d3] }
  | _ => none }
def nishimuraHeytingRow : OpenClaim := { program := "ytobpfhmjdoekfaa", sum := "5fa149454a49169230f2781e5c6ba2230dedf6ff2357372ba49aaa2d5b354a91", func := "dictum/dictumlaw26.NishimuraHeyting", spec := "nishimuraHeyting", unfollowed := true, recurses := true, plainKeys := false, apart := false }
def NishimuraHeytingSaid : Prop := nishimuraHeytingRow.holds Try.pinned (OpenSpec.ofChange nishimuraHeytingSpec)

/-- ITS FALSE NEIGHBOUR: 'it returns false'. Refute it at one input. -/
def nishimuraHeytingWrong : ChangeSpec := { name := "nishimuraHeyting", fn := fun _ => fun
  | [d1, d2, d3] => { results := [.lit (.bool false)], args := [d1, d2, d3] }
  | _ => none }
def NishimuraHeytingWrongFalsely : Prop := nishimuraHeytingRow.holds Try.pinned (OpenSpec.ofChange nishimuraHeytingWrong)

/-- 'dictumlaw26.NishimuraNobody': WHATEVER THE INPUT: true; the input reads as it did. -/
def nishimuraNobodySpec : ChangeSpec := { name := "nishimuraNobody", fn := fun _ => fun
  | [d1, d2] => { results := [.lit (.bool true)], args := [d1, d2] }
  | _ => none }
def nishimuraNobodyRow : OpenClaim := { program := "ytobpfhmjdoekfaa", sum := "5fa149454a49169230f2781e5c6ba2230dedf6ff2357372ba49aaa2d5b354a91", func := "dictum/dictumlaw26.NishimuraNobody", spec := "nishimuraNobody", unfollowed := true, recurses := true, plainKeys := false, apart := false }
def NishimuraNobodySaid : Prop := nishimuraNobodyRow.holds Try.pinned (OpenSpec.ofChange nishimuraNobodySpec)

/-- ITS FALSE NEIGHBOUR: 'it returns false'. Refute it at one input. -/
def nishimuraNobodyWrong : ChangeSpec := { name := "nishimuraNobody", fn := fun _ => fun
  | [d1, d2] => { results := [.lit (.bool false)], args := [d1, d2] }
  | _ => none }
def NishimuraNobodyWrongFalsely : Prop := nishimuraNobodyRow.holds Try.pinned (OpenSpec.ofChange nishimuraNobodyWrong)

/- THE SECOND FORM. 'bulk': how many values and letters a reading holds, each counted each time it is reached (what is shared counts as often as it is met; a slice's spare places count too). A statement '..UptoSaid' is the law's where the arguments, and the package variables that the reading takes, are together of bulk at most 1048576: NARROWER than '..Said'. Prove '..Said' where nothing that the law and all that it calls make is longer than what came in: it says more and counts as full. Else prove '..UptoSaid'. A law counts once. -/
mutual
def uptoBulk {H : Type} : DataW H → Nat
  | .lit (.string bytes) => bytes.length + 1
  | .lit _ => 1
  | .nil => 1
  | .ptr d => uptoBulk d + 1
  | .slice elems spare => uptoBulkAll elems + uptoBulkAll spare + 1
  | .agg parts => uptoBulkAll parts + 1
  | .iface _ d => uptoBulk d + 1
  | .map entries => uptoBulkEntries entries + 1
  | .held _ => 1
def uptoBulkAll {H : Type} : List (DataW H) → Nat
  | [] => 0
  | d :: r => uptoBulk d + uptoBulkAll r
def uptoBulkEntries {H : Type} : List (Lit × DataW H) → Nat
  | [] => 0
  | x :: r => uptoBulkEntry x + uptoBulkEntries r
def uptoBulkEntry {H : Type} : Lit × DataW H → Nat
  | (.string bytes, d) => bytes.length + uptoBulk d + 1
  | (_, d) => uptoBulk d + 1
 end
def uptoSmall : (H : Type) → List (DataW H) → Bool := fun _ ds => decide (uptoBulkAll ds ≤ 1048576)
def OpenSpec.upto (s : _root_.Go.ChangeSpec) : _root_.Go.OpenSpec := { _root_.Go.OpenSpec.ofChange s with cond := some uptoSmall }

/-- 'dictumlaw26.NishimuraOps', WHERE WHAT IT READS IS OF BULK AT MOST 1048576: true; the input reads as it did. -/
def nishimuraOpsUptoRow : OpenClaim := { program := "ytobpfhmjdoekfaa", sum := "5fa149454a49169230f2781e5c6ba2230dedf6ff2357372ba49aaa2d5b354a91", func := "dictum/dictumlaw26.NishimuraOps", spec := "nishimuraOps", unfollowed := true, recurses := true, plainKeys := false, apart := false, narrowed := true }
def NishimuraOpsUptoSaid : Prop := nishimuraOpsUptoRow.holds Try.pinned (OpenSpec.upto nishimuraOpsSpec)

/-- 'dictumlaw26.NishimuraModels', WHERE WHAT IT READS IS OF BULK AT MOST 1048576: true; the input reads as it did. -/
def nishimuraModelsUptoRow : OpenClaim := { program := "ytobpfhmjdoekfaa", sum := "5fa149454a49169230f2781e5c6ba2230dedf6ff2357372ba49aaa2d5b354a91", func := "dictum/dictumlaw26.NishimuraModels", spec := "nishimuraModels", unfollowed := true, recurses := true, plainKeys := false, apart := false, narrowed := true }
def NishimuraModelsUptoSaid : Prop := nishimuraModelsUptoRow.holds Try.pinned (OpenSpec.upto nishimuraModelsSpec)

/-- 'dictumlaw26.NishimuraHeyting', WHERE WHAT IT READS IS OF BULK AT MOST 1048576: true; the input reads as it did. -/
def nishimuraHeytingUptoRow : OpenClaim := { program := "ytobpfhmjdoekfaa", sum := "5fa149454a49169230f2781e5c6ba2230dedf6ff2357372ba49aaa2d5b354a91", func := "dictum/dictumlaw26.NishimuraHeyting", spec := "nishimuraHeyting", unfollowed := true, recurses := true, plainKeys := false, apart := false, narrowed := true }
def NishimuraHeytingUptoSaid : Prop := nishimuraHeytingUptoRow.holds Try.pinned (OpenSpec.upto nishimuraHeytingSpec)

/-- 'dictumlaw26.NishimuraNobody', WHERE WHAT IT READS IS OF BULK AT MOST 1048576: true; the input reads as it did. -/
def nishimuraNobodyUptoRow : OpenClaim := { program := "ytobpfhmjdoekfaa", sum := "5fa149454a49169230f2781e5c6ba2230dedf6ff2357372ba49aaa2d5b354a91", func := "dictum/dictumlaw26.NishimuraNobody", spec := "nishimuraNobody", unfollowed := true, recurses := true, plainKeys := false, apart := false, narrowed := true }
def NishimuraNobodyUptoSaid : Prop := nishimuraNobodyUptoRow.holds Try.pinned (OpenSpec.upto nishimuraNobodySpec)

end Rows
end Go.Proofs.Ytobpfhmjdoekfaa

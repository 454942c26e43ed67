/-
  NARROWER THAN 'FOR EVERY INPUT', by the rows' own cells (each row's printed sentence says how): ForceHolds: laid · ForceFrames: laid · ForceClassic: laid · ForceDeduces: laid · ForceTells: laid · ForceStays: laid · ForceSteps: laid · ForceHilbert: laid · ForceRules: laid.
  DERIVED. THE GIVEN ROWS OF THIS SEAT. 9 by the template 'for every input the law returns true; each argument reads behind the call as it read before'; 0 by the template 'total and deterministic' (their statements: YtaopdcjjcpgebaaGreatDoorTotals.lean).
  GIVEN WITH THE SEED: the statements are not yours to turn. If you find one false, say at which input.
  Laid BY PROGRAM, IN A SANDBOX (cutbox-rows.mjs): the forced cells as the released guide's own fill.sh prints them over the translation 03eaeb4f2d1a109e… (all of the seat's roots in one cut). By AI agents, Wed Nov 11 2026. No macro, syntax, notation, axiom, sorry.
-/
import Derived.Test.YtaopdcjjcpgebaaGreatDoorChecked
import GoSem.Claim
import GoSem.ClaimJoined
import GoSem.ClaimMapViews
import Derived.JoinedTies
import Derived.KernelRfl
namespace Go.Proofs.YtaopdcjjcpgebaaGreatDoor
/- THE CELL 'sum', in the pinned program and in every row, IS THE sha256 OF THE DUMP (.gsa) THAT YtaopdcjjcpgebaaGreatDoorProg.lean LOADS. Nothing in Lean hashes anything: it is a label: what it is worth is what the hold of that sum in a sandbox is worth. -/
noncomputable def Tryz.pinned : Pinned := { name := "ytaopdcjjcpgebaagreatdoor", sum := "03eaeb4f2d1a109ed6928169f5f78c301ade99754ad0c934819822e342ac90e1", checked := Tryz.checked }
namespace Rows
def none {H : Type} : Left H := { results := [], args := [] }

/- WHAT THE LISTED PACKAGE-LEVEL VARIABLES READ AS WHEN THE CALL BEGINS. Each datum BY PROGRAM (the guide's laid-datum.mjs) off the statement by which the dump's own 'gosem.cut.vars' lays the variable. In a bare row this is a premise. The card (YtaopdcjjcpgebaaGreatDoorCards.lean) ties it to the program's text. -/
def laid_math_bits_deBruijn64tab {H : Type} : DataW H := .agg [.lit (.int .u8 0), .lit (.int .u8 1), .lit (.int .u8 56), .lit (.int .u8 2), .lit (.int .u8 57), .lit (.int .u8 49), .lit (.int .u8 28), .lit (.int .u8 3), .lit (.int .u8 61), .lit (.int .u8 58), .lit (.int .u8 42), .lit (.int .u8 50), .lit (.int .u8 38), .lit (.int .u8 29), .lit (.int .u8 17), .lit (.int .u8 4), .lit (.int .u8 62), .lit (.int .u8 47), .lit (.int .u8 59), .lit (.int .u8 36), .lit (.int .u8 45), .lit (.int .u8 43), .lit (.int .u8 51), .lit (.int .u8 22), .lit (.int .u8 53), .lit (.int .u8 39), .lit (.int .u8 33), .lit (.int .u8 30), .lit (.int .u8 24), .lit (.int .u8 18), .lit (.int .u8 12), .lit (.int .u8 5), .lit (.int .u8 63), .lit (.int .u8 55), .lit (.int .u8 48), .lit (.int .u8 27), .lit (.int .u8 60), .lit (.int .u8 41), .lit (.int .u8 37), .lit (.int .u8 16), .lit (.int .u8 46), .lit (.int .u8 35), .lit (.int .u8 44), .lit (.int .u8 21), .lit (.int .u8 52), .lit (.int .u8 32), .lit (.int .u8 23), .lit (.int .u8 11), .lit (.int .u8 54), .lit (.int .u8 26), .lit (.int .u8 40), .lit (.int .u8 15), .lit (.int .u8 34), .lit (.int .u8 20), .lit (.int .u8 31), .lit (.int .u8 10), .lit (.int .u8 25), .lit (.int .u8 14), .lit (.int .u8 19), .lit (.int .u8 9), .lit (.int .u8 13), .lit (.int .u8 8), .lit (.int .u8 7), .lit (.int .u8 6)]

/-- 'dictumlaw18.ForceHolds': WHATEVER THE INPUT: true; the input reads as it did. -/
def forceHoldsSpec : ChangeSpec := { name := "forceHolds", fn := fun _ => fun
  | [d1, d2, d3] => { results := [.lit (.bool true)], args := [d1, d2, d3] }
  | _ => none }
def forceHoldsRow : OpenClaim := { program := "ytaopdcjjcpgebaagreatdoor", sum := "03eaeb4f2d1a109ed6928169f5f78c301ade99754ad0c934819822e342ac90e1", func := "dictum/dictumlaw18.ForceHolds", spec := "forceHolds", unfollowed := true, recurses := true, named := ["math/bits.deBruijn64tab"], plainKeys := false, apart := false, laid := [("math/bits.deBruijn64tab", laid_math_bits_deBruijn64tab)] }
def ForceHoldsSaid : Prop := forceHoldsRow.holds Tryz.pinned (OpenSpec.ofChange forceHoldsSpec)

/-- ITS FALSE NEIGHBOUR: 'it returns false'. Refute it at one input. -/
def forceHoldsWrong : ChangeSpec := { name := "forceHolds", fn := fun _ => fun
  | [d1, d2, d3] => { results := [.lit (.bool false)], args := [d1, d2, d3] }
  | _ => none }
def ForceHoldsWrongFalsely : Prop := forceHoldsRow.holds Tryz.pinned (OpenSpec.ofChange forceHoldsWrong)

/-- 'dictumlaw18.ForceFrames': WHATEVER THE INPUT: true; the input reads as it did. -/
def forceFramesSpec : ChangeSpec := { name := "forceFrames", fn := fun _ => fun
  | [d1, d2, d3] => { results := [.lit (.bool true)], args := [d1, d2, d3] }
  | _ => none }
def forceFramesRow : OpenClaim := { program := "ytaopdcjjcpgebaagreatdoor", sum := "03eaeb4f2d1a109ed6928169f5f78c301ade99754ad0c934819822e342ac90e1", func := "dictum/dictumlaw18.ForceFrames", spec := "forceFrames", unfollowed := true, recurses := true, named := ["math/bits.deBruijn64tab"], plainKeys := false, apart := false, laid := [("math/bits.deBruijn64tab", laid_math_bits_deBruijn64tab)] }
def ForceFramesSaid : Prop := forceFramesRow.holds Tryz.pinned (OpenSpec.ofChange forceFramesSpec)

/-- ITS FALSE NEIGHBOUR: 'it returns false'. Refute it at one input. -/
def forceFramesWrong : ChangeSpec := { name := "forceFrames", fn := fun _ => fun
  | [d1, d2, d3] => { results := [.lit (.bool false)], args := [d1, d2, d3] }
  | _ => none }
def ForceFramesWrongFalsely : Prop := forceFramesRow.holds Tryz.pinned (OpenSpec.ofChange forceFramesWrong)

/-- 'dictumlaw18.ForceClassic': WHATEVER THE INPUT: true; the input reads as it did. -/
def forceClassicSpec : ChangeSpec := { name := "forceClassic", fn := fun _ => fun
  | [d1, d2, d3, d4] => { results := [.lit (.bool true)], args := [d1, d2, d3, d4] }
  | _ => none }
def forceClassicRow : OpenClaim := { program := "ytaopdcjjcpgebaagreatdoor", sum := "03eaeb4f2d1a109ed6928169f5f78c301ade99754ad0c934819822e342ac90e1", func := "dictum/dictumlaw18.ForceClassic", spec := "forceClassic", unfollowed := true, recurses := true, named := ["math/bits.deBruijn64tab"], plainKeys := false, apart := false, laid := [("math/bits.deBruijn64tab", laid_math_bits_deBruijn64tab)] }
def ForceClassicSaid : Prop := forceClassicRow.holds Tryz.pinned (OpenSpec.ofChange forceClassicSpec)

/-- ITS FALSE NEIGHBOUR: 'it returns false'. Refute it at one input. -/
def forceClassicWrong : ChangeSpec := { name := "forceClassic", fn := fun _ => fun
  | [d1, d2, d3, d4] => { results := [.lit (.bool false)], args := [d1, d2, d3, d4] }
  | _ => none }
def ForceClassicWrongFalsely : Prop := forceClassicRow.holds Tryz.pinned (OpenSpec.ofChange forceClassicWrong)

/-- 'dictumlaw18.ForceDeduces': WHATEVER THE INPUT: true; the input reads as it did. -/
def forceDeducesSpec : ChangeSpec := { name := "forceDeduces", fn := fun _ => fun
  | [d1, d2, d3, d4] => { results := [.lit (.bool true)], args := [d1, d2, d3, d4] }
  | _ => none }
def forceDeducesRow : OpenClaim := { program := "ytaopdcjjcpgebaagreatdoor", sum := "03eaeb4f2d1a109ed6928169f5f78c301ade99754ad0c934819822e342ac90e1", func := "dictum/dictumlaw18.ForceDeduces", spec := "forceDeduces", unfollowed := true, recurses := true, named := ["math/bits.deBruijn64tab"], plainKeys := false, apart := false, laid := [("math/bits.deBruijn64tab", laid_math_bits_deBruijn64tab)] }
def ForceDeducesSaid : Prop := forceDeducesRow.holds Tryz.pinned (OpenSpec.ofChange forceDeducesSpec)

/-- ITS FALSE NEIGHBOUR: 'it returns false'. Refute it at one input. -/
def forceDeducesWrong : ChangeSpec := { name := "forceDeduces", fn := fun _ => fun
  | [d1, d2, d3, d4] => { results := [.lit (.bool false)], args := [d1, d2, d3, d4] }
  | _ => none }
def ForceDeducesWrongFalsely : Prop := forceDeducesRow.holds Tryz.pinned (OpenSpec.ofChange forceDeducesWrong)

/-- 'dictumlaw18.ForceTells': WHATEVER THE INPUT: true; the input reads as it did. -/
def forceTellsSpec : ChangeSpec := { name := "forceTells", fn := fun _ => fun
  | [d1, d2, d3, d4] => { results := [.lit (.bool true)], args := [d1, d2, d3, d4] }
  | _ => none }
def forceTellsRow : OpenClaim := { program := "ytaopdcjjcpgebaagreatdoor", sum := "03eaeb4f2d1a109ed6928169f5f78c301ade99754ad0c934819822e342ac90e1", func := "dictum/dictumlaw18.ForceTells", spec := "forceTells", unfollowed := true, recurses := true, named := ["math/bits.deBruijn64tab"], plainKeys := false, apart := false, laid := [("math/bits.deBruijn64tab", laid_math_bits_deBruijn64tab)] }
def ForceTellsSaid : Prop := forceTellsRow.holds Tryz.pinned (OpenSpec.ofChange forceTellsSpec)

/-- ITS FALSE NEIGHBOUR: 'it returns false'. Refute it at one input. -/
def forceTellsWrong : ChangeSpec := { name := "forceTells", fn := fun _ => fun
  | [d1, d2, d3, d4] => { results := [.lit (.bool false)], args := [d1, d2, d3, d4] }
  | _ => none }
def ForceTellsWrongFalsely : Prop := forceTellsRow.holds Tryz.pinned (OpenSpec.ofChange forceTellsWrong)

/-- 'dictumlaw18.ForceStays': WHATEVER THE INPUT: true; the input reads as it did. -/
def forceStaysSpec : ChangeSpec := { name := "forceStays", fn := fun _ => fun
  | [d1, d2, d3] => { results := [.lit (.bool true)], args := [d1, d2, d3] }
  | _ => none }
def forceStaysRow : OpenClaim := { program := "ytaopdcjjcpgebaagreatdoor", sum := "03eaeb4f2d1a109ed6928169f5f78c301ade99754ad0c934819822e342ac90e1", func := "dictum/dictumlaw18.ForceStays", spec := "forceStays", unfollowed := true, recurses := true, named := ["math/bits.deBruijn64tab"], plainKeys := false, apart := false, laid := [("math/bits.deBruijn64tab", laid_math_bits_deBruijn64tab)] }
def ForceStaysSaid : Prop := forceStaysRow.holds Tryz.pinned (OpenSpec.ofChange forceStaysSpec)

/-- ITS FALSE NEIGHBOUR: 'it returns false'. Refute it at one input. -/
def forceStaysWrong : ChangeSpec := { name := "forceStays", fn := fun _ => fun
  | [d1, d2, d3] => { results := [.lit (.bool false)], args := [d1, d2, d3] }
  | _ => none }
def ForceStaysWrongFalsely : Prop := forceStaysRow.holds Tryz.pinned (OpenSpec.ofChange forceStaysWrong)

/-- 'dictumlaw18.ForceSteps': WHATEVER THE INPUT: true; the input reads as it did. -/
def forceStepsSpec : ChangeSpec := { name := "forceSteps", fn := fun _ => fun
  | [d1, d2, d3, d4] => { results := [.lit (.bool true)], args := [d1, d2, d3, d4] }
  | _ => none }
def forceStepsRow : OpenClaim := { program := "ytaopdcjjcpgebaagreatdoor", sum := "03eaeb4f2d1a109ed6928169f5f78c301ade99754ad0c934819822e342ac90e1", func := "dictum/dictumlaw18.ForceSteps", spec := "forceSteps", unfollowed := true, recurses := true, named := ["math/bits.deBruijn64tab"], plainKeys := false, apart := false, laid := [("math/bits.deBruijn64tab", laid_math_bits_deBruijn64tab)] }
def ForceStepsSaid : Prop := forceStepsRow.holds Tryz.pinned (OpenSpec.ofChange forceStepsSpec)

/-- ITS FALSE NEIGHBOUR: 'it returns false'. Refute it at one input. -/
def forceStepsWrong : ChangeSpec := { name := "forceSteps", fn := fun _ => fun
  | [d1, d2, d3, d4] => { results := [.lit (.bool false)], args := [d1, d2, d3, d4] }
  | _ => none }
def ForceStepsWrongFalsely : Prop := forceStepsRow.holds Tryz.pinned (OpenSpec.ofChange forceStepsWrong)

/-- 'dictumlaw18.ForceHilbert': WHATEVER THE INPUT: true; the input reads as it did. -/
def forceHilbertSpec : ChangeSpec := { name := "forceHilbert", fn := fun _ => fun
  | [d1, d2, d3, d4] => { results := [.lit (.bool true)], args := [d1, d2, d3, d4] }
  | _ => none }
def forceHilbertRow : OpenClaim := { program := "ytaopdcjjcpgebaagreatdoor", sum := "03eaeb4f2d1a109ed6928169f5f78c301ade99754ad0c934819822e342ac90e1", func := "dictum/dictumlaw18.ForceHilbert", spec := "forceHilbert", unfollowed := true, recurses := true, named := ["math/bits.deBruijn64tab"], plainKeys := false, apart := false, laid := [("math/bits.deBruijn64tab", laid_math_bits_deBruijn64tab)] }
def ForceHilbertSaid : Prop := forceHilbertRow.holds Tryz.pinned (OpenSpec.ofChange forceHilbertSpec)

/-- ITS FALSE NEIGHBOUR: 'it returns false'. Refute it at one input. -/
def forceHilbertWrong : ChangeSpec := { name := "forceHilbert", fn := fun _ => fun
  | [d1, d2, d3, d4] => { results := [.lit (.bool false)], args := [d1, d2, d3, d4] }
  | _ => none }
def ForceHilbertWrongFalsely : Prop := forceHilbertRow.holds Tryz.pinned (OpenSpec.ofChange forceHilbertWrong)

/-- 'dictumlaw18.ForceRules': WHATEVER THE INPUT: true; the input reads as it did. -/
def forceRulesSpec : ChangeSpec := { name := "forceRules", fn := fun _ => fun
  | [d1, d2, d3, d4, d5] => { results := [.lit (.bool true)], args := [d1, d2, d3, d4, d5] }
  | _ => none }
def forceRulesRow : OpenClaim := { program := "ytaopdcjjcpgebaagreatdoor", sum := "03eaeb4f2d1a109ed6928169f5f78c301ade99754ad0c934819822e342ac90e1", func := "dictum/dictumlaw18.ForceRules", spec := "forceRules", unfollowed := true, recurses := true, named := ["math/bits.deBruijn64tab"], plainKeys := false, apart := false, laid := [("math/bits.deBruijn64tab", laid_math_bits_deBruijn64tab)] }
def ForceRulesSaid : Prop := forceRulesRow.holds Tryz.pinned (OpenSpec.ofChange forceRulesSpec)

/-- ITS FALSE NEIGHBOUR: 'it returns false'. Refute it at one input. -/
def forceRulesWrong : ChangeSpec := { name := "forceRules", fn := fun _ => fun
  | [d1, d2, d3, d4, d5] => { results := [.lit (.bool false)], args := [d1, d2, d3, d4, d5] }
  | _ => none }
def ForceRulesWrongFalsely : Prop := forceRulesRow.holds Tryz.pinned (OpenSpec.ofChange forceRulesWrong)

/- THE SECOND FORM. 'bulk': how many values and letters a reading holds, each counted each time it is reached (what is shared counts as often as it is met; a slice's spare places count too). A statement '..UptoSaid' is the law's where the arguments, and the package variables that the reading takes, are together of bulk at most 1048576: NARROWER than '..Said'. Prove '..Said' where nothing that the law and all that it calls make is longer than what came in: it says more and counts as full. Else prove '..UptoSaid'. A law counts once. -/
mutual
def uptoBulk {H : Type} : DataW H → Nat
  | .lit (.string bytes) => bytes.length + 1
  | .lit _ => 1
  | .nil => 1
  | .ptr d => uptoBulk d + 1
  | .slice elems spare => uptoBulkAll elems + uptoBulkAll spare + 1
  | .agg parts => uptoBulkAll parts + 1
  | .iface _ d => uptoBulk d + 1
  | .map entries => uptoBulkEntries entries + 1
  | .held _ => 1
def uptoBulkAll {H : Type} : List (DataW H) → Nat
  | [] => 0
  | d :: r => uptoBulk d + uptoBulkAll r
def uptoBulkEntries {H : Type} : List (Lit × DataW H) → Nat
  | [] => 0
  | x :: r => uptoBulkEntry x + uptoBulkEntries r
def uptoBulkEntry {H : Type} : Lit × DataW H → Nat
  | (.string bytes, d) => bytes.length + uptoBulk d + 1
  | (_, d) => uptoBulk d + 1
 end
def uptoSmall : (H : Type) → List (DataW H) → Bool := fun _ ds => decide (uptoBulkAll ds ≤ 1048576)
def OpenSpec.upto (s : _root_.Go.ChangeSpec) : _root_.Go.OpenSpec := { _root_.Go.OpenSpec.ofChange s with cond := some uptoSmall }

/-- 'dictumlaw18.ForceHolds', WHERE WHAT IT READS IS OF BULK AT MOST 1048576: true; the input reads as it did. -/
def forceHoldsUptoRow : OpenClaim := { program := "ytaopdcjjcpgebaagreatdoor", sum := "03eaeb4f2d1a109ed6928169f5f78c301ade99754ad0c934819822e342ac90e1", func := "dictum/dictumlaw18.ForceHolds", spec := "forceHolds", unfollowed := true, recurses := true, named := ["math/bits.deBruijn64tab"], plainKeys := false, apart := false, laid := [("math/bits.deBruijn64tab", laid_math_bits_deBruijn64tab)], narrowed := true }
def ForceHoldsUptoSaid : Prop := forceHoldsUptoRow.holds Tryz.pinned (OpenSpec.upto forceHoldsSpec)

/-- 'dictumlaw18.ForceFrames', WHERE WHAT IT READS IS OF BULK AT MOST 1048576: true; the input reads as it did. -/
def forceFramesUptoRow : OpenClaim := { program := "ytaopdcjjcpgebaagreatdoor", sum := "03eaeb4f2d1a109ed6928169f5f78c301ade99754ad0c934819822e342ac90e1", func := "dictum/dictumlaw18.ForceFrames", spec := "forceFrames", unfollowed := true, recurses := true, named := ["math/bits.deBruijn64tab"], plainKeys := false, apart := false, laid := [("math/bits.deBruijn64tab", laid_math_bits_deBruijn64tab)], narrowed := true }
def ForceFramesUptoSaid : Prop := forceFramesUptoRow.holds Tryz.pinned (OpenSpec.upto forceFramesSpec)

/-- 'dictumlaw18.ForceClassic', WHERE WHAT IT READS IS OF BULK AT MOST 1048576: true; the input reads as it did. -/
def forceClassicUptoRow : OpenClaim := { program := "ytaopdcjjcpgebaagreatdoor", sum := "03eaeb4f2d1a109ed6928169f5f78c301ade99754ad0c934819822e342ac90e1", func := "dictum/dictumlaw18.ForceClassic", spec := "forceClassic", unfollowed := true, recurses := true, named := ["math/bits.deBruijn64tab"], plainKeys := false, apart := false, laid := [("math/bits.deBruijn64tab", laid_math_bits_deBruijn64tab)], narrowed := true }
def ForceClassicUptoSaid : Prop := forceClassicUptoRow.holds Tryz.pinned (OpenSpec.upto forceClassicSpec)

/-- 'dictumlaw18.ForceDeduces', WHERE WHAT IT READS IS OF BULK AT MOST 1048576: true; the input reads as it did. -/
def forceDeducesUptoRow : OpenClaim := { program := "ytaopdcjjcpgebaagreatdoor", sum := "03eaeb4f2d1a109ed6928169f5f78c301ade99754ad0c934819822e342ac90e1", func := "dictum/dictumlaw18.ForceDeduces", spec := "forceDeduces", unfollowed := true, recurses := true, named := ["math/bits.deBruijn64tab"], plainKeys := false, apart := false, laid := [("math/bits.deBruijn64tab", laid_math_bits_deBruijn64tab)], narrowed := true }
def ForceDeducesUptoSaid : Prop := forceDeducesUptoRow.holds Tryz.pinned (OpenSpec.upto forceDeducesSpec)

/-- 'dictumlaw18.ForceTells', WHERE WHAT IT READS IS OF BULK AT MOST 1048576: true; the input reads as it did. -/
def forceTellsUptoRow : OpenClaim := { program := "ytaopdcjjcpgebaagreatdoor", sum := "03eaeb4f2d1a109ed6928169f5f78c301ade99754ad0c934819822e342ac90e1", func := "dictum/dictumlaw18.ForceTells", spec := "forceTells", unfollowed := true, recurses := true, named := ["math/bits.deBruijn64tab"], plainKeys := false, apart := false, laid := [("math/bits.deBruijn64tab", laid_math_bits_deBruijn64tab)], narrowed := true }
def ForceTellsUptoSaid : Prop := forceTellsUptoRow.holds Tryz.pinned (OpenSpec.upto forceTellsSpec)

/-- 'dictumlaw18.ForceStays', WHERE WHAT IT READS IS OF BULK AT MOST 1048576: true; the input reads as it did. -/
def forceStaysUptoRow : OpenClaim := { program := "ytaopdcjjcpgebaagreatdoor", sum := "03eaeb4f2d1a109ed6928169f5f78c301ade99754ad0c934819822e342ac90e1", func := "dictum/dictumlaw18.ForceStays", spec := "forceStays", unfollowed := true, recurses := true, named := ["math/bits.deBruijn64tab"], plainKeys := false, apart := false, laid := [("math/bits.deBruijn64tab", laid_math_bits_deBruijn64tab)], narrowed := true }
def ForceStaysUptoSaid : Prop := forceStaysUptoRow.holds Tryz.pinned (OpenSpec.upto forceStaysSpec)

/-- 'dictumlaw18.ForceSteps', WHERE WHAT IT READS IS OF BULK AT MOST 1048576: true; the input reads as it did. -/
def forceStepsUptoRow : OpenClaim := { program := "ytaopdcjjcpgebaagreatdoor", sum := "03eaeb4f2d1a109ed6928169f5f78c301ade99754ad0c934819822e342ac90e1", func := "dictum/dictumlaw18.ForceSteps", spec := "forceSteps", unfollowed := true, recurses := true, named := ["math/bits.deBruijn64tab"], plainKeys := false, apart := false, laid := [("math/bits.deBruijn64tab", laid_math_bits_deBruijn64tab)], narrowed := true }
def ForceStepsUptoSaid : Prop := forceStepsUptoRow.holds Tryz.pinned (OpenSpec.upto forceStepsSpec)

/-- 'dictumlaw18.ForceHilbert', WHERE WHAT IT READS IS OF BULK AT MOST 1048576: true; the input reads as it did. -/
def forceHilbertUptoRow : OpenClaim := { program := "ytaopdcjjcpgebaagreatdoor", sum := "03eaeb4f2d1a109ed6928169f5f78c301ade99754ad0c934819822e342ac90e1", func := "dictum/dictumlaw18.ForceHilbert", spec := "forceHilbert", unfollowed := true, recurses := true, named := ["math/bits.deBruijn64tab"], plainKeys := false, apart := false, laid := [("math/bits.deBruijn64tab", laid_math_bits_deBruijn64tab)], narrowed := true }
def ForceHilbertUptoSaid : Prop := forceHilbertUptoRow.holds Tryz.pinned (OpenSpec.upto forceHilbertSpec)

/-- 'dictumlaw18.ForceRules', WHERE WHAT IT READS IS OF BULK AT MOST 1048576: true; the input reads as it did. -/
def forceRulesUptoRow : OpenClaim := { program := "ytaopdcjjcpgebaagreatdoor", sum := "03eaeb4f2d1a109ed6928169f5f78c301ade99754ad0c934819822e342ac90e1", func := "dictum/dictumlaw18.ForceRules", spec := "forceRules", unfollowed := true, recurses := true, named := ["math/bits.deBruijn64tab"], plainKeys := false, apart := false, laid := [("math/bits.deBruijn64tab", laid_math_bits_deBruijn64tab)], narrowed := true }
def ForceRulesUptoSaid : Prop := forceRulesUptoRow.holds Tryz.pinned (OpenSpec.upto forceRulesSpec)

end Rows
end Go.Proofs.YtaopdcjjcpgebaaGreatDoor

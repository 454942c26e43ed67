/- The library's sort of a slice of whole numbers, as a contract over abstract memory. No condition: laws over any program in which the library's text is laid. -/
import Derived.Test.YtljglglbfcgjpaaGreatM5
import Derived.LoopN
import Derived.Shelf.Sort.Plain

set_option linter.unusedVariables false
set_option linter.unusedSimpArgs false

namespace Go.Sym
open Go Go.Shelf Go.Sort Go.Proofs Go.RowKit
variable [Nam]
section
variable {P : Program} {κ : Ghost} {h : Heap} {w : World}
theorem RelH.more (H : RelH κ h w) {w' : World} (hs : ∀ b, b < w.heap.size → w'.heap[b]? = w.heap[b]?) (h1 : w'.os = w.os) (h2 : w'.tape = w.tape) (h3 : w'.output = w.output) (h4 : w.drawn ≤ w'.drawn) : RelH κ h w' := by
  refine ⟨⟨fun b o hb => ?_, fun r o hr => ?_, H.sep, H.fin, ?_, ?_, ?_, ?_, H.mks⟩, H.nam, H.glob⟩
  · have := H.imm b o hb
    rw [hs b (Array.getElem?_eq_some_iff.1 this).1]
    exact this
  · obtain ⟨L, a, b, c⟩ := H.obj r o hr
    exact ⟨L, a, b, c.congr (hs _ c.lt)⟩
  · rw [h1]; exact H.os
  · rw [h2]; exact H.tape
  · rw [h3]; exact H.output
  · exact Nat.le_trans H.drawn h4
end
end Go.Sym

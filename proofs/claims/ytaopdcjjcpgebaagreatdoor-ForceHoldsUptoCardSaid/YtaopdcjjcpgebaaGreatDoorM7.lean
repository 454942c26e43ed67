/- The library's sort of a slice of texts, as a contract over abstract memory. No condition: laws over any program in which the library's text is laid. -/
import Derived.Test.YtaopdcjjcpgebaaGreatDoorM6
import Derived.Shelf.Sort.Plain

set_option linter.unusedVariables false
set_option linter.unusedSimpArgs false

namespace Go.Sym
open Go Go.Shelf Go.Sort Go.Proofs Go.RowKit
variable [Nam]
section
variable {P : Program} {κ : Ghost} {h : Heap} {w : World}
omit [Nam] in
theorem relEl_str {l : List ByteArray} : ∀ {X : List Value}, RelEl κ 1 (l.map .str) X → ∀ j (hj : j < l.length), X[j]? = some (.string l[j]) := by
  induction l with
  | nil => intro X _ j hj; simp at hj
  | cons z l ih =>
    intro X hx j hj
    cases hx with
    | cons hl hc hs =>
      rename_i xs ys
      cases hc with
      | one hv hr =>
        cases hr
        cases j with
        | zero => rfl
        | succ j => simpa using ih hs j (by simpa using hj)
omit [Nam] in
theorem relEl_of_str {l : List ByteArray} : ∀ {X : List Value}, (∀ j (hj : j < l.length), X[j]? = some (.string l[j])) → RelEl κ 1 (l.map .str) X := by
  induction l with
  | nil => intro X _; exact .nil
  | cons z l ih =>
    intro X hx
    cases X with
    | nil => have := hx 0 (by simp); simp at this
    | cons x X =>
      have h0 := hx 0 (by simp)
      simp only [List.getElem?_cons_zero, List.getElem_cons_zero, Option.some.injEq] at h0
      subst h0
      exact .cons (xs := [_]) rfl (.one rfl (.str _)) (ih fun j hj => by
        have := hx (j + 1) (by simpa using hj)
        rw [List.getElem?_cons_succ] at this
        rw [this]
        rfl)
def bsL (s : ByteArray) : List UInt8 := s.data.toList
omit [Nam] in
theorem enc_bs (s : ByteArray) : encStr (bsL s) = .string s := by
  cases s
  simp [encStr, bsL]
def sortS (l : List ByteArray) : List ByteArray := ((l.map bsL).mergeSort fun x y => decide (x ≤ y)).map fun b => ⟨b.toArray⟩
theorem sortS_ok {ρ : Ren} (Ly : Lays.n190 P ρ) (hok : okF P (ρ.f 190) = true) {q : Nat} {l : List ByteArray} {K : AVal → Heap → Prop} (hl : 0 < l.length) (hsz : l.length < 4611686018427387904) (hq : h q = some (.row 1 (l.map .str)))
    (hk : K (.tuple []) (h.set q (.row 1 ((sortS l).map .str)))) : ACalls P (ρ.f 190) [.sl q 1 0 l.length] h K := by
  refine ⟨hok, fun κ xs w hx H => ?_⟩
  cases hx with
  | cons ha hr =>
  cases hr
  cases ha with
  | @sl _ _ _ _ L x' hL hes hle hm hxx =>
  obtain ⟨L2, e1, ho, h1, h2, C, e, fz, h3, h4, h5, h6, h7, h8, h9⟩ := H.obj _ _ hq
  rw [hL] at e1; cases e1
  simp only [List.length_map] at h6
  have hx0 : x' = L.base := by
    rcases hxx with e | e
    · rw [e]; simp
    · omega
  subst hx0
  have hcells := relEl_str h9
  have hlen : (sortS l).length = l.length := by simp [sortS]
  have hblk : L.b < w.heap.size := (Array.getElem?_eq_some_iff.1 h3).1
  have hC : ∀ j (hj : j < l.length), C[L.base + j]? = some (.string l[j]) := fun j hj => by
    have := hcells j hj
    rw [List.getElem?_drop] at this
    simpa using this
  have hH : Holds encStr w L.b L.base (l.map bsL).toArray := by
    intro j hj
    have hj : j < l.length := by simpa using hj
    refine ⟨?_, ?_⟩
    · simp only [World.cell?, h3]
      rw [hC j hj, show (l.map bsL).toArray[j]! = bsL l[j] by simp [hj], enc_bs]
      rfl
    · simp only [World.frozen?, h3]
      have hb : L.base + j < C.size := (Array.getElem?_eq_some_iff.1 (hC j hj)).1
      simp
      omega
  have hl2 : (l.map bsL).length = l.length := List.length_map _
  have harg : (Value.slice (some ⟨L.b, L.base, none⟩) l.length (L.cap - 0)) = .slice (some ⟨L.b, L.base, none⟩) (l.map bsL).length (L.cap - 0) := by rw [hl2]
  rw [harg]
  refine (Any.slices_Sort_string Ly L.b L.base (L.cap - 0) (l.map bsL) w hH hblk (by simpa using hsz)).mono ?_
  rintro ex w' ⟨rfl, n, os, rfl⟩
  have Hg : RelH κ h (grow (Sort.ahead w n) os) := H.more (fun b hb => by simp [grow, Sort.ahead, Array.getElem?_append, hb]) rfl rfl rfl (by simp [grow, Sort.ahead])
  refine ⟨_, κ, .tuple [], _, rfl, Ghost.Le.refl κ, Hg.write hq rfl hL (fun b hb => ?_) rfl rfl rfl (Nat.le_refl _) (o' := .row 1 ((sortS l).map .str)) ⟨hes, by omega, Go.Sort.putCells encStr L.base (((l.map bsL).mergeSort fun x y => decide (x ≤ y))).toArray C, e, fz, ?_, ?_, ?_, ?_, hm, ?_, ?_⟩, .tuple (xs := []) .nil, hk⟩
  · simp only [grow, putRow, mapBlock, Sort.ahead, Array.getElem?_append, Array.size_modify, Array.getElem?_modify]
    rw [if_neg (Ne.symm hb)]
  · simp only [grow, putRow, mapBlock, Sort.ahead, Array.getElem?_append, Array.size_modify, Array.getElem?_modify]
    rw [if_pos hblk, if_pos trivial, h3]
    rfl
  · simpa [Go.Sort.putCells] using h4
  · simpa [Go.Sort.putCells] using h5
  · simp; omega
  · intro c hc
    have hc : c ∈ Go.Sort.putCells encStr L.base (((l.map bsL).mergeSort fun x y => decide (x ≤ y))).toArray C := by simpa using hc
    unfold Go.Sort.putCells at hc
    rw [Array.mem_mapIdx] at hc
    obtain ⟨i, hi, rfl⟩ := hc
    split
    · rfl
    · exact h8 _ (by simp)
  · refine relEl_of_str fun j hj => ?_
    have hj' : j < l.length := by omega
    have hb : L.base + j < C.size := (Array.getElem?_eq_some_iff.1 (hC j hj')).1
    rw [List.getElem?_drop]
    simp only [Go.Sort.putCells, Array.getElem?_toList, Array.getElem?_mapIdx, Array.getElem?_eq_getElem hb, Option.map_some, List.size_toArray]
    have hms : ((l.map bsL).mergeSort fun x y => decide (x ≤ y)).length = l.length := by simp
    rw [if_pos (by omega)]
    have e1 : L.base + j - L.base = j := by omega
    rw [e1]
    simp only [encStr, sortS, List.getElem_map]
    rw [show ((l.map bsL).mergeSort fun x y => decide (x ≤ y)).toArray[j]! = ((l.map bsL).mergeSort fun x y => decide (x ≤ y))[j]'(by omega) by simp [hms, hj']]
end
end Go.Sym

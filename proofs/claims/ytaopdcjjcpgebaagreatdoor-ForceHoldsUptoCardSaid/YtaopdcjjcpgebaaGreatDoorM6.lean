/- The library's sort of a slice of whole numbers, as a contract over abstract memory. No condition: laws over any program in which the library's text is laid. -/
import Derived.Test.YtaopdcjjcpgebaaGreatDoorM5
import Derived.LoopN
import Derived.Shelf.Sort.Plain

set_option linter.unusedVariables false
set_option linter.unusedSimpArgs false

namespace Go.Sym
open Go Go.Shelf Go.Sort Go.Proofs Go.RowKit
variable [Nam]
section
variable {P : Program} {κ : Ghost} {h : Heap} {w : World}
omit [Nam] in
theorem relEl_int {l : List Int} : ∀ {X : List Value}, RelEl κ 1 (l.map (.int .i64)) X → ∀ j (hj : j < l.length), X[j]? = some (.int .i64 l[j]) := by
  induction l with
  | nil => intro X _ j hj; simp at hj
  | cons z l ih =>
    intro X hx j hj
    cases hx with
    | cons hl hc hs =>
      rename_i xs ys
      cases hc with
      | one hv hr =>
        cases hr
        cases j with
        | zero => rfl
        | succ j => simpa using ih hs j (by simpa using hj)
omit [Nam] in
theorem relEl_of_int {l : List Int} : ∀ {X : List Value}, (∀ j (hj : j < l.length), X[j]? = some (.int .i64 l[j])) → RelEl κ 1 (l.map (.int .i64)) X := by
  induction l with
  | nil => intro X _; exact .nil
  | cons z l ih =>
    intro X hx
    cases X with
    | nil => have := hx 0 (by simp); simp at this
    | cons x X =>
      have h0 := hx 0 (by simp)
      simp only [List.getElem?_cons_zero, List.getElem_cons_zero, Option.some.injEq] at h0
      subst h0
      exact .cons (xs := [_]) rfl (.one rfl (.int ..)) (ih fun j hj => by
        have := hx (j + 1) (by simpa using hj)
        rw [List.getElem?_cons_succ] at this
        rw [this]
        rfl)
theorem RelH.more (H : RelH κ h w) {w' : World} (hs : ∀ b, b < w.heap.size → w'.heap[b]? = w.heap[b]?) (h1 : w'.os = w.os) (h2 : w'.tape = w.tape) (h3 : w'.output = w.output) (h4 : w.drawn ≤ w'.drawn) : RelH κ h w' := by
  refine ⟨⟨fun b o hb => ?_, fun r o hr => ?_, H.sep, H.fin, ?_, ?_, ?_, ?_, H.mks⟩, H.nam, H.glob⟩
  · have := H.imm b o hb
    rw [hs b (Array.getElem?_eq_some_iff.1 this).1]
    exact this
  · obtain ⟨L, a, b, c⟩ := H.obj r o hr
    exact ⟨L, a, b, c.congr (hs _ c.lt)⟩
  · rw [h1]; exact H.os
  · rw [h2]; exact H.tape
  · rw [h3]; exact H.output
  · exact Nat.le_trans H.drawn h4
def sortI (l : List Int) : List Int := l.mergeSort fun x y => decide (x ≤ y)
theorem sortI_ok {ρ : Ren} (Ly : Lays.n189 P ρ) (hok : okF P (ρ.f 189) = true) {q : Nat} {l : List Int} {K : AVal → Heap → Prop} (hl : 0 < l.length) (hsz : l.length < 4611686018427387904) (hq : h q = some (.row 1 (l.map (.int .i64))))
    (hk : K (.tuple []) (h.set q (.row 1 ((sortI l).map (.int .i64))))) : ACalls P (ρ.f 189) [.sl q 1 0 l.length] h K := by
  refine ⟨hok, fun κ xs w hx H => ?_⟩
  cases hx with
  | cons ha hr =>
  cases hr
  cases ha with
  | @sl _ _ _ _ L x' hL hes hle hm hxx =>
  obtain ⟨L2, e1, ho, h1, h2, C, e, fz, h3, h4, h5, h6, h7, h8, h9⟩ := H.obj _ _ hq
  rw [hL] at e1; cases e1
  simp only [List.length_map] at h6
  have hx0 : x' = L.base := by
    rcases hxx with e | e
    · rw [e]; simp
    · omega
  subst hx0
  have hcells := relEl_int h9
  have hlen : (sortI l).length = l.length := List.length_mergeSort _
  have hblk : L.b < w.heap.size := (Array.getElem?_eq_some_iff.1 h3).1
  have hC : ∀ j (hj : j < l.length), C[L.base + j]? = some (.int .i64 l[j]) := fun j hj => by
    have := hcells j hj
    rw [List.getElem?_drop] at this
    simpa using this
  have hH : Holds (Value.int .i64) w L.b L.base l.toArray := by
    intro j hj
    have hj : j < l.length := by simpa using hj
    refine ⟨?_, ?_⟩
    · simp only [World.cell?, h3]
      rw [hC j hj]
      simp [hj]
    · simp only [World.frozen?, h3]
      have hb : L.base + j < C.size := (Array.getElem?_eq_some_iff.1 (hC j hj)).1
      simp
      omega
  refine (Any.slices_Sort_int Ly L.b L.base (L.cap - 0) l w hH hblk hsz).mono ?_
  rintro ex w' ⟨rfl, n, os, rfl⟩
  have Hg : RelH κ h (grow (Sort.ahead w n) os) := H.more (fun b hb => by simp [grow, Sort.ahead, Array.getElem?_append, hb]) rfl rfl rfl (by simp [grow, Sort.ahead])
  refine ⟨_, κ, .tuple [], _, rfl, Ghost.Le.refl κ, Hg.write hq rfl hL (fun b hb => ?_) rfl rfl rfl (Nat.le_refl _) (o' := .row 1 ((sortI l).map (.int .i64))) ⟨hes, by omega, Go.Sort.putCells (Value.int .i64) L.base (sortI l).toArray C, e, fz, ?_, ?_, ?_, ?_, hm, ?_, ?_⟩, .tuple (xs := []) .nil, hk⟩
  · simp only [grow, putRow, mapBlock, Sort.ahead, Array.getElem?_append, Array.size_modify, Array.getElem?_modify]
    rw [if_neg (Ne.symm hb)]
  · simp only [grow, putRow, mapBlock, Sort.ahead, Array.getElem?_append, Array.size_modify, Array.getElem?_modify]
    rw [if_pos hblk, if_pos trivial, h3]
    rfl
  · simpa [Go.Sort.putCells] using h4
  · simpa [Go.Sort.putCells] using h5
  · simp; omega
  · intro c hc
    have hc : c ∈ Go.Sort.putCells (Value.int .i64) L.base (sortI l).toArray C := by simpa using hc
    unfold Go.Sort.putCells at hc
    rw [Array.mem_mapIdx] at hc
    obtain ⟨i, hi, rfl⟩ := hc
    split
    · rfl
    · exact h8 _ (by simp)
  · refine relEl_of_int fun j hj => ?_
    have hj' : j < l.length := by omega
    have hb : L.base + j < C.size := (Array.getElem?_eq_some_iff.1 (hC j hj')).1
    rw [List.getElem?_drop]
    simp only [Go.Sort.putCells, Array.getElem?_toList, Array.getElem?_mapIdx, Array.getElem?_eq_getElem hb, Option.map_some, List.size_toArray]
    rw [if_pos (by omega)]
    simp [hj]
end
omit [Nam] in
theorem sortI_sorted (l : List Int) : (sortI l).Pairwise (· ≤ ·) := by
  have := List.pairwise_mergeSort (le := fun x y : Int => decide (x ≤ y)) (fun a b c h1 h2 => by simp at *; omega) (fun a b => by simp; omega) l
  exact this.imp fun h => by simpa using h
omit [Nam] in
theorem sortI_perm (l : List Int) : (sortI l).Perm l := List.mergeSort_perm _ _
omit [Nam] in
theorem sorted_unique {l k : List Int} (hp : l.Perm k) (hl : l.Pairwise (· ≤ ·)) (hk : k.Pairwise (· ≤ ·)) : l = k :=
  hp.eq_of_pairwise (fun a b _ _ h1 h2 => by omega) hl hk
end Go.Sym

/- Plain: an order given by a table: meetings, joinings, what implies; the answer by search and the answer by a running best are one. No condition. Contracts: the program's best element, meeting, joining, implying, bounds, order. No condition. Contracts: the program's tables of an algebra, its look, and what it answers of elements. No condition. Plain: a map as a set; a measure. No condition. Contracts: who is above whom, by the program (worlds). No condition. Contracts: which models are well-formed, by the program (worlds). No condition. Contracts: the worlds of which something holds. No condition. Printed by layg.py (this repo, wip/tools): where the library's functions stand in the given program. No condition. Contracts: sets of worlds as texts of bytes 0 and 1: joined, compare, the sort. No condition. Contracts: the program's look at an algebra; Check, Meet, Join, Imp, Bounds, Boolean. No condition. Contracts: the program's up-sets of a model. No condition. Contracts: copies of an algebra; the same algebra. No condition. Contracts: the program's Ups and Chain. No condition. -/
import Derived.Test.YtljglglbfcgjpaaGreatM5
import Derived.Test.YtljglglbfcgjpaaGreatA1
import Derived.Shelf.SlSortCmp.NoneTotal
import Derived.Test.YtljglglbfcgjpaaGreatProg
import Derived.KernelRfl
import Derived.Test.YtljglglbfcgjpaaGreatM7

set_option linter.unusedVariables false
set_option linter.unusedSimpArgs false

namespace Go.Proofs.YtljglglbfcgjpaaGreat
open Go Go.Sym
def at2 (L : List (List Bool)) (x y : Nat) : Bool := (L.getD x []).getD y false
def topB (n : Nat) (p : Nat → Bool) (ov : Nat → Nat → Bool) (z : Nat) : Bool := p z && (List.range n).all fun w => !p w || ov z w
def bestP (n : Nat) (p : Nat → Bool) (ov : Nat → Nat → Bool) : Option Nat := (List.range n).find? (topB n p ov)
def meetO (n : Nat) (r : Nat → Nat → Bool) (x y : Nat) : Option Nat := bestP n (fun z => r z x && r z y) (fun z w => r w z)
def joinO (n : Nat) (r : Nat → Nat → Bool) (x y : Nat) : Option Nat := bestP n (fun z => r x z && r y z) (fun z w => r z w)
def mt (n : Nat) (r : Nat → Nat → Bool) (x y : Nat) : Nat := (meetO n r x y).getD 0
def jn (n : Nat) (r : Nat → Nat → Bool) (x y : Nat) : Nat := (joinO n r x y).getD 0
def imO (n : Nat) (r : Nat → Nat → Bool) (x y : Nat) : Option Nat := bestP n (fun z => r (mt n r z x) y) (fun z w => r w z)
def im (n : Nat) (r : Nat → Nat → Bool) (x y : Nat) : Nat := (imO n r x y).getD 0
def lowP (n : Nat) (r : Nat → Nat → Bool) : Nat := (bestP n (fun _ => true) (fun z w => r z w)).getD 0
def highP (n : Nat) (r : Nat → Nat → Bool) : Nat := (bestP n (fun _ => true) (fun z w => r w z)).getD 0
def ordP (n : Nat) (r : Nat → Nat → Bool) : Bool :=
  (List.range n).all fun x => r x x && (List.range n).all fun y => !((x != y) && r x y && r y x) && (List.range n).all fun z => !(r x y && r y z && !r x z)
def tabB (n : Nat) (r : Nat → Nat → Bool) (x y : Nat) : Bool := (meetO n r x y).isSome && (joinO n r x y).isSome
def tabsP (n : Nat) (r : Nat → Nat → Bool) : Bool := (List.range n).all fun x => (List.range n).all fun y => tabB n r x y
def distB (n : Nat) (r : Nat → Nat → Bool) (x y z : Nat) : Bool := mt n r x (jn n r y z) == jn n r (mt n r x y) (mt n r x z)
def distP (n : Nat) (r : Nat → Nat → Bool) : Bool := (List.range n).all fun x => (List.range n).all fun y => (List.range n).all fun z => distB n r x y z
def algP (L : List (List Bool)) : Bool :=
  decide (1 ≤ L.length) && decide (L.length ≤ 64) && L.all (fun row => row.length == L.length) && ordP L.length (at2 L) && tabsP L.length (at2 L) && distP L.length (at2 L)
theorem bestP_some {n : Nat} {p : Nat → Bool} {ov : Nat → Nat → Bool} {z : Nat} (h : bestP n p ov = some z) : z < n ∧ p z = true ∧ ∀ w, w < n → p w = true → ov z w = true := by
  have h1 := List.find?_some h
  have h2 := List.mem_of_find?_eq_some h
  unfold topB at h1
  rw [Bool.and_eq_true, List.all_eq_true] at h1
  refine ⟨List.mem_range.1 h2, h1.1, fun w hw hp => ?_⟩
  have := h1.2 w (List.mem_range.2 hw)
  simpa [hp] using this
theorem bestP_lt {n : Nat} {p : Nat → Bool} {ov : Nat → Nat → Bool} (hn : 1 ≤ n) : (bestP n p ov).getD 0 < n := by
  cases e : bestP n p ov with
  | none => exact hn
  | some z => exact (bestP_some e).1
theorem mt_lt {n : Nat} {r : Nat → Nat → Bool} (hn : 1 ≤ n) (x y : Nat) : mt n r x y < n := bestP_lt hn
theorem jn_lt {n : Nat} {r : Nat → Nat → Bool} (hn : 1 ≤ n) (x y : Nat) : jn n r x y < n := bestP_lt hn
theorem im_lt {n : Nat} {r : Nat → Nat → Bool} (hn : 1 ≤ n) (x y : Nat) : im n r x y < n := bestP_lt hn
theorem low_lt {n : Nat} {r : Nat → Nat → Bool} (hn : 1 ≤ n) : lowP n r < n := bestP_lt hn
theorem high_lt {n : Nat} {r : Nat → Nat → Bool} (hn : 1 ≤ n) : highP n r < n := bestP_lt hn
structure PO (n : Nat) (r : Nat → Nat → Bool) : Prop where
  refl : ∀ x, x < n → r x x = true
  anti : ∀ x y, x < n → y < n → r x y = true → r y x = true → x = y
  trans : ∀ x y z, x < n → y < n → z < n → r x y = true → r y z = true → r x z = true
theorem PO.flip {n : Nat} {r : Nat → Nat → Bool} (h : PO n r) : PO n fun x y => r y x :=
  ⟨h.refl, fun x y hx hy a b => h.anti x y hx hy b a, fun x y z hx hy hz a b => h.trans z y x hz hy hx b a⟩
theorem po_of {n : Nat} {r : Nat → Nat → Bool} (h : ordP n r = true) : PO n r := by
  unfold ordP at h
  rw [List.all_eq_true] at h
  have h1 : ∀ x, x < n → r x x = true ∧ ∀ y, y < n → ((x != y) && r x y && r y x) = false ∧ ∀ z, z < n → (r x y && r y z && !r x z) = false := fun x hx => by
    have := h x (List.mem_range.2 hx)
    rw [Bool.and_eq_true, List.all_eq_true] at this
    refine ⟨this.1, fun y hy => ?_⟩
    have := this.2 y (List.mem_range.2 hy)
    rw [Bool.and_eq_true, List.all_eq_true] at this
    refine ⟨by rw [← Bool.not_eq_true']; exact this.1, fun z hz => ?_⟩
    have := this.2 z (List.mem_range.2 hz)
    rw [← Bool.not_eq_true']
    exact this
  refine ⟨fun x hx => (h1 x hx).1, fun x y hx hy a b => ?_, fun x y z hx hy hz a b => ?_⟩
  · have := ((h1 x hx).2 y hy).1
    rw [a, b] at this
    simpa using this
  · have := ((h1 x hx).2 y hy).2 z hz
    rw [a, b] at this
    simpa using this
theorem bestP_is {n : Nat} {r : Nat → Nat → Bool} (h : PO n r) {p : Nat → Bool} {g : Nat} (hg : g < n) (hp : p g = true) (hall : ∀ w, w < n → p w = true → r w g = true) : bestP n p (fun z w => r w z) = some g := by
  have hex : topB n p (fun z w => r w z) g = true := by
    unfold topB
    rw [hp, Bool.true_and, List.all_eq_true]
    intro w hw
    cases e : p w with
    | false => rfl
    | true => exact hall w (List.mem_range.1 hw) e
  cases e : bestP n p (fun z w => r w z) with
  | none =>
    unfold bestP at e
    rw [List.find?_eq_none] at e
    exact absurd hex (by simpa using e g (List.mem_range.2 hg))
  | some z =>
    obtain ⟨h1, h2, h3⟩ := bestP_some e
    congr 1
    exact h.anti z g h1 hg (hall z h1 h2) (h3 g hg hp)
def ovr (r : Nat → Nat → Bool) : Option Nat → Nat → Bool
  | none, _ => true
  | some o, z => r o z
def runB (p : Nat → Bool) (r : Nat → Nat → Bool) (out : Option Nat) (z : Nat) : Option Nat := if p z && ovr r out z then some z else out
theorem run_keep {n : Nat} {r : Nat → Nat → Bool} (h : PO n r) {p : Nat → Bool} {g : Nat} (hg : g < n) (hall : ∀ w, w < n → p w = true → r w g = true) : ∀ l : List Nat, (∀ w ∈ l, w < n) → l.foldl (runB p r) (some g) = some g
  | [], _ => rfl
  | w :: l, hl => by
    have hw := hl w List.mem_cons_self
    rw [List.foldl_cons]
    have : runB p r (some g) w = some g := by
      unfold runB
      split
      · rename_i e
        rw [Bool.and_eq_true] at e
        rw [h.anti w g hw hg (hall w hw e.1) e.2]
      · rfl
    rw [this]
    exact run_keep h hg hall l fun w' hw' => hl w' (List.mem_cons_of_mem _ hw')
theorem run_is {n : Nat} {r : Nat → Nat → Bool} (h : PO n r) {p : Nat → Bool} {g : Nat} (hg : g < n) (hp : p g = true) (hall : ∀ w, w < n → p w = true → r w g = true) :
    ∀ (l : List Nat) (out : Option Nat), (∀ w ∈ l, w < n) → g ∈ l → (∀ o, out = some o → o < n ∧ p o = true) → l.foldl (runB p r) out = some g
  | [], _, _, hm, _ => by cases hm
  | w :: l, out, hl, hm, ho => by
    have hw := hl w List.mem_cons_self
    have hl' : ∀ w' ∈ l, w' < n := fun w' hw' => hl w' (List.mem_cons_of_mem _ hw')
    rw [List.foldl_cons]
    by_cases e : w = g
    · subst e
      have : runB p r out w = some w := by
        unfold runB
        rw [hp, Bool.true_and]
        cases out with
        | none => rfl
        | some o => simp [ovr, hall o (ho o rfl).1 (ho o rfl).2]
      rw [this]
      exact run_keep h hw hall l hl'
    · refine run_is h hg hp hall l _ hl' ?_ fun o eo => ?_
      · rcases List.mem_cons.1 hm with h1 | h1
        · exact absurd h1.symm e
        · exact h1
      · unfold runB at eo
        split at eo
        · rename_i e2
          cases eo
          exact ⟨hw, by rw [Bool.and_eq_true] at e2; exact e2.1⟩
        · exact ho o eo
structure Lat (n : Nat) (r : Nat → Nat → Bool) : Prop where
  pos : 1 ≤ n
  po : PO n r
  meet : ∀ x y, x < n → y < n → r (mt n r x y) x = true ∧ r (mt n r x y) y = true ∧ ∀ w, w < n → r w x = true → r w y = true → r w (mt n r x y) = true
  join : ∀ x y, x < n → y < n → r x (jn n r x y) = true ∧ r y (jn n r x y) = true ∧ ∀ w, w < n → r x w = true → r y w = true → r (jn n r x y) w = true
  dist : ∀ x y z, x < n → y < n → z < n → mt n r x (jn n r y z) = jn n r (mt n r x y) (mt n r x z)
theorem lat_of {L : List (List Bool)} (h : algP L = true) : Lat L.length (at2 L) := by
  unfold algP at h
  simp only [Bool.and_eq_true, decide_eq_true_eq] at h
  obtain ⟨⟨⟨⟨⟨h1, h2⟩, h3⟩, h4⟩, h5⟩, h6⟩ := h
  have ht : ∀ x y, x < L.length → y < L.length → tabB L.length (at2 L) x y = true := fun x y hx hy => by
    unfold tabsP at h5
    rw [List.all_eq_true] at h5
    have := h5 x (List.mem_range.2 hx)
    rw [List.all_eq_true] at this
    exact this y (List.mem_range.2 hy)
  refine ⟨h1, po_of h4, fun x y hx hy => ?_, fun x y hx hy => ?_, fun x y z hx hy hz => ?_⟩
  · have := ht x y hx hy
    unfold tabB at this
    rw [Bool.and_eq_true] at this
    obtain ⟨z, e⟩ := Option.isSome_iff_exists.1 this.1
    have e' : mt L.length (at2 L) x y = z := by unfold mt; rw [e]; rfl
    unfold meetO at e
    obtain ⟨a, b, c⟩ := bestP_some e
    simp only [Bool.and_eq_true] at b c
    rw [e']
    exact ⟨b.1, b.2, fun w hw h1 h2 => c w hw ⟨h1, h2⟩⟩
  · have := ht x y hx hy
    unfold tabB at this
    rw [Bool.and_eq_true] at this
    obtain ⟨z, e⟩ := Option.isSome_iff_exists.1 this.2
    have e' : jn L.length (at2 L) x y = z := by unfold jn; rw [e]; rfl
    unfold joinO at e
    obtain ⟨a, b, c⟩ := bestP_some e
    simp only [Bool.and_eq_true] at b c
    rw [e']
    exact ⟨b.1, b.2, fun w hw h1 h2 => c w hw ⟨h1, h2⟩⟩
  · unfold distP at h6
    rw [List.all_eq_true] at h6
    have := h6 x (List.mem_range.2 hx)
    rw [List.all_eq_true] at this
    have := this y (List.mem_range.2 hy)
    rw [List.all_eq_true] at this
    have := this z (List.mem_range.2 hz)
    unfold distB at this
    simpa using this
section
variable {n : Nat} {r : Nat → Nat → Bool} (A : Lat n r)
include A
theorem Lat.comm {x y : Nat} (hx : x < n) (hy : y < n) : mt n r x y = mt n r y x := by
  have l1 := mt_lt (r := r) A.pos x y
  have l2 := mt_lt (r := r) A.pos y x
  obtain ⟨a, b, c⟩ := A.meet x y hx hy
  obtain ⟨a', b', c'⟩ := A.meet y x hy hx
  exact A.po.anti _ _ l1 l2 (c' _ l1 b a) (c _ l2 b' a')
theorem Lat.great {p : Nat → Bool} {s : Nat} (hs : s < n) (hp : p s = true) (hj : ∀ x y, x < n → y < n → p x = true → p y = true → p (jn n r x y) = true) : ∃ g, g < n ∧ p g = true ∧ ∀ w, w < n → p w = true → r w g = true := by
  have : ∀ l : List Nat, (∀ w ∈ l, w < n) → ∃ g, g < n ∧ p g = true ∧ ∀ w ∈ l, p w = true → r w g = true := by
    intro l
    induction l with
    | nil => exact fun _ => ⟨s, hs, hp, fun w hw => by cases hw⟩
    | cons w l ih =>
      intro hl
      obtain ⟨g, g1, g2, g3⟩ := ih fun w' hw' => hl w' (List.mem_cons_of_mem _ hw')
      have hw := hl w List.mem_cons_self
      cases e : p w with
      | false =>
        refine ⟨g, g1, g2, fun w' hw' hp' => ?_⟩
        rcases List.mem_cons.1 hw' with rfl | h1
        · rw [e] at hp'; cases hp'
        · exact g3 w' h1 hp'
      | true =>
        obtain ⟨j1, j2, j3⟩ := A.join w g hw g1
        refine ⟨jn n r w g, jn_lt A.pos _ _, hj w g hw g1 e g2, fun w' hw' hp' => ?_⟩
        rcases List.mem_cons.1 hw' with rfl | h1
        · exact j1
        · exact A.po.trans _ _ _ (hl w' hw') g1 (jn_lt A.pos _ _) (g3 w' h1 hp') j2
  obtain ⟨g, g1, g2, g3⟩ := this (List.range n) fun w hw => List.mem_range.1 hw
  exact ⟨g, g1, g2, fun w hw hp => g3 w (List.mem_range.2 hw) hp⟩
theorem Lat.least {p : Nat → Bool} {s : Nat} (hs : s < n) (hp : p s = true) (hj : ∀ x y, x < n → y < n → p x = true → p y = true → p (mt n r x y) = true) : ∃ g, g < n ∧ p g = true ∧ ∀ w, w < n → p w = true → r g w = true := by
  have : ∀ l : List Nat, (∀ w ∈ l, w < n) → ∃ g, g < n ∧ p g = true ∧ ∀ w ∈ l, p w = true → r g w = true := by
    intro l
    induction l with
    | nil => exact fun _ => ⟨s, hs, hp, fun w hw => by cases hw⟩
    | cons w l ih =>
      intro hl
      obtain ⟨g, g1, g2, g3⟩ := ih fun w' hw' => hl w' (List.mem_cons_of_mem _ hw')
      have hw := hl w List.mem_cons_self
      cases e : p w with
      | false =>
        refine ⟨g, g1, g2, fun w' hw' hp' => ?_⟩
        rcases List.mem_cons.1 hw' with rfl | h1
        · rw [e] at hp'; cases hp'
        · exact g3 w' h1 hp'
      | true =>
        obtain ⟨j1, j2, j3⟩ := A.meet w g hw g1
        refine ⟨mt n r w g, mt_lt A.pos _ _, hj w g hw g1 e g2, fun w' hw' hp' => ?_⟩
        rcases List.mem_cons.1 hw' with rfl | h1
        · exact j1
        · exact A.po.trans _ _ _ (mt_lt A.pos _ _) g1 (hl w' hw') j2 (g3 w' h1 hp')
  obtain ⟨g, g1, g2, g3⟩ := this (List.range n) fun w hw => List.mem_range.1 hw
  exact ⟨g, g1, g2, fun w hw hp => g3 w (List.mem_range.2 hw) hp⟩
theorem Lat.mono {a b c d : Nat} (ha : a < n) (hb : b < n) (hc : c < n) (hd : d < n) (h1 : r a c = true) (h2 : r b d = true) : r (mt n r a b) (mt n r c d) = true := by
  obtain ⟨m1, m2, m3⟩ := A.meet a b ha hb
  obtain ⟨k1, k2, k3⟩ := A.meet c d hc hd
  have l := mt_lt (r := r) A.pos a b
  exact k3 _ l (A.po.trans _ _ _ l ha hc m1 h1) (A.po.trans _ _ _ l hb hd m2 h2)
theorem Lat.imp {x y : Nat} (hx : x < n) (hy : y < n) : ∃ g, g < n ∧ r (mt n r g x) y = true ∧ (∀ w, w < n → r (mt n r w x) y = true → r w g = true) ∧ imO n r x y = some g ∧
    (List.range n).foldl (runB (fun z => r (mt n r z x) y) r) none = some g := by
  obtain ⟨g, g1, g2, g3⟩ := A.great (p := fun z => r (mt n r z x) y) (s := y) hy (A.meet y x hy hx).1 fun z w hz hw h1 h2 => by
    have l1 := jn_lt (r := r) A.pos z w
    have m1 := mt_lt (r := r) A.pos x z
    have m2 := mt_lt (r := r) A.pos x w
    show r (mt n r (jn n r z w) x) y = true
    rw [A.comm l1 hx, A.dist x z w hx hz hw]
    have h1' : r (mt n r x z) y = true := by rw [A.comm hx hz]; exact h1
    have h2' : r (mt n r x w) y = true := by rw [A.comm hx hw]; exact h2
    exact (A.join _ _ m1 m2).2.2 y hy h1' h2'
  exact ⟨g, g1, g2, g3, bestP_is A.po g1 g2 g3, run_is A.po g1 g2 g3 _ none (fun w hw => List.mem_range.1 hw) (List.mem_range.2 g1) fun o e => by cases e⟩
theorem Lat.resid {x y z : Nat} (hx : x < n) (hy : y < n) (hz : z < n) : r (mt n r z x) y = r z (im n r x y) := by
  obtain ⟨g, g1, g2, g3, g4, _⟩ := A.imp hx hy
  have e : im n r x y = g := by unfold im; rw [g4]; rfl
  rw [e, Bool.eq_iff_iff]
  refine ⟨g3 z hz, fun h => ?_⟩
  exact A.po.trans _ _ _ (mt_lt A.pos _ _) (mt_lt A.pos _ _) hy (A.mono hz hx g1 hx h (A.po.refl x hx)) g2
theorem Lat.high : ∀ o, o < n → (List.range n).foldl (runB (fun _ => true) r) (some o) = some (highP n r) := by
  obtain ⟨g, g1, g2, g3⟩ := A.great (p := fun _ => true) (s := 0) A.pos rfl fun _ _ _ _ _ _ => rfl
  have e : highP n r = g := by unfold highP; rw [bestP_is A.po g1 g2 g3]; rfl
  intro o ho
  rw [e]
  exact run_is A.po g1 g2 g3 _ _ (fun w hw => List.mem_range.1 hw) (List.mem_range.2 g1) fun o' e' => by cases e'; exact ⟨ho, rfl⟩
theorem Lat.low : ∀ o, o < n → (List.range n).foldl (runB (fun _ => true) fun x y => r y x) (some o) = some (lowP n r) := by
  obtain ⟨g, g1, g2, g3⟩ := A.least (p := fun _ => true) (s := 0) A.pos rfl fun _ _ _ _ _ _ => rfl
  have e : lowP n r = g := by
    unfold lowP
    have := bestP_is (r := fun x y => r y x) A.po.flip g1 g2 g3
    rw [this]; rfl
  intro o ho
  rw [e]
  exact run_is (r := fun x y => r y x) A.po.flip g1 g2 g3 _ _ (fun w hw => List.mem_range.1 hw) (List.mem_range.2 g1) fun o' e' => by cases e'; exact ⟨ho, rfl⟩
end
end Go.Proofs.YtljglglbfcgjpaaGreat

namespace Go.Proofs.YtljglglbfcgjpaaGreat
open Go Go.Sym Go.Proofs.Tryz
variable {K : AVal → Heap → Prop} {h : Heap} {n : Nat} {r : Nat → Nat → Bool} {f : AVal}
def T1 (f : AVal) (n : Nat) (p : Nat → Bool) : Prop := ∀ (x : Nat) (h : Heap) (K : AVal → Heap → Prop), x < n → K (.bool (p x)) h → callV prog f [.int .i64 (x : Int)] h K
def T2 (f : AVal) (n : Nat) (p : Nat → Nat → Bool) : Prop := ∀ (x y : Nat) (h : Heap) (K : AVal → Heap → Prop), x < n → y < n → K (.bool (p x y)) h → callV prog f [.int .i64 (x : Int), .int .i64 (y : Int)] h K
def topW (p : Nat → Bool) (ov : Nat → Nat → Bool) (z w : Nat) : Bool := (List.range w).all fun w => !p w || ov z w
theorem topW_succ (p : Nat → Bool) (ov : Nat → Nat → Bool) (z w : Nat) : topW p ov z (w + 1) = (topW p ov z w && (!p w || ov z w)) := by
  unfold topW
  rw [List.range_succ, List.all_append]
  simp
def bestFrom (p : Nat → Bool) (ov : Nat → Nat → Bool) (n z d : Nat) : Option Nat := (List.range' z d).find? (topB n p ov)
theorem best_from (p : Nat → Bool) (ov : Nat → Nat → Bool) : bestP n p ov = bestFrom p ov n 0 n := by
  unfold bestP bestFrom
  rw [List.range_eq_range']
def bestV (o : Option Nat) : AVal := .tuple [.int .i64 ((o.getD 0 : Nat) : Int), .bool o.isSome]
section
variable {fi fo : AVal} {p : Nat → Bool} {ov : Nat → Nat → Bool} (hi : T1 fi n p) (ho : T2 fo n ov) (hn : n ≤ 1073741824)
include hi ho hn
theorem best_l3 {z : Nat} (hz : z < n) {L1 : s75l1_T} (yes : topW p ov z n = true → K (bestV (some z)) h) (no : topW p ov z n = false → L1 n fi fo (n : Int) ((z : Int) + 1) h) :
    ∀ d w : Nat, w + d = n → s75l3 K L1 (d + 1) n fi fo (z : Int) (topW p ov z w) (n : Int) (z : Int) (n : Int) (w : Int) h
  | 0, w, hd => by
    obtain rfl : w = n := by omega
    unfold s75l3
    refine ifT_neg (by simp) ?_
    cases e : topW p ov z w with
    | true => exact ifT_pos rfl (retG_of (yes e))
    | false =>
      refine ifT_neg rfl ?_
      unfold s75c2
      exact rg_of (by omega) (by omega) (no e)
  | d + 1, w, hd => by
    have next : s75c4 K L1 (s75l3_G (s75l3 K L1 (d + 1))) n fi fo (z : Int) (topW p ov z (w + 1)) (n : Int) (z : Int) (n : Int) (w : Int) h := by
      unfold s75c4
      exact rg_of (by omega) (by omega) (s75l3_go (best_l3 hz yes no d (w + 1) (by omega)))
    rw [topW_succ] at next
    unfold s75l3
    refine ifT_pos (by simp; omega) ?_
    cases e : topW p ov z w with
    | false =>
      rw [e, Bool.false_and] at next
      exact ifT_neg rfl next
    | true =>
      rw [e, Bool.true_and] at next
      refine ifT_pos rfl (hi w h _ (by omega) ?_)
      rw [tBool_bool]
      cases e1 : p w with
      | false =>
        rw [e1] at next
        exact ifT_pos rfl next
      | true =>
        rw [e1] at next
        refine ifT_neg rfl (ho z w h _ hz (by omega) ?_)
        rw [tBool_bool]
        exact next
theorem best_l1 : ∀ d z : Nat, z + d = n → K (bestV (bestFrom p ov n z d)) h → s75l1 K (d + 1) n fi fo (n : Int) (z : Int) h
  | 0, z, hd, hk => by
    unfold s75l1
    exact ifT_neg (by simp; omega) (retG_of hk)
  | d + 1, z, hd, hk => by
    unfold bestFrom at hk
    rw [List.range'_succ, List.find?_cons] at hk
    unfold s75l1
    refine ifT_pos (by simp; omega) (hi z h _ (by omega) ?_)
    rw [tBool_bool]
    cases e : p z with
    | false =>
      have e2 : topB n p ov z = false := by unfold topB; rw [e, Bool.false_and]
      rw [e2] at hk
      refine ifT_pos rfl ?_
      unfold s75c2
      exact rg_of (by omega) (by omega) (s75l1_go (best_l1 d (z + 1) (by omega) hk))
    | true =>
      have e2 : topB n p ov z = topW p ov z n := by unfold topB topW; rw [e, Bool.true_and]
      rw [e2] at hk
      refine ifT_neg rfl (s75l3_in (n + 1) ?_)
      have h0 : topW p ov z 0 = true := rfl
      rw [← h0]
      refine best_l3 hi ho hn (by omega) (fun e3 => ?_) (fun e3 => ?_) n 0 (by omega)
      · rw [e3] at hk; exact hk
      · rw [e3] at hk
        exact s75l1_go (best_l1 d (z + 1) (by omega) hk)
theorem best_ok (hk : K (bestV (bestP n p ov)) h) : ACalls prog 75 [.int .i64 (n : Int), fi, fo] h K := by
  rw [best_from] at hk
  refine s75_ok ?_
  unfold s75
  exact s75l1_in (n + 1) (best_l1 hi ho hn n 0 (by omega) hk)
end
abbrev latC (n : Nat) (f : AVal) : List AVal := [.int .i64 (n : Int), f]
abbrev latV (n : Nat) (f : AVal) : AVal := .agg (latC n f)
section
variable (hf : T2 f n r)
include hf
theorem up_tells : T2 (.func (.func 77) [latV n f] []) n fun z w => r w z := by
  intro z w h K hz hw hk
  show callG prog 77 ([latV n f] ++ [.int .i64 (z : Int), .int .i64 (w : Int)] ++ []) h K
  refine callG_of (s77_ok ?_)
  unfold s77
  refine hf w z h _ hw hz ?_
  rw [tBool_bool]
  exact retG_of hk
theorem down_tells : T2 (.func (.func 76) [latV n f] []) n fun z w => r z w := by
  intro z w h K hz hw hk
  show callG prog 76 ([latV n f] ++ [.int .i64 (z : Int), .int .i64 (w : Int)] ++ []) h K
  refine callG_of (s76_ok ?_)
  unfold s76
  refine hf z w h _ hz hw ?_
  rw [tBool_bool]
  exact retG_of hk
theorem meet1_tells {x y : Nat} (hx : x < n) (hy : y < n) : T1 (.func (.func 95) [] [.lptr (latC n f), .lptr [.int .i64 (x : Int)], .lptr [.int .i64 (y : Int)]]) n fun z => r z x && r z y := by
  intro z h K hz hk
  show callG prog 95 ([] ++ [.int .i64 (z : Int)] ++ [.lptr (latC n f), .lptr [.int .i64 (x : Int)], .lptr [.int .i64 (y : Int)]]) h K
  refine callG_of (s95_ok ?_)
  unfold s95
  simp only [addOff_lptr, List.drop_succ_cons, List.drop_zero, ld1_lptr, tInt_int]
  refine hf z x h _ hz hx ?_
  rw [tBool_bool]
  cases e : r z x with
  | false => exact ifT_neg rfl (retG_of (by simpa [e] using hk))
  | true =>
    refine ifT_pos rfl (hf z y h _ hz hy ?_)
    rw [tBool_bool]
    exact retG_of (by simpa [e] using hk)
theorem join1_tells {x y : Nat} (hx : x < n) (hy : y < n) : T1 (.func (.func 78) [] [.lptr (latC n f), .lptr [.int .i64 (x : Int)], .lptr [.int .i64 (y : Int)]]) n fun z => r x z && r y z := by
  intro z h K hz hk
  show callG prog 78 ([] ++ [.int .i64 (z : Int)] ++ [.lptr (latC n f), .lptr [.int .i64 (x : Int)], .lptr [.int .i64 (y : Int)]]) h K
  refine callG_of (s78_ok ?_)
  unfold s78
  simp only [addOff_lptr, List.drop_succ_cons, List.drop_zero, ld1_lptr, tInt_int]
  refine hf x z h _ hx hz ?_
  rw [tBool_bool]
  cases e : r x z with
  | false => exact ifT_neg rfl (retG_of (by simpa [e] using hk))
  | true =>
    refine ifT_pos rfl (hf y z h _ hy hz ?_)
    rw [tBool_bool]
    exact retG_of (by simpa [e] using hk)
variable (hn : n ≤ 1073741824)
include hn
theorem meetH_ok {x y : Nat} (hx : x < n) (hy : y < n) (hk : K (bestV (meetO n r x y)) h) : ACalls prog 50 [latV n f, .int .i64 (x : Int), .int .i64 (y : Int)] h K := by
  refine s50_ok ?_
  unfold s50
  refine callG_of (best_ok (meet1_tells hf hx hy) (up_tells hf) hn ?_)
  unfold bestV
  rw [tTup_tuple, tCons_cons, tInt_int, tCons_cons, tBool_bool, tNil_nil]
  exact retG_of hk
theorem joinH_ok {x y : Nat} (hx : x < n) (hy : y < n) (hk : K (bestV (joinO n r x y)) h) : ACalls prog 37 [latV n f, .int .i64 (x : Int), .int .i64 (y : Int)] h K := by
  refine s37_ok ?_
  unfold s37
  refine callG_of (best_ok (join1_tells hf hx hy) (down_tells hf) hn ?_)
  unfold bestV
  rw [tTup_tuple, tCons_cons, tInt_int, tCons_cons, tBool_bool, tNil_nil]
  exact retG_of hk
theorem imp1_tells {x y : Nat} (hx : x < n) (hy : y < n) : T1 (.func (.func 96) [] [.lptr (latC n f), .lptr [.int .i64 (x : Int)], .lptr [.int .i64 (y : Int)]]) n fun z => r (mt n r z x) y := by
  intro z h K hz hk
  show callG prog 96 ([] ++ [.int .i64 (z : Int)] ++ [.lptr (latC n f), .lptr [.int .i64 (x : Int)], .lptr [.int .i64 (y : Int)]]) h K
  refine callG_of (s96_ok ?_)
  unfold s96
  rw [ldN_agg2, tCons_cons, tInt_int, tCons_cons, tNil_nil, ld1_lptr, tInt_int]
  refine callG_of (meetH_ok hf hn hz hx ?_)
  unfold bestV
  rw [tTup_tuple, tCons_cons, tInt_int, tCons_cons, tBool_bool, tNil_nil]
  simp only [addOff_lptr, List.drop_succ_cons, List.drop_zero, ld1_lptr, tInt_int]
  refine hf (mt n r z x) y h _ (mt_lt (by omega) _ _) hy ?_
  rw [tBool_bool]
  exact retG_of hk
theorem impH_ok {x y : Nat} (hx : x < n) (hy : y < n) (hk : K (.int .i64 ((im n r x y : Nat) : Int)) h) : ACalls prog 51 [latV n f, .int .i64 (x : Int), .int .i64 (y : Int)] h K := by
  refine s51_ok ?_
  unfold s51
  refine callG_of (best_ok (imp1_tells hf hn hx hy) (up_tells hf) hn ?_)
  unfold bestV
  rw [tTup_tuple, tCons_cons, tInt_int, tCons_cons, tBool_bool, tNil_nil]
  exact retG_of hk
omit hf hn in
theorem all1_tells : T1 (.func (.func 74) [] []) n fun _ => true := by
  intro z h K _ hk
  show callG prog 74 ([] ++ [.int .i64 (z : Int)] ++ []) h K
  refine callG_of (s74_ok ?_)
  unfold s74
  exact retG_of hk
theorem boundsH_ok (hk : K (.tuple [.int .i64 ((lowP n r : Nat) : Int), .int .i64 ((highP n r : Nat) : Int)]) h) : ACalls prog 36 [latV n f] h K := by
  refine s36_ok ?_
  unfold s36
  refine callG_of (best_ok all1_tells (down_tells hf) hn ?_)
  unfold bestV
  rw [tTup_tuple, tCons_cons, tInt_int, tCons_cons, tBool_bool, tNil_nil]
  refine callG_of (best_ok all1_tells (up_tells hf) hn ?_)
  unfold bestV
  rw [tTup_tuple, tCons_cons, tInt_int, tCons_cons, tBool_bool, tNil_nil]
  exact retG_of hk
end
/- ---------------- is it a partial order? ---------------- -/
def ordZ (r : Nat → Nat → Bool) (x y z : Nat) : Bool := !(r x y && r y z && !r x z)
def ordY (n : Nat) (r : Nat → Nat → Bool) (x y : Nat) : Bool := !((x != y) && r x y && r y x) && (List.range n).all (ordZ r x y)
def ordX (n : Nat) (r : Nat → Nat → Bool) (x : Nat) : Bool := r x x && (List.range n).all (ordY n r x)
theorem ordP_eq : ordP n r = (List.range n).all (ordX n r) := rfl
theorem all_of {p : Nat → Bool} (h : ∀ x, x < n → p x = true) : (List.range n).all p = true := List.all_eq_true.2 fun x hx => h x (List.mem_range.1 hx)
theorem all_not {p : Nat → Bool} {x : Nat} (hx : x < n) (h : p x = false) : (List.range n).all p = false := by
  rw [List.all_eq_false]
  exact ⟨x, List.mem_range.2 hx, by simp [h]⟩
section
variable (hf : T2 f n r) (hn : n ≤ 1073741824)
include hf hn
theorem ordered_l4 {x y : Nat} (hx : x < n) (hy : y < n) {L1 : s72l1_T} {L2 : s72l2_T} (no : ∀ z, z < n → ordZ r x y z = false → K (.bool false) h)
    (yes : (∀ z, z < n → ordZ r x y z = true) → L2 (.lptr (latC n f)) (x : Int) n (x : Int) n ((y : Int) + 1) h) : ∀ d z : Nat, z + d = n → (∀ z', z' < z → ordZ r x y z' = true) →
    s72l4 K L1 L2 (d + 1) (.lptr (latC n f)) (x : Int) (y : Int) n (x : Int) n (y : Int) (n : Int) (z : Int) h
  | 0, z, hd, hb => by
    unfold s72l4
    exact ifT_neg (by simp; omega) (rg_of (by omega) (by omega) (yes fun z' hz' => hb z' (by omega)))
  | d + 1, z, hd, hb => by
    have next : ordZ r x y z = true → s72c5 K L1 L2 (s72l4_G (s72l4 K L1 L2 (d + 1))) (.lptr (latC n f)) (x : Int) (y : Int) n (x : Int) n (y : Int) (n : Int) (z : Int) false h := fun e => by
      unfold s72c5
      refine ifT_neg rfl (rg_of (by omega) (by omega) (s72l4_go (ordered_l4 hx hy no yes d (z + 1) (by omega) fun z' hz' => ?_)))
      by_cases e2 : z' = z
      · rw [e2]; exact e
      · exact hb z' (by omega)
    unfold s72l4
    refine ifT_pos (by simp; omega) ?_
    simp only [addOff_lptr, List.drop_succ_cons, List.drop_zero, ld1_lptr]
    refine hf x y h _ hx hy ?_
    rw [tBool_bool]
    cases e1 : r x y with
    | false => exact ifT_neg rfl (next (by simp [ordZ, e1]))
    | true =>
      refine ifT_pos rfl (hf y z h _ hy (by omega) ?_)
      rw [tBool_bool]
      cases e2 : r y z with
      | false => exact ifT_neg rfl (next (by simp [ordZ, e2]))
      | true =>
        refine ifT_pos rfl (hf x z h _ hx (by omega) ?_)
        rw [tBool_bool]
        cases e3 : r x z with
        | true => exact next (by simp [ordZ, e3])
        | false =>
          unfold s72c5
          exact ifT_pos rfl (retG_of (no z (by omega) (by simp [ordZ, e1, e2, e3])))
theorem ordered_l2 {x : Nat} (hx : x < n) {L1 : s72l1_T} (no : ∀ y, y < n → ordY n r x y = false → K (.bool false) h)
    (yes : (∀ y, y < n → ordY n r x y = true) → L1 (.lptr (latC n f)) n ((x : Int) + 1) h) : ∀ d y : Nat, y + d = n → (∀ y', y' < y → ordY n r x y' = true) →
    s72l2 K L1 (d + 1) (.lptr (latC n f)) (x : Int) n (x : Int) (n : Int) (y : Int) h
  | 0, y, hd, hb => by
    unfold s72l2
    exact ifT_neg (by simp; omega) (rg_of (by omega) (by omega) (yes fun z' hz' => hb z' (by omega)))
  | d + 1, y, hd, hb => by
    have next : ((x != y) && r x y && r y x) = false → s72c3 K L1 (s72l2_G (s72l2 K L1 (d + 1))) (.lptr (latC n f)) (x : Int) (y : Int) n (x : Int) n (y : Int) false h := fun e => by
      unfold s72c3
      refine ifT_neg rfl ?_
      simp only [addOff_lptr, List.drop_zero, ld1_lptr, tInt_int]
      refine s72l4_in (n + 1) (ordered_l4 hf hn hx (by omega) (fun z hz ez => no y (by omega) ?_) (fun hall => ?_) n 0 (by omega) (fun z' hz' => by omega))
      · unfold ordY; rw [all_not hz ez, Bool.and_false]
      · refine s72l2_go (ordered_l2 hx no yes d (y + 1) (by omega) fun y' hy' => ?_)
        by_cases e2 : y' = y
        · subst e2
          unfold ordY
          rw [e, all_of hall]; rfl
        · exact hb y' (by omega)
    unfold s72l2
    refine ifT_pos (by simp; omega) ?_
    by_cases exy : x = y
    · exact ifT_neg (by simp [exy]) (next (by simp [exy]))
    · refine ifT_pos (by simp; omega) ?_
      simp only [addOff_lptr, List.drop_succ_cons, List.drop_zero, ld1_lptr]
      refine hf x y h _ hx (by omega) ?_
      rw [tBool_bool]
      cases e1 : r x y with
      | false => exact ifT_neg rfl (next (by simp [e1]))
      | true =>
        refine ifT_pos rfl (hf y x h _ (by omega) hx ?_)
        rw [tBool_bool]
        cases e2 : r y x with
        | false => exact next (by simp [e2])
        | true =>
          unfold s72c3
          refine ifT_pos rfl (retG_of (no y (by omega) ?_))
          unfold ordY
          simp [exy, e1, e2]
theorem ordered_l1 (hk : K (.bool (ordP n r)) h) : ∀ d x : Nat, x + d = n → (∀ x', x' < x → ordX n r x' = true) → s72l1 K (d + 1) (.lptr (latC n f)) (n : Int) (x : Int) h
  | 0, x, hd, hb => by
    have e : ordP n r = true := by rw [ordP_eq]; exact all_of fun x' hx' => hb x' (by omega)
    rw [e] at hk
    unfold s72l1
    exact ifT_neg (by simp; omega) (retG_of hk)
  | d + 1, x, hd, hb => by
    have no : ordX n r x = false → K (.bool false) h := fun e => by
      have e2 : ordP n r = false := by rw [ordP_eq]; exact all_not (by omega) e
      rwa [e2] at hk
    unfold s72l1
    refine ifT_pos (by simp; omega) ?_
    simp only [addOff_lptr, List.drop_succ_cons, List.drop_zero, ld1_lptr]
    refine hf x x h _ (by omega) (by omega) ?_
    rw [tBool_bool]
    cases e1 : r x x with
    | false => exact ifT_pos rfl (retG_of (no (by simp [ordX, e1])))
    | true =>
      refine ifT_neg rfl ?_
      rw [tInt_int]
      refine s72l2_in (n + 1) (ordered_l2 hf hn (by omega) (fun y hy ey => no ?_) (fun hall => ?_) n 0 (by omega) (fun y' hy' => by omega))
      · unfold ordX; rw [all_not hy ey, Bool.and_false]
      · refine s72l1_go (ordered_l1 hk d (x + 1) (by omega) fun x' hx' => ?_)
        by_cases e2 : x' = x
        · subst e2
          unfold ordX
          rw [e1, all_of hall]; rfl
        · exact hb x' (by omega)
theorem orderedH_ok (hk : K (.bool (ordP n r)) h) : ACalls prog 72 [latV n f] h K := by
  refine s72_ok ?_
  unfold s72
  exact s72l1_in (n + 1) (ordered_l1 hf hn hk n 0 (by omega) fun x' hx' => by omega)
end
end Go.Proofs.YtljglglbfcgjpaaGreat

namespace Go.Proofs.YtljglglbfcgjpaaGreat
open Go Go.Sym Go.Proofs.Tryz
variable {K : AVal → Heap → Prop} {h h0 hb : Heap} {n : Nat} {r : Nat → Nat → Bool} {f : AVal}
/- ---------------- two groups of rows that grow ---------------- -/
theorem rowsO_at {q k : Nat} {f : Nat → AVal} {g : Nat → List Nat} (A B : List Ow) (hk : k < q) : (A ++ (rowsO q f g ++ B))[A.length + k]? = some (.slc 1 (f k) ((natI (g k)).map (.int .i64))) := by
  rw [List.getElem?_append_right (by omega), show A.length + k - A.length = k by omega, List.getElem?_append_left (by simp [rowsO, hk])]
  unfold rowsO
  exact range_get _ hk
theorem rowsO_put {q k x : Nat} {f : Nat → AVal} {g : Nat → List Nat} {v : AVal} (A B : List Ow) (hk : k < q) :
    (A ++ (rowsO q f g ++ B)).set (A.length + k) (.slc 1 v ((natI (g k)).map (.int .i64) ++ [.int .i64 (x : Int)])) = A ++ (rowsO q (upd f k v) (upd g k (g k ++ [x])) ++ B) := by
  rw [List.set_append_right _ _ (by omega), show A.length + k - A.length = k by omega, List.set_append_left _ _ (by simp [rowsO, hk])]
  congr 2
  unfold rowsO
  rw [map_set]
  refine List.map_congr_left fun y _ => ?_
  unfold upd
  split
  · simp [natI]
  · rfl
structure GT (R : Nat → List Nat) (x y : Nat) (g : Nat → List Nat) : Prop where
  lo : ∀ k, k < x → g k = R k
  at_ : g x = (R x).take y
  hi : ∀ k, x < k → g k = []
theorem GT.put {R : Nat → List Nat} {x y a : Nat} {g : Nat → List Nat} (G : GT R x y g) (ha : (R x)[y]? = some a) : GT R x (y + 1) (upd g x (g x ++ [a])) where
  lo k hk := by unfold upd; rw [if_neg (by omega)]; exact G.lo k hk
  at_ := by unfold upd; rw [if_pos rfl, G.at_, List.take_add_one, ha]; rfl
  hi k hk := by unfold upd; rw [if_neg (by omega)]; exact G.hi k hk
theorem GT.next {R : Nat → List Nat} {x y : Nat} {g : Nat → List Nat} (G : GT R x y g) (hy : (R x).length ≤ y) : GT R (x + 1) 0 g where
  lo k hk := by
    rcases Nat.lt_or_ge k x with e | e
    · exact G.lo k e
    · obtain rfl : k = x := by omega
      rw [G.at_, List.take_of_length_le hy]
  at_ := by rw [G.hi _ (by omega)]; simp
  hi k hk := G.hi k (by omega)
def mRow (n : Nat) (r : Nat → Nat → Bool) (x : Nat) : List Nat := (List.range n).map fun y => mt n r x y
def jRow (n : Nat) (r : Nat → Nat → Bool) (x : Nat) : List Nat := (List.range n).map fun y => jn n r x y
def mTab (n : Nat) (r : Nat → Nat → Bool) : List (List Int) := (List.range n).map fun x => natI (mRow n r x)
def jTab (n : Nat) (r : Nat → Nat → Bool) : List (List Int) := (List.range n).map fun x => natI (jRow n r x)
section
theorem row_app {rm x a i : Nat} {F : Nat → AVal} {G : Nat → List Nat} (A B : List Ow) (hn : n ≤ 64) (hx : x < n) (hA : A[i]? = some (.slc 1 (.sl rm 1 0 n) ((List.range n).map F))) (W : Own hb (A ++ (rowsO n F G ++ B)) h) (hl : (G x).length ≤ 64)
    {X : Heap → Prop} (hX : ∀ v h', Own hb (A.set i (.slc 1 (.sl rm 1 0 n) ((List.range n).map (upd F x v))) ++ (rowsO n (upd F x v) (upd G x (G x ++ [a])) ++ B)) h' → X h') :
    ixS 1 (.sl rm 1 0 n) (x : Int) fun p1 => ld1 h p1 fun v20 => appC 1 8 h v20 (.lsl 1 [(.int .i64 (a : Int))]) fun v21 h_4 => ixS 1 (.sl rm 1 0 n) (x : Int) fun p2 => chk (sc v21) (st true h_4 p2 [v21] X) := by
  have hi := rowsO_at (f := F) (g := G) A B hx
  have hil := (List.getElem?_eq_some_iff.1 hA).1
  have hA' : ∀ Z : List Ow, (A ++ Z)[i]? = some (.slc 1 (.sl rm 1 0 n) ((List.range n).map F)) := fun Z => by rw [List.getElem?_append_left hil]; exact hA
  have hget : ((List.range n).map F)[x]? = some (F x) := range_get _ hx
  have hag := (W.sc hi).2.2
  have rU := W.get i _ rm (hA' _) rfl
  refine ixS_sl0 hx ?_
  rw [ld1_ptr rU hget hag]
  refine W.app hi (by simp [natI]; omega) (by simp [natI]; omega) fun v2 h2 W2 => ?_
  rw [rowsO_put _ _ hx] at W2
  refine ixS_sl0 hx ?_
  have hi2 := rowsO_at (f := upd F x v2) (g := upd G x (G x ++ [a])) A B hx
  have hsc : sc v2 = true := by
    have := (W2.sc hi2).1
    unfold upd at this
    rwa [if_pos rfl] at this
  refine chk_iff.2 ⟨hsc, st_elem (W2.get i _ rm (hA' _) rfl) hget hag ?_⟩
  have hlen : ((List.range n).map F).length = n := by simp
  have hi1 := hA' (rowsO n (upd F x v2) (upd G x (G x ++ [a])) ++ B)
  have hi1' : (A ++ (rowsO n (upd F x v2) (upd G x (G x ++ [a])) ++ B))[i]? = some (.slc 1 (.sl rm 1 0 ((List.range n).map F).length) ((List.range n).map F)) := by rw [hlen]; exact hi1
  have W3 := W2.putS hi1' (l' := ((List.range n).map F).set x v2) (by simp)
  rw [hlen, map_set, List.set_append_left _ _ hil] at W3
  rw [map_set]
  exact hX v2 _ W3
end
abbrev TB2 (hb : Heap) (rm rj n : Nat) (f f' : Nat → AVal) (g g' : Nat → List Nat) (h : Heap) : Prop :=
  Own hb ([.slc 1 (.sl rm 1 0 n) ((List.range n).map f), .slc 1 (.sl rj 1 0 n) ((List.range n).map f')] ++ (rowsO n f g ++ rowsO n f' g')) h
section
variable {rm rj : Nat} {F F' : Nat → AVal} {G G' : Nat → List Nat}
theorem TB2.app1 (hn : n ≤ 64) {x a : Nat} (hx : x < n) (W : TB2 hb rm rj n F F' G G' h) (hl : (G x).length ≤ 64) {X : Heap → Prop} (hX : ∀ v h', TB2 hb rm rj n (upd F x v) F' (upd G x (G x ++ [a])) G' h' → X h') :
    ixS 1 (.sl rm 1 0 n) (x : Int) fun p1 => ld1 h p1 fun v20 => appC 1 8 h v20 (.lsl 1 [(.int .i64 (a : Int))]) fun v21 h_4 => ixS 1 (.sl rm 1 0 n) (x : Int) fun p2 => chk (sc v21) (st true h_4 p2 [v21] X) :=
  row_app (i := 0) _ _ hn hx rfl W hl fun v h' W' => hX v h' W'
theorem TB2.app2 (hn : n ≤ 64) {x a : Nat} (hx : x < n) (W : TB2 hb rm rj n F F' G G' h) (hl : (G' x).length ≤ 64) {X : Heap → Prop} (hX : ∀ v h', TB2 hb rm rj n F (upd F' x v) G (upd G' x (G' x ++ [a])) h' → X h') :
    ixS 1 (.sl rj 1 0 n) (x : Int) fun p1 => ld1 h p1 fun v20 => appC 1 8 h v20 (.lsl 1 [(.int .i64 (a : Int))]) fun v21 h_4 => ixS 1 (.sl rj 1 0 n) (x : Int) fun p2 => chk (sc v21) (st true h_4 p2 [v21] X) := by
  have e : ∀ (m j : Ow) (R R' : List Ow), [m, j] ++ (R ++ R') = ([m, j] ++ R) ++ (R' ++ []) := fun m j R R' => by simp
  have W1 : Own hb (([.slc 1 (.sl rm 1 0 n) ((List.range n).map F), .slc 1 (.sl rj 1 0 n) ((List.range n).map F')] ++ rowsO n F G) ++ (rowsO n F' G' ++ [])) h := by rw [← e]; exact W
  refine row_app (i := 1) _ _ hn hx rfl W1 hl fun v h' W' => hX v h' ?_
  have W2 : Own hb (([.slc 1 (.sl rm 1 0 n) ((List.range n).map F), .slc 1 (.sl rj 1 0 n) ((List.range n).map (upd F' x v))] ++ rowsO n F G) ++ (rowsO n (upd F' x v) (upd G' x (G' x ++ [a])) ++ [])) h' := W'
  rw [← e] at W2
  exact W2
end
section
variable (hf : T2 f n r) (hn : n ≤ 64) {rm rj : Nat}
include hf hn
theorem tables_l2 {x : Nat} (hx : x < n) {L1 : s73l1_T} {b0 : AVal × AVal} (hb0 : b0 = (.sl rm 1 0 n, .sl rj 1 0 n)) (no : ∀ y, y < n → tabB n r x y = false → K (.tuple [.nilsl, .nilsl, .bool false]) hb)
    (yes : (∀ y, y < n → tabB n r x y = true) → ∀ F F' G G' h', GT (mRow n r) x n G → GT (jRow n r) x n G' → TB2 hb rm rj n F F' G G' h' → L1 (.lptr (latC n f)) b0.1 b0.2 n ((x : Int) + 1) h') :
    ∀ d y : Nat, y + d = n → (∀ y', y' < y → tabB n r x y' = true) → ∀ F F' G G' h, GT (mRow n r) x y G → GT (jRow n r) x y G' → TB2 hb rm rj n F F' G G' h →
      s73l2 K L1 (d + 1) (.lptr (latC n f)) b0.1 b0.2 (x : Int) n (x : Int) n (y : Int) h
  | 0, y, hd, hb', F, F', G, G', h, g1, g2, W => by
    obtain rfl : y = n := by omega
    unfold s73l2
    exact ifT_neg (by simp) (rg_of (by omega) (by omega) (yes (fun z' hz' => hb' z' hz') F F' G G' h g1 g2 W))
  | d + 1, y, hd, hb', F, F', G, G', h, g1, g2, W => by
    have hy : y < n := by omega
    unfold s73l2
    refine ifT_pos (by simp; omega) ?_
    rw [ldN_agg2, tCons_cons, tInt_int, tCons_cons, tNil_nil]
    refine callG_of (meetH_ok hf (by omega) hx hy ?_)
    unfold bestV
    rw [tTup_tuple, tCons_cons, tInt_int, tCons_cons, tBool_bool, tNil_nil, ldN_agg2, tCons_cons, tInt_int, tCons_cons, tNil_nil]
    refine callG_of (joinH_ok hf (by omega) hx hy ?_)
    unfold bestV
    rw [tTup_tuple, tCons_cons, tInt_int, tCons_cons, tBool_bool, tNil_nil]
    have bad : tabB n r x y = false → s73c3 K L1 (s73l2_G (s73l2 K L1 (d + 1))) (.lptr (latC n f)) b0.1 b0.2 (x : Int) (((meetO n r x y).getD 0 : Nat) : Int) (((joinO n r x y).getD 0 : Nat) : Int) n (x : Int) n (y : Int) true h := fun e => by
      unfold s73c3
      exact ifT_pos rfl (retG_drop W.old (no y hy e))
    cases e1 : (meetO n r x y).isSome with
    | false => exact ifT_pos rfl (bad (by unfold tabB; rw [e1, Bool.false_and]))
    | true =>
      refine ifT_neg rfl ?_
      cases e2 : (joinO n r x y).isSome with
      | false => exact bad (by unfold tabB; rw [e2, Bool.and_false])
      | true =>
        have et : tabB n r x y = true := by unfold tabB; rw [e1, e2]; rfl
        show s73c3 K L1 (s73l2_G (s73l2 K L1 (d + 1))) (.lptr (latC n f)) b0.1 b0.2 (x : Int) ((mt n r x y : Nat) : Int) ((jn n r x y : Nat) : Int) n (x : Int) n (y : Int) false h
        unfold s73c3
        refine ifT_neg rfl ?_
        subst hb0
        have lm : (mRow n r x).length = n := by simp [mRow]
        have lj : (jRow n r x).length = n := by simp [jRow]
        refine W.app1 hn hx (by rw [g1.at_, List.length_take]; omega) fun v h2 W2 => ?_
        refine W2.app2 hn hx (by rw [g2.at_, List.length_take]; omega) fun v' h3 W3 => ?_
        refine rg_of (by omega) (by omega) (s73l2_go (tables_l2 hx rfl no yes d (y + 1) (by omega) (fun y' hy' => ?_) _ _ _ _ _ (g1.put (range_get _ hy)) (g2.put (range_get _ hy)) W3))
        by_cases e3 : y' = y
        · rw [e3]; exact et
        · exact hb' y' (by omega)
theorem tables_l1 (no : tabsP n r = false → K (.tuple [.nilsl, .nilsl, .bool false]) hb) (yes : tabsP n r = true → ∀ vm vj, Intss vm (mTab n r) → Intss vj (jTab n r) → K (.tuple [vm, vj, .bool true]) hb)
    {b0 : AVal × AVal} (hb0 : b0 = (.sl rm 1 0 n, .sl rj 1 0 n)) : ∀ d x : Nat, x + d = n → (∀ x', x' < x → ∀ y, y < n → tabB n r x' y = true) → ∀ F F' G G' h, GT (mRow n r) x 0 G → GT (jRow n r) x 0 G' → TB2 hb rm rj n F F' G G' h →
      s73l1 K (d + 1) (.lptr (latC n f)) b0.1 b0.2 n (x : Int) h
  | 0, x, hd, hb', F, F', G, G', h, g1, g2, W => by
    obtain rfl : x = n := by omega
    unfold s73l1
    refine ifT_neg (by simp) ?_
    have et : tabsP x r = true := by
      unfold tabsP
      exact all_of fun x' hx' => all_of fun y hy => hb' x' hx' y hy
    subst hb0
    let Sg : Nat → Prop := fun q => nameOf (.sl rm 1 0 x) q ∨ nameOf (.sl rj 1 0 x) q ∨ (∃ k, k < x ∧ nameOf (F k) q) ∨ ∃ k, k < x ∧ nameOf (F' k) q
    have e : ∀ (m j : Ow) (R R' : List Ow), [m, j] ++ (R ++ R') = ([m, j] ++ R) ++ (R' ++ []) := fun m j R R' => by simp
    have i1 := fun k (hk : k < x) => rowsO_at (f := F) (g := G) [.slc 1 (.sl rm 1 0 x) ((List.range x).map F), .slc 1 (.sl rj 1 0 x) ((List.range x).map F')] (rowsO x F' G') hk
    have i2 := fun k (hk : k < x) => rowsO_at (f := F') (g := G') ([.slc 1 (.sl rm 1 0 x) ((List.range x).map F), .slc 1 (.sl rj 1 0 x) ((List.range x).map F')] ++ rowsO x F G) [] hk
    simp only [← e] at i2
    obtain ⟨l1, hl1, hR1⟩ := lits_rows (g := G) W (S := Sg) (List.range x) (fun k hk => ⟨_, i1 k (List.mem_range.1 hk)⟩) (fun k hk q hq => .inr (.inr (.inl ⟨k, List.mem_range.1 hk, hq⟩)))
    obtain ⟨l2, hl2, hR2⟩ := lits_rows (g := G') W (S := Sg) (List.range x) (fun k hk => ⟨_, i2 k (List.mem_range.1 hk)⟩) (fun k hk q hq => .inr (.inr (.inr ⟨k, List.mem_range.1 hk, hq⟩)))
    obtain ⟨m', lm, sm⟩ := W.lit (i := 0) rfl (S := Sg) (fun q hq => .inl hq) hl1
    obtain ⟨j', lj, sj⟩ := W.lit (i := 1) rfl (S := Sg) (fun q hq => .inr (.inl hq)) hl2
    have r1 : (List.range x).map (fun k => natI (G k)) = mTab x r := List.map_congr_left fun k hk => by rw [g1.lo k (List.mem_range.1 hk)]
    have r2 : (List.range x).map (fun k => natI (G' k)) = jTab x r := List.map_congr_left fun k hk => by rw [g2.lo k (List.mem_range.1 hk)]
    rw [r1] at hR1
    rw [r2] at hR2
    refine ⟨Sg, .tuple [m', j', .bool true], hb, .tuple (.cons lm (.cons lj (.cons (.refl _) .nil))), base_step W Sg fun q hs => ?_, yes et m' j' ⟨_, sm, hR1⟩ ⟨_, sj, hR2⟩⟩
    rcases hs with hs | hs | ⟨k, hk, hs⟩ | ⟨k, hk, hs⟩
    · exact W.new 0 _ q rfl hs
    · exact W.new 1 _ q rfl hs
    · exact W.new _ _ q (i1 k hk) hs
    · exact W.new _ _ q (i2 k hk) hs
  | d + 1, x, hd, hb', F, F', G, G', h, g1, g2, W => by
    unfold s73l1
    refine ifT_pos (by simp; omega) ?_
    simp only [addOff_lptr, List.drop_zero, ld1_lptr, tInt_int]
    refine s73l2_in (n + 1) (tables_l2 hf hn (by omega) hb0 (fun y hy ey => no ?_) (fun hall F1 F1' G1 G1' h1 k1 k2 W1 => ?_) n 0 (by omega) (fun y' hy' => by omega) F F' G G' h g1 g2 W)
    · unfold tabsP
      exact all_not (x := x) (by omega) (all_not hy ey)
    · have lm : (mRow n r x).length = n := by simp [mRow]
      have lj : (jRow n r x).length = n := by simp [jRow]
      refine s73l1_go (tables_l1 no yes hb0 d (x + 1) (by omega) (fun x' hx' y hy => ?_) F1 F1' G1 G1' h1 (k1.next (by omega)) (k2.next (by omega)) W1)
      by_cases e3 : x' = x
      · rw [e3]; exact hall y hy
      · exact hb' x' (by omega) y hy
omit hf hn in
theorem rowsO_nil (q : Nat) : rowsO q (fun _ => .nilsl) (fun _ => []) = (List.range q).map fun _ => .slc 1 .nilsl [] := rfl
omit hf hn in
theorem map_nil_rep (n : Nat) : (List.range n).map (fun _ => AVal.nilsl) = List.replicate n .nilsl := by
  refine List.ext_getElem (by simp) fun i h1 h2 => ?_
  simp
omit hf hn in
theorem gt_start (R : Nat → List Nat) : GT R 0 0 fun _ => [] := ⟨fun k hk => by omega, rfl, fun _ _ => rfl⟩
theorem tables_ok (no : tabsP n r = false → K (.tuple [.nilsl, .nilsl, .bool false]) h) (yes : tabsP n r = true → ∀ vm vj, Intss vm (mTab n r) → Intss vj (jTab n r) → K (.tuple [vm, vj, .bool true]) h) : ACalls prog 73 [latV n f] h K := by
  refine s73_ok ?_
  unfold s73
  refine ⟨mkS_own (by omega) (by omega) fun ra hra => ⟨rfl, mkS_own (by omega) (by omega) fun rb hrb => ?_⟩, mkS_own (by omega) (by omega) fun ra hra => ⟨rfl, mkS_own (by omega) (by omega) fun rb hrb => ?_⟩⟩
  · have W0 := (Own.start h).newS hra (es := 1) (List.replicate n .nilsl)
    have W1 := W0.newS hrb (es := 1) (List.replicate n .nilsl)
    rw [List.length_replicate] at W1
    have W2 := newNs (newNs W1 n) n
    rw [List.append_assoc, ← rowsO_nil, ← map_nil_rep] at W2
    rw [← map_nil_rep]
    exact s73l1_in (n + 1) (tables_l1 hf hn no yes (rm := ra) (rj := rb) (b0 := (.sl ra 1 0 n, .sl rb 1 0 n)) rfl n 0 (by omega) (fun x' hx' => by omega) _ _ _ _ _ (gt_start _) (gt_start _) W2)
  · have W0 := (Own.start h).newS hra (es := 1) (List.replicate n .nilsl)
    have W1 := W0.newS hrb (es := 1) (List.replicate n .nilsl)
    rw [List.length_replicate] at W1
    have W1' := W1.renum [.slc 1 (.sl rb 1 0 n) (List.replicate n .nilsl), .slc 1 (.sl ra 1 0 n) (List.replicate n .nilsl)] (fun j => 1 - j) (fun j y hj => by
      match j, hj with
      | 0, hj => exact hj
      | 1, hj => exact hj
      | j + 2, hj => simp at hj) (show ∀ j, j < 2 → ∀ k, k < 2 → _ = _ → j = k by omega)
    have W2 := newNs (newNs W1' n) n
    rw [List.append_assoc, ← rowsO_nil, ← map_nil_rep] at W2
    rw [← map_nil_rep]
    exact s73l1_in (n + 1) (tables_l1 hf hn no yes (rm := rb) (rj := ra) (b0 := (.sl rb 1 0 n, .sl ra 1 0 n)) rfl n 0 (by omega) (fun x' hx' => by omega) _ _ _ _ _ (gt_start _) (gt_start _) W2)
end
end Go.Proofs.YtljglglbfcgjpaaGreat

namespace Go.Proofs.YtljglglbfcgjpaaGreat
open Go Go.Sym Go.Proofs.Tryz
/- ---- a map as a set ---- -/
def mapV (V : List Nat) : List (AVal × AVal) := V.map fun (v : Nat) => (.int .i64 (v : Int), .int .i64 1)
theorem find_in {v : Nat} : ∀ (V : List Nat) (i : Nat), v ∈ V → ∃ j, findM (.int .i64 (v : Int)) (mapV V) i = some (some (j, .int .i64 1))
  | [], _, h => by simp at h
  | x :: V, i, h => by
    show ∃ j, findM (.int .i64 (v : Int)) ((.int .i64 (x : Int), .int .i64 1) :: mapV V) i = _
    unfold findM keyEq
    simp only [decide_true]
    by_cases e : v = x
    · subst e
      exact ⟨i, by simp⟩
    · rw [show ((v : Int) == (x : Int)) = false by rw [beq_eq_false_iff_ne]; omega]
      exact find_in V (i + 1) (by simpa [e] using h)
theorem find_out {v : Nat} : ∀ (V : List Nat) (i : Nat), v ∉ V → findM (.int .i64 (v : Int)) (mapV V) i = some none
  | [], _, _ => rfl
  | x :: V, i, h => by
    show findM (.int .i64 (v : Int)) ((.int .i64 (x : Int), .int .i64 1) :: mapV V) i = _
    unfold findM keyEq
    simp only [decide_true]
    have h1 : v ≠ x ∧ v ∉ V := by simpa using h
    rw [show ((v : Int) == (x : Int)) = false by rw [beq_eq_false_iff_ne]; have := h1.1; omega]
    exact find_out V (i + 1) h1.2
theorem mapGet_in {h : Heap} {rm : Nat} {V : List Nat} (hm : h rm = some (.map (mapV V))) {v : Nat} (hv : v ∈ V) {K : AVal → Bool → Prop} (hk : K (.int .i64 1) true) : mapGet (.int .i64 0) h (.mapr rm) (.int .i64 (v : Int)) K := by
  obtain ⟨j, e⟩ := find_in V 0 hv
  unfold mapGet mapGetR entsA
  simp only [hm, e]
  exact hk
theorem mapGet_out {h : Heap} {rm : Nat} {V : List Nat} (hm : h rm = some (.map (mapV V))) {v : Nat} (hv : v ∉ V) {K : AVal → Bool → Prop} (hk : K (.int .i64 0) false) : mapGet (.int .i64 0) h (.mapr rm) (.int .i64 (v : Int)) K := by
  unfold mapGet mapGetR entsA
  simp only [hm, find_out V 0 hv]
  exact hk
theorem mapPut_out {h : Heap} {rm : Nat} {V : List Nat} (hm : h rm = some (.map (mapV V))) {v : Nat} (hv : v ∉ V) {K : Heap → Prop} (hk : K (h.set rm (.map (mapV (V ++ [v]))))) : mapPut h (.mapr rm) (.int .i64 (v : Int)) (.int .i64 1) K := by
  unfold mapPut mapPutR putM
  simp only [hm, find_out V 0 hv]
  simpa [mapV] using hk
theorem Heap.set_self {h : Heap} {r : Nat} {o : AObj} (hr : h r = some o) : h.set r o = h := by
  funext q
  simp only [Heap.set]
  split
  · rename_i e; rw [e, hr]
  · rfl
/- ---- a measure ---- -/
theorem filter_le {α : Type} {p q : α → Bool} : ∀ (l : List α), (∀ x, p x = true → q x = true) → (l.filter p).length ≤ (l.filter q).length
  | [], _ => by simp
  | a :: l, h => by
    have ih := filter_le l h
    by_cases e : p a = true
    · rw [List.filter_cons_of_pos e, List.filter_cons_of_pos (h a e)]
      simp only [List.length_cons]; omega
    · rw [List.filter_cons_of_neg e]
      by_cases e2 : q a = true
      · rw [List.filter_cons_of_pos e2]; simp only [List.length_cons]; omega
      · rw [List.filter_cons_of_neg e2]; exact ih
theorem filter_lt {α : Type} {p q : α → Bool} {x : α} : ∀ (l : List α), (∀ x, p x = true → q x = true) → x ∈ l → q x = true → p x = false → (l.filter p).length < (l.filter q).length
  | [], _, hx, _, _ => by simp at hx
  | a :: l, h, hx, hq, hp => by
    rcases List.mem_cons.1 hx with rfl | hx
    · rw [List.filter_cons_of_neg (by rw [hp]; decide), List.filter_cons_of_pos hq]
      have := filter_le l h
      simp only [List.length_cons]; omega
    · have ih := filter_lt l h hx hq hp
      by_cases e : p a = true
      · rw [List.filter_cons_of_pos e, List.filter_cons_of_pos (h a e)]
        simp only [List.length_cons]; omega
      · rw [List.filter_cons_of_neg e]
        by_cases e2 : q a = true
        · rw [List.filter_cons_of_pos e2]; simp only [List.length_cons]; omega
        · rw [List.filter_cons_of_neg e2]; exact ih
def outN (n : Nat) (V : List Nat) : Nat := ((List.range n).filter fun x => decide (x ∉ V)).length
theorem outN_le {n : Nat} {V W : List Nat} (h : ∀ x ∈ V, x ∈ W) : outN n W ≤ outN n V := filter_le _ fun x hx => by
  simp only [decide_eq_true_eq] at hx ⊢
  exact fun hv => hx (h x hv)
theorem outN_lt {n : Nat} {V : List Nat} {v : Nat} (hv : v < n) (ho : v ∉ V) : outN n (V ++ [v]) < outN n V :=
  filter_lt (x := v) _ (fun x hx => by
    simp only [decide_eq_true_eq] at hx ⊢
    exact fun h => hx (List.mem_append_left _ h)) (List.mem_range.2 hv) (by simpa using ho) (by simp)
end Go.Proofs.YtljglglbfcgjpaaGreat

namespace Go.Proofs.YtljglglbfcgjpaaGreat
open Go Go.Sym Go.Proofs.Tryz
variable {K : AVal → Heap → Prop}
def LeqF (f : AVal) (up : List (List Int)) : Prop := ∃ o, f = .func (.func 157) [] [.lptr [o]] ∧ OTab o up
theorem leq_call {f : AVal} {up : List (List Int)} {h : Heap} (hf : LeqF f up) {a b : Nat} (ha : a < up.length) (hb : b < up.length) (hk : K (.bool (rb up a b)) h) : callV prog f [.int .i64 a, .int .i64 b] h K := by
  obtain ⟨o, rfl, hO⟩ := hf
  show callG prog 157 ([] ++ [.int .i64 a, .int .i64 b] ++ [.lptr [o]]) h K
  refine callG_of (s157_ok ?_)
  unfold s157
  obtain ⟨e, hrow, _, hix⟩ := hO.row (h' := h) ha
  rw [ld1_lptr, hrow, hix b hb, tBool_bool]
  exact retG_of hk
theorem BF.perm {up : List (List Int)} {a : Nat} {marks : List Bool} {W W' : List Nat} (B : BF up a marks W) (hl : W'.length = W.length) (hm : ∀ x, x ∈ W' ↔ x ∈ W) : BF up a marks W' :=
  ⟨B.len, by rw [hl]; exact B.cnt, fun x hx => B.reach x ((hm x).1 hx), fun x => (B.mkd x).trans (hm x).symm⟩
section
variable {h0 h00 : Heap} {up : List (List Int)} {ro ra a : Nat} {R : List AVal}
theorem reckon_l3 (hn : up.length ≤ 1073741824) (bad : ¬ InR up → K (.tuple [.nilfunc, .bool false]) h00) (hsub : ∀ q o, h00 q = some o → h0 q = some o)
    {L1 : AVal → Int → AVal → Int → Int → Heap → Prop} {L2 : AVal → Int → AVal → AVal → AVal → Int → Int → Heap → Prop} {m row abv : AVal} {r : List Int} {x : Nat} {t18 t19 : Int} (hrow : Ints row r) (hr : r.length ≤ 1073741824)
    (hx : up[x]? = some r) (hax : Reach up a x) {marks0 : List Bool} {D : List Nat}
    (hL : ∀ marks S st hb h, BF up a marks (D ++ S) → OM h0 ro ra a up.length R marks hb → Stk 1 hb st (natV S) h → (∀ y : Nat, marks0[y]? = some true → marks[y]? = some true) →
      (∀ b ∈ r, 0 ≤ b ∧ b < up.length ∧ marks[b.toNat]? = some true) → L2 m up.length abv (.sl ra 1 0 up.length) st t18 t19 h) :
    ∀ d k : Nat, k + d = r.length → ∀ marks S st hb h, BF up a marks (D ++ S) → OM h0 ro ra a up.length R marks hb → Stk 1 hb st (natV S) h → (∀ y : Nat, marks0[y]? = some true → marks[y]? = some true) →
      (∀ b ∈ r.take k, 0 ≤ b ∧ b < up.length ∧ marks[b.toNat]? = some true) → s139l3 K L1 L2 (d + 1) m up.length abv (.sl ra 1 0 up.length) st t18 t19 row r.length (k : Int) h
  | 0, k, hd, marks, S, st, hb, h, B, M, g, hmono, hdone => by
    unfold s139l3
    refine ifT_neg (by simp; omega) (hL marks S st hb h B M g hmono ?_)
    rwa [List.take_of_length_le (by omega)] at hdone
  | d + 1, k, hd, marks, S, st, hb, h, B, M, g, hmono, hdone => by
    have hk : k < r.length := by omega
    unfold s139l3
    refine ifT_pos (by simp; omega) ?_
    rw [hrow.ix hk, ld1_lptr, tInt_int]
    have key : s139c5 K L1 L2 (s139l3_G (s139l3 K L1 L2 (d + 1))) m up.length abv (.sl ra 1 0 up.length) st r[k] t18 t19 row r.length k (decide (r[k] < 0) || decide ((up.length : Int) ≤ r[k])) h := by
      by_cases hbad : r[k] < 0 ∨ (up.length : Int) ≤ r[k]
      · refine ifT_pos (by simpa using hbad) (retG_drop (fun q o hq => g.old (M.old (hsub q o hq))) (bad fun hI => ?_))
        have := hI r (List.mem_of_getElem? hx) r[k] (List.getElem_mem hk)
        omega
      · refine ifT_neg (by simpa using hbad) ?_
        obtain ⟨b, hbk⟩ : ∃ b : Nat, r[k] = (b : Int) := ⟨r[k].toNat, by omega⟩
        have hbn : b < up.length := by omega
        rw [hbk]
        have hbm : b < marks.length := by rw [B.len]; exact hbn
        refine ixS_sl0 hbn ?_
        rw [ld1_ptr (g.old M.get_a) (e := .bool marks[b]) (by simp [hbm]) rfl, tBool_bool]
        have hstep : Reach up a b := .tail hax ⟨r, hx, by rw [← hbk]; exact List.getElem_mem hk⟩
        have next : ∀ marks' S' st' hb' h', BF up a marks' (D ++ S') → OM h0 ro ra a up.length R marks' hb' → Stk 1 hb' st' (natV S') h' → (∀ y : Nat, marks[y]? = some true → marks'[y]? = some true) → marks'[b]? = some true →
            s139c4 K L1 L2 (s139l3_G (s139l3 K L1 L2 (d + 1))) m up.length abv (.sl ra 1 0 up.length) st' t18 t19 row r.length k h' := by
          intro marks' S' st' hb' h' B' M' g' hm' hmb
          refine rg_of (by omega) (by omega) (s139l3_go (reckon_l3 hn bad hsub hrow hr hx hax hL d (k + 1) (by omega) marks' S' st' hb' h' B' M' g' (fun y hy => hm' y (hmono y hy)) ?_))
          rw [List.take_succ_eq_append_getElem hk]
          intro c hc
          rcases List.mem_append.1 hc with hc | hc
          · obtain ⟨h1, h2, h3⟩ := hdone c hc
            exact ⟨h1, h2, hm' _ h3⟩
          · rw [List.mem_singleton.1 hc, hbk]
            exact ⟨by omega, by omega, by simpa using hmb⟩
        cases hmk : marks[b] with
        | true => exact ifT_neg rfl (next marks S st hb h B M g (fun _ hy => hy) (by rw [List.getElem?_eq_getElem hbm, hmk]))
        | false =>
          refine ifT_pos rfl (ixS_sl0 hbn (st_elem (g.old M.get_a) (e := .bool marks[b]) (by simp [hbm]) rfl ?_))
          rw [show (marks.map AVal.bool).set b (.bool true) = (marks.set b true).map .bool by rw [List.map_set]]
          have B' := B.add (b := b) (by rw [List.getElem?_eq_getElem hbm, hmk]) hstep
          have g' := g.upd (x := .row 1 ((marks.set b true).map .bool)) M.get_a
          have hcnt := B'.cnt
          rw [List.append_assoc] at B' hcnt
          have hlen : (D ++ S).length + 1 ≤ up.length := by simp only [List.length_append, List.length_singleton] at hcnt ⊢; omega
          have hlen2 : S.length + 1 ≤ up.length := by simp only [List.length_append] at hlen; omega
          refine appC_stk g' (by rw [natV_len]; omega) (by rw [natV_len]; omega) fun v' h' g2 => ?_
          rw [← natV_app] at g2
          refine next _ (S ++ [b]) v' _ h' B' M.put g2 (fun y hy => ?_) (by simp [hbm])
          rw [List.getElem?_set]
          by_cases e : b = y
          · subst e; simp [hbm]
          · rw [if_neg e]; exact hy
    by_cases h0' : r[k] < 0
    · refine ifT_pos (by simpa using h0') ?_
      rwa [show (decide (r[k] < 0) || decide ((up.length : Int) ≤ r[k])) = true by simp [h0']] at key
    · refine ifT_neg (by simpa using h0') ?_
      rwa [show (decide (r[k] < 0) || decide ((up.length : Int) ≤ r[k])) = decide ((up.length : Int) ≤ r[k]) by simp [h0']] at key
theorem reckon_l2 (hn : up.length ≤ 1073741824) (hrl : ∀ r ∈ up, r.length ≤ 1073741824) (bad : ¬ InR up → K (.tuple [.nilfunc, .bool false]) h00) (hsub : ∀ q o, h00 q = some o → h0 q = some o)
    {L1 : AVal → Int → AVal → Int → Int → Heap → Prop} {mU mV abv : AVal} {t18 : Int} (hU : Intss mU up) (han : a < up.length)
    (hL : ∀ st hb h, OM h0 ro ra a up.length R (rowB up a) hb → Stk 1 hb st [] h → (∀ b ∈ up[a], 0 ≤ b ∧ b < up.length) → L1 (.lptr [mU, mV]) up.length abv t18 (a + 1) h) :
    ∀ d : Nat, ∀ marks D S st hb h, D.length + d = up.length → (a ∈ D ++ S) → BF up a marks (D ++ S) → OM h0 ro ra a up.length R marks hb → Stk 1 hb st (natV S) h →
      (∀ y ∈ D, ∀ r, up[y]? = some r → ∀ b ∈ r, 0 ≤ b ∧ b < up.length ∧ marks[b.toNat]? = some true) →
      s139l2 K L1 (d + 1) (.lptr [mU, mV]) up.length abv (.sl ra 1 0 up.length) st t18 (a : Int) h := by
  intro d
  have fin : ∀ marks D st hb h d, a ∈ D → BF up a marks D → OM h0 ro ra a up.length R marks hb → Stk 1 hb st (natV []) h →
      (∀ y ∈ D, ∀ r, up[y]? = some r → ∀ b ∈ r, 0 ≤ b ∧ b < up.length ∧ marks[b.toNat]? = some true) →
      s139l2 K L1 (d + 1) (.lptr [mU, mV]) up.length abv (.sl ra 1 0 up.length) st t18 (a : Int) h := by
    intro marks D st hb h d haD B M g hcl
    unfold s139l2
    rw [g.len]
    refine ifT_neg (by simp [natV]) (rg_of (by omega) (by omega) ?_)
    have hm := B.done haD fun y hy c ⟨r, hr, hc⟩ => by
      have := (hcl y hy r hr _ hc).2.2
      simpa using this
    rw [hm] at M
    exact hL st hb h M g fun b hb => by
      have h1 := hcl a haD _ (List.getElem?_eq_getElem han) b hb
      exact ⟨h1.1, h1.2.1⟩
  induction d with
  | zero =>
    intro marks D S st hb h hd haD B M g hcl
    have hS : S = [] := by
      have := B.cnt
      simp only [List.length_append] at this
      exact List.eq_nil_of_length_eq_zero (by omega)
    subst hS
    rw [List.append_nil] at B haD
    exact fin marks D st hb h 0 haD B M g hcl
  | succ d ih =>
    intro marks D S st hb h hd haD B M g hcl
    rcases List.eq_nil_or_concat S with rfl | ⟨S', x, rfl⟩
    · rw [List.append_nil] at B haD
      exact fin marks D st hb h (d + 1) haD B M g hcl
    · have hcnt := B.cnt
      simp only [List.length_append, List.length_singleton, List.concat_eq_append] at hcnt
      rw [List.concat_eq_append] at B g haD
      unfold s139l2
      rw [g.len, natV_len]
      refine ifT_pos (by simp) ?_
      rw [g.len, natV_len]
      refine rg_of (by simp only [List.length_append, List.length_singleton]; omega) (by simp only [List.length_append, List.length_singleton]; omega) ?_
      have hlen1 : (((S' ++ [x]).length : Nat) : Int) - 1 = (S'.length : Nat) := by simp
      rw [hlen1]
      refine g.ix (e := .int .i64 (x : Int)) (by rw [natV_app, List.getElem?_append_right (by rw [natV_len]; omega), natV_len]; simp) rfl ?_
      rw [tInt_int, g.len, natV_len, hlen1]
      refine rg_of (by omega) (by omega) ?_
      rw [natV_app] at g
      refine g.pop (by rw [natV_len]) fun st' g' => ?_
      rw [addOff_lptr]
      simp only [List.drop_zero, ld1_lptr]
      obtain ⟨hxn, hxr⟩ := B.reach x (by simp)
      obtain ⟨e, he, hix⟩ := hU.ix hxn
      rw [hix, ld1_lptr, he.len]
      have hup : up[x]? = some up[x] := List.getElem?_eq_getElem hxn
      refine s139l3_in (up[x].length + 1) ?_
      have B1 : BF up a marks ((D ++ [x]) ++ S') := B.perm (by simp only [List.length_append, List.length_singleton]; omega) (by intro y; simp; constructor <;> (rintro (h | h | h) <;> simp [h]))
      refine reckon_l3 (D := D ++ [x]) (marks0 := marks) hn bad hsub he (hrl _ (List.getElem_mem hxn)) hup hxr (fun marks' S2 st2 hb2 h2 B2 M2 g2 hmono hr' => ?_) _ 0 (by omega) marks S' st' hb h B1 M g' (fun _ hy => hy) (by simp)
      refine s139l2_go (ih marks' (D ++ [x]) S2 st2 hb2 h2 (by simp; omega) ?_ B2 M2 g2 ?_)
      · exact (B2.mkd a).1 (hmono a ((B.mkd a).2 haD))
      · intro y hy r hr b hb
        rcases List.mem_append.1 hy with hy | hy
        · obtain ⟨h1, h2, h3⟩ := hcl y hy r hr b hb
          exact ⟨h1, h2, hmono _ h3⟩
        · rw [List.mem_singleton.1 hy, hup] at hr
          cases hr
          exact hr' b hb
end
section
variable {h00 : Heap} {up : List (List Int)} {ro rbx : Nat}
theorem reckon_l1 (hn : up.length ≤ 1073741824) (hrl : ∀ r ∈ up, r.length ≤ 1073741824) (bad : ¬ InR up → K (.tuple [.nilfunc, .bool false]) h00) (good : InR up → ∀ f, LeqF f up → K (.tuple [f, .bool true]) h00)
    {mU mV : AVal} (hU : Intss mU up) (ho : h00 ro = none) (hx : h00 rbx = none) (hne : rbx ≠ ro) : ∀ d a : Nat, a + d = up.length → ∀ R, TU up a R → (∀ a' r, a' < a → up[a']? = some r → ∀ b ∈ r, 0 ≤ b ∧ b < up.length) →
      s139l1 K (d + 1) (.lptr [mU, mV]) up.length (.ptr rbx 0 0) up.length (a : Int) ((h00.set rbx (.row 1 [.sl ro 1 0 up.length])).set ro (.row 1 R))
  | 0, a, hd, R, T, hr => by
    unfold s139l1
    refine ifT_neg (by simp; omega) ?_
    have hbx : ((h00.set rbx (.row 1 [.sl ro 1 0 up.length])).set ro (.row 1 R)) rbx = some (.row 1 [.sl ro 1 0 up.length]) := by rw [Heap.set_ne _ _ hne, Heap.set_same]
    refine ⟨fun q => q = ro ∨ q = rbx, .tuple [.func (.func 157) [] [.lptr [.lsl 1 R]], .bool true], h00,
      .tuple (.cons (.func .nil (.cons (.ptr (.inr rfl) hbx rfl (.cons (.whole (.inl rfl) (Heap.set_same _ _ _) T.len.symm) .nil)) .nil)) (.cons (.refl _) .nil)),
      ⟨fun _ _ => trivial, fun q o hq => ⟨o, ?_, ?_, .refl o⟩⟩, ?_⟩
    · have h1 : q ≠ rbx := fun e => by rw [e, hx] at hq; cases hq
      have h2 : q ≠ ro := fun e => by rw [e, ho] at hq; cases hq
      rw [Heap.set_ne _ _ h2, Heap.set_ne _ _ h1]; exact hq
    · rintro (e | e)
      · rw [e, ho] at hq; cases hq
      · rw [e, hx] at hq; cases hq
    · refine good (fun r hrm b hb => ?_) _ ⟨.lsl 1 R, rfl, R, .lsl 1 R, T.len, fun a' ha' => T.done a' (by omega)⟩
      obtain ⟨j, hj, rfl⟩ := List.mem_iff_getElem.1 hrm
      exact hr j _ (by omega) (List.getElem?_eq_getElem hj) b hb
  | d + 1, a, hd, R, T, hr => by
    have han : a < up.length := by omega
    have ho1 : (h00.set rbx (.row 1 [.sl ro 1 0 up.length])) ro = none := by rw [Heap.set_ne _ _ hne.symm]; exact ho
    unfold s139l1
    refine ifT_pos (by simp; omega) (mkS_own (by omega) (by omega) fun ra hra => ?_)
    have hne2 : ra ≠ ro := fun e => by rw [e, Heap.set_same] at hra; cases hra
    have hne3 : ra ≠ rbx := fun e => by rw [e, Heap.set_ne _ _ hne, Heap.set_same] at hra; cases hra
    have ha0 : (h00.set rbx (.row 1 [.sl ro 1 0 up.length])) ra = none := by rwa [Heap.set_ne _ _ hne2] at hra
    obtain ⟨e0, he0, hagg0⟩ := T.rest a han
    rw [ld1_one (es := 1) (e := .sl ro 1 0 up.length) (by rw [Heap.set_ne _ _ hne3.symm, Heap.set_ne _ _ hne, Heap.set_same]) rfl]
    refine ixS_sl0 han (chk_iff.2 ⟨rfl, ?_⟩)
    refine st_elem (es := 1) (elems := R) (by rw [Heap.set_ne _ _ hne2.symm, Heap.set_same]) he0 hagg0 ?_
    refine ixS_sl0 han ?_
    have hRa : (R.set a (.sl ra 1 0 up.length))[a]? = some (.sl ra 1 0 up.length) := by rw [List.getElem?_set_self]; rw [T.len]; exact han
    refine st_elem (es := 1) (elems := List.replicate up.length (.bool false)) (e := .bool false) (by rw [Heap.set_ne _ _ hne2, Heap.set_same]) (by simp [han]) rfl ?_
    rw [show (List.replicate up.length (AVal.bool false)).set a (.bool true) = ((List.replicate up.length false).set a true).map .bool by rw [List.map_set, List.map_replicate]]
    refine newRow_in fun r hrn => ?_
    have M : OM (h00.set rbx (.row 1 [.sl ro 1 0 up.length])) ro ra a up.length (R.set a (.sl ra 1 0 up.length)) ((List.replicate up.length false).set a true)
        (((((h00.set rbx (.row 1 [.sl ro 1 0 up.length])).set ro (.row 1 R)).set ra (.row 1 (List.replicate up.length (.bool false)))).set ro (.row 1 (R.set a (.sl ra 1 0 up.length)))).set ra (.row 1 (((List.replicate up.length false).set a true).map .bool))) := by
      refine ⟨ho1, ha0, hne2, ?_, hRa, by simp [T.len]⟩
      funext q
      by_cases h1 : q = ra
      · simp [Heap.set, h1]
      · by_cases h2 : q = ro
        · subst h2; simp [Heap.set, h1]
        · simp [Heap.set, h1, h2]
    refine s139l2_in (up.length + 1) ?_
    refine reckon_l2 (ra := ra) (R := R.set a (.sl ra 1 0 up.length)) hn hrl bad (Heap.set_sub hx) hU han (fun st hb h M' g hra' => ?_) up.length _ [] [a] _ _ _ (by simp) (by simp) (by simpa using BF.start han) M
      (by have := Stk.own (es := 1) (l := natV [a]) (junk := []) hrn; simpa [natV] using this) (by simp)
    refine ⟨fun q => q = ra, _, (h00.set rbx (.row 1 [.sl ro 1 0 up.length])).set ro (.row 1 ((R.set a (.sl ra 1 0 up.length)).set a (.lsl 1 ((rowB up a).map .bool)))), Lits.refl _, GStep.row (g.old M'.get_o) hne2 ha0 (fun q o hq => g.old (M'.old hq)) hRa
      (.whole rfl (g.old M'.get_a) (by simp [rowB])), rfl, ?_⟩
    rw [List.set_set]
    have := reckon_l1 (mV := mV) hn hrl bad good hU ho hx hne d (a + 1) (by omega) (R.set a (.lsl 1 ((rowB up a).map .bool))) ⟨by simp [T.len], fun a' ha' => ?_, fun a' ha' => ?_⟩ (fun a' r ha' hr' => ?_)
    · exact this
    · by_cases e : a' = a
      · subst e
        exact ⟨_, List.getElem?_set_self (by rw [T.len]; exact han), rfl, .lsl 1 _⟩
      · rw [List.getElem?_set_ne (Ne.symm e)]
        exact T.done a' (by omega)
    · by_cases e : a' = a
      · subst e
        exact ⟨_, List.getElem?_set_self (by rw [T.len]; exact han), rfl⟩
      · rw [List.getElem?_set_ne (Ne.symm e)]
        exact T.rest a' ha'
    · by_cases e : a' = a
      · subst e
        rw [List.getElem?_eq_getElem han] at hr'
        cases hr'
        exact hra'
      · exact hr a' r (by omega) hr'
theorem reckon_ok {mU mV : AVal} {h : Heap} (hn : up.length ≤ 1048576) (hrl : ∀ r ∈ up, r.length ≤ 1073741824) (hU : Intss mU up) (bad : ¬ InR up → K (.tuple [.nilfunc, .bool false]) h) (good : InR up → ∀ f, LeqF f up → K (.tuple [f, .bool true]) h) :
    ACalls prog 139 [.agg [mU, mV]] h K := by
  refine s139_ok ?_
  unfold s139
  rw [hU.len]
  refine mkS_own (by omega) (by omega) fun ro hro => newRow_in fun rbx hrbx => chk_iff.2 ⟨rfl, ?_⟩
  have hne : rbx ≠ ro := fun e => by rw [e, Heap.set_same] at hrbx; cases hrbx
  have hx : h rbx = none := by rwa [Heap.set_ne _ _ hne] at hrbx
  refine st_elem (Heap.set_same _ _ _) rfl rfl ?_
  rw [show [AVal.nilsl].set 0 (.sl ro 1 0 up.length) = [.sl ro 1 0 up.length] from rfl, ld1_one (Heap.set_same _ _ _) rfl, lenN_sl]
  refine s139l1_in (up.length + 1) ?_
  have he : (((h.set ro (.row 1 (List.replicate up.length .nilsl))).set rbx (.row 1 [.nilsl])).set rbx (.row 1 [.sl ro 1 0 up.length])) =
      (h.set rbx (.row 1 [.sl ro 1 0 up.length])).set ro (.row 1 (List.replicate up.length .nilsl)) := by
    rw [Heap.set_set, Heap.set_comm _ _ _ hne]
  rw [he]
  exact reckon_l1 (by omega) hrl bad good hU hro hx hne up.length 0 (by omega) _ ⟨by simp, by intro a' ha'; omega, fun a' ha' => ⟨.nilsl, by simp [ha'], rfl⟩⟩ (by intro a' r ha'; omega)
end
end Go.Proofs.YtljglglbfcgjpaaGreat

namespace Go.Proofs.YtljglglbfcgjpaaGreat
open Go Go.Sym Go.Proofs.Tryz
variable {K : AVal → Heap → Prop} {h : Heap} {up : List (List Int)} {val : List (List ByteArray)} {mU mV : AVal}
theorem lacks_call {l : List ByteArray} {e : AVal} {r b : Nat} (hV : Strss mV val) (S : Small up val) (hb : b < val.length) {h : Heap} (hr : h r = some (.row 1 [.int .i64 (b : Int)])) (s : ByteArray) (K : AVal → Heap → Prop)
    (hk : K (.bool (!inS val[b] s)) h) : callV prog (.func (.func 142) [] [.lptr [mU, mV], .ptr r 0 0]) [.str s] h K := by
  show callG prog 142 ([] ++ [.str s] ++ [.lptr [mU, mV], .ptr r 0 0]) h K
  refine callG_of (s142_ok ?_)
  unfold s142
  obtain ⟨eb, heb, hix⟩ := hV.ix hb
  rw [addOff_lptr]
  simp only [List.drop_succ_cons, List.drop_zero, ld1_lptr]
  rw [ld1_one hr rfl, tInt_int, hix, ld1_lptr]
  refine callG_of (containsS_ok heb ((S.names _ (List.getElem_mem hb)).1).1 ?_)
  rw [tBool_bool]
  exact retG_of hk
theorem looked_l3 (S : Small up val) (hV : Strss mV val) {f : AVal} (hF : LeqF f up) (hl : val.length = up.length) (hn : up.length ≤ 512) {a : Nat} (ha : a < up.length) {ea : AVal} (hea : Strs ea (val[a]'(by omega)))
    (bad : ¬ WF up val → K (.tuple [.nilfunc, .bool false]) h) {L2 : AVal → Int → AVal → AVal → Int → Int → Heap → Prop} {t34 : AVal} {t35 : Int} (hL : (∀ b, b < up.length → Cond up val a b) → L2 (.lptr [mU, mV]) up.length f t34 t35 (a + 1) h) :
    ∀ d b : Nat, b + d = up.length → (∀ b', b' < b → Cond up val a b') → s116l3 K L2 (d + 1) (.lptr [mU, mV]) up.length f a ea t34 t35 a up.length (b : Int) h := by
  intro d
  induction d with
  | zero =>
    intro b hd hk
    unfold s116l3
    exact ifT_neg (by simp; omega) (rg_of (by omega) (by omega) (hL fun b' hb' => hk b' (by omega)))
  | succ d ih =>
    intro b hd hk
    have hb : b < up.length := by omega
    unfold s116l3
    refine ifT_pos (by simp; omega) (newRow_in fun r hr => ?_)
    refine st_elem (Heap.set_same _ _ _) rfl rfl ?_
    rw [show [AVal.int .i64 0].set 0 (.int .i64 (b : Int)) = [.int .i64 (b : Int)] from rfl, Heap.set_set, ld1_one (Heap.set_same _ _ _) rfl, tInt_int]
    have next : Cond up val a b → s116c4 K L2 (s116l3_G (s116l3 K L2 (d + 1))) (.lptr [mU, mV]) up.length f a ea t34 t35 a up.length b (h.set r (.row 1 [.int .i64 (b : Int)])) := by
      intro hc
      refine rg_of (by omega) (by omega) ⟨_, _, h, Lits.refl _, GStep.drop (Heap.set_sub hr), rfl, ?_⟩
      have := ih (b + 1) (by omega) fun b' hb' => by
        by_cases e : b' = b
        · rw [e]; exact hc
        · exact hk b' (by omega)
      exact this
    have stop : ¬ WF up val → retG (.tuple [.nilfunc, .bool false]) (h.set r (.row 1 [.int .i64 (b : Int)])) K := fun hW => retG_drop (Heap.set_sub hr) (bad hW)
    by_cases hab : a = b
    · refine ifT_pos (by simp [hab]) (ifT_pos rfl (next fun _ hne => absurd hab hne))
    · refine ifT_neg (by simp; omega) ?_
      rw [ld1_one (Heap.set_same _ _ _) rfl, tInt_int]
      refine leq_call hF ha hb ?_
      rw [tBool_bool]
      cases hr1 : rb up a b with
      | false => exact ifT_pos rfl (next fun hR => by rw [rb_iff.2 hR] at hr1; cases hr1)
      | true =>
        refine ifT_neg rfl ?_
        rw [ld1_one (Heap.set_same _ _ _) rfl, tInt_int]
        refine leq_call hF hb ha ?_
        rw [tBool_bool]
        cases hr2 : rb up b a with
        | true => exact ifT_pos rfl (ifT_pos rfl (stop fun W => (W.cond a b ha hb (rb_iff.1 hr1) hab).1 (rb_iff.1 hr2)))
        | false =>
          have hva : a < val.length := by omega
          have hvb : b < val.length := by omega
          refine ifT_neg rfl (callG_of (containsFS_ok (p := fun s => !inS val[b] s) hea ((S.names _ (List.getElem_mem hva)).1).1 (fun s _ K' hk' => lacks_call (l := val[a]) (e := ea) hV S hvb (Heap.set_same _ _ _) s K' hk') ?_))
          rw [tBool_bool]
          cases hany : val[a].any fun s => !inS val[b] s with
          | true =>
            refine ifT_pos rfl (stop fun W => ?_)
            obtain ⟨s, hs, hn'⟩ := List.any_eq_true.1 hany
            have := (W.cond a b ha hb (rb_iff.1 hr1) hab).2
            rw [getD_val hva, getD_val hvb] at this
            rw [inS_iff.2 (this s hs)] at hn'
            cases hn'
          | false =>
            refine ifT_neg rfl (next fun _ _ => ⟨(fun e => by rw [rb_iff.2 e] at hr2; cases hr2), ?_⟩)
            rw [getD_val hva, getD_val hvb]
            intro s hs
            have := List.any_eq_false.1 hany s hs
            exact inS_iff.1 (by simpa using this)
theorem looked_l2 (S : Small up val) (hU : Intss mU up) (hV : Strss mV val) {f : AVal} (hF : LeqF f up) (hl : val.length = up.length) (hn : up.length ≤ 512)
    (bad : ¬ WF up val → K (.tuple [.nilfunc, .bool false]) h) (good : (∀ l ∈ val, fineB l = true) → (∀ a b, a < up.length → b < up.length → Cond up val a b) → K (.tuple [f, .bool true]) h) :
    ∀ d a : Nat, a + d = up.length → (∀ l ∈ val.take a, fineB l = true) → (∀ a' b, a' < a → b < up.length → Cond up val a' b) → s116l2 K (d + 1) (.lptr [mU, mV]) up.length f mV up.length (a : Int) h := by
  intro d
  induction d with
  | zero =>
    intro a hd hk hc
    unfold s116l2
    rw [List.take_of_length_le (by omega)] at hk
    exact ifT_neg (by simp; omega) (retG_of (good hk fun a' b ha' hb' => hc a' b (by omega) hb'))
  | succ d ih =>
    intro a hd hk hc
    have ha : a < val.length := by omega
    obtain ⟨ea, hea, hixa⟩ := hV.ix ha
    unfold s116l2
    refine ifT_pos (by simp; omega) ?_
    rw [hixa, ld1_lptr]
    refine callG_of (rising_ok hea (S.names _ (List.getElem_mem ha)).1 ?_)
    rw [tBool_bool]
    cases hf : fineB val[a] with
    | false =>
      refine ifT_pos rfl (retG_of (bad fun W => ?_))
      have := W.fine _ (List.getElem_mem ha)
      rw [hf] at this; cases this
    | true =>
      refine ifT_neg rfl (s116l3_in (up.length + 1) ?_)
      refine looked_l3 S hV hF hl hn (by omega) hea bad (fun hca => s116l2_go (ih (a + 1) (by omega) ?_ fun a' b ha' hb' => ?_)) up.length 0 (by omega) (by intro b' hb'; omega)
      · rw [List.take_succ_eq_append_getElem ha]
        intro l hl'
        rcases List.mem_append.1 hl' with hl' | hl'
        · exact hk l hl'
        · rw [List.mem_singleton.1 hl']; exact hf
      · by_cases e : a' = a
        · rw [e]; exact hca b hb'
        · exact hc a' b (by omega) hb'
theorem looked_ok (S : Small up val) (hU : Intss mU up) (hV : Strss mV val) (bad : ¬ WF up val → K (.tuple [.nilfunc, .bool false]) h) (good : WF up val → ∀ f, LeqF f up → K (.tuple [f, .bool true]) h) :
    ACalls prog 116 [.agg [mU, mV]] h K := by
  refine s116_ok ?_
  have hup := S.ups
  unfold s116
  rw [hU.len]
  by_cases h1 : up.length < 1
  · exact ifT_pos (by simp; omega) (ifT_pos rfl (retG_of (bad fun W => by have := W.pos; omega)))
  · refine ifT_neg (by simp; omega) ?_
    by_cases h2 : 512 < up.length
    · exact ifT_pos (by simp; omega) (ifT_pos rfl (retG_of (bad fun W => by have := W.max; omega)))
    · refine ifT_neg (by simp; omega) ?_
      rw [hV.len]
      by_cases h3 : val.length = up.length
      · refine ifT_neg (by simp [h3]) ?_
        rw [ldN_agg2, tCons_cons, tCons_cons, tNil_nil]
        refine callG_of (reckon_ok hup (fun r hr => by have := S.row r hr; omega) hU (fun hI => ?_) fun hI f hF => ?_)
        · simp only [tTup_tuple, tCons_cons, tBool_bool, tNil_nil]
          exact ifT_pos rfl (retG_of (bad fun W => hI W.inR))
        · simp only [tTup_tuple, tCons_cons, tBool_bool, tNil_nil]
          refine ifT_neg rfl ?_
          rw [addOff_lptr]
          simp only [List.drop_succ_cons, List.drop_zero, ld1_lptr]
          rw [hV.len, h3]
          exact s116l2_in (up.length + 1) (looked_l2 S hU hV hF h3 (by omega) bad (fun hf hc => good ⟨by omega, by omega, h3, hI, hf, hc⟩ f hF) up.length 0 (by omega) (by simp) (by intro a' b ha'; omega))
      · exact ifT_pos (by simp; omega) (retG_of (bad fun W => h3 W.len))
theorem asked_loop {f ws : AVal} {l : List Int} (hU : Intss mU up) (hn : up.length ≤ 512) (hw : Ints ws l) (hm : l.length ≤ 1048576) (bad : ¬ (∀ w ∈ l, 0 ≤ w ∧ w < up.length) → K (.tuple [.nilfunc, .int .i64 2]) h)
    (good : (∀ w ∈ l, 0 ≤ w ∧ w < up.length) → K (.tuple [f, .int .i64 0]) h) : ∀ d i : Nat, i + d = l.length → (∀ w ∈ l.take i, 0 ≤ w ∧ w < up.length) → s79l1 K (d + 1) (.lptr [mU, mV]) f ws l.length (i : Int) h
  | 0, i, hd, hk => by
    unfold s79l1
    rw [List.take_of_length_le (by omega)] at hk
    exact ifT_neg (by simp; omega) (retG_of (good hk))
  | d + 1, i, hd, hk => by
    have hi : i < l.length := by omega
    unfold s79l1
    refine ifT_pos (by simp; omega) ?_
    rw [hw.ix hi, ld1_lptr, tInt_int]
    by_cases h0 : l[i] < 0
    · exact ifT_pos (by simpa using h0) (ifT_pos rfl (retG_of (bad fun hall => by have := hall _ (List.getElem_mem hi); omega)))
    · refine ifT_neg (by simpa using h0) ?_
      rw [addOff_lptr]
      simp only [List.drop_zero, ld1_lptr]
      rw [hU.len]
      by_cases h1 : (up.length : Int) ≤ l[i]
      · exact ifT_pos (by simpa using h1) (retG_of (bad fun hall => by have := hall _ (List.getElem_mem hi); omega))
      · refine ifT_neg (by simpa using h1) (rg_of (by omega) (by omega) (s79l1_go (asked_loop hU hn hw hm bad good d (i + 1) (by omega) ?_)))
        rw [List.take_succ_eq_append_getElem hi]
        intro w hw'
        rcases List.mem_append.1 hw' with hw' | hw'
        · exact hk w hw'
        · rw [List.mem_singleton.1 hw']; omega
theorem asked_ok {ws : AVal} {l : List Int} (S : Small up val) (hU : Intss mU up) (hV : Strss mV val) (hw : Ints ws l) (hm : l.length ≤ 1048576) (bad : ¬ WF up val → K (.tuple [.nilfunc, .int .i64 170]) h)
    (out : WF up val → ¬ (∀ w ∈ l, 0 ≤ w ∧ w < up.length) → K (.tuple [.nilfunc, .int .i64 2]) h) (good : WF up val → (∀ w ∈ l, 0 ≤ w ∧ w < up.length) → ∀ f, LeqF f up → K (.tuple [f, .int .i64 0]) h) :
    ACalls prog 79 [.agg [mU, mV], ws] h K := by
  refine s79_ok (callG_of (looked_ok S hU hV (fun hW => ?_) fun hW f hF => ?_))
  · simp only [tTup_tuple, tCons_cons, tBool_bool, tNil_nil]
    exact ifT_pos rfl (retG_of (bad hW))
  · simp only [tTup_tuple, tCons_cons, tBool_bool, tNil_nil]
    refine ifT_neg rfl ?_
    rw [hw.len]
    exact s79l1_in (l.length + 1) (asked_loop hU hW.max hw hm (out hW) (fun hall => good hW hall f hF) l.length 0 (by omega) (by simp))
theorem check_ok (S : Small up val) (hU : Intss mU up) (hV : Strss mV val) (bad : ¬ WF up val → K (.int .i64 170) h) (good : WF up val → K (.int .i64 0) h) : ACalls prog 59 [.agg [mU, mV]] h K := by
  refine s59_ok (callG_of (asked_ok (l := []) S hU hV (.inr ⟨rfl, rfl⟩) (by simp) (fun hW => ?_) (fun _ hW => absurd (by simp) hW) fun hW _ f hF => ?_))
  · simp only [tTup_tuple, tCons_cons, tInt_int, tNil_nil]
    exact retG_of (bad hW)
  · simp only [tTup_tuple, tCons_cons, tInt_int, tNil_nil]
    exact retG_of (good hW)
end Go.Proofs.YtljglglbfcgjpaaGreat

namespace Go.Proofs.YtljglglbfcgjpaaGreat
open Go Go.Sym Go.Proofs.Tryz
variable {K : AVal → Heap → Prop} {h : Heap} {up : List (List Int)} {val : List (List ByteArray)} {mU mV : AVal}
theorem natV_eq (l : List Nat) : natV l = (natI l).map (.int .i64) := by simp [natV, natI, List.map_map, Function.comp_def]
theorem all_loop {f : AVal} {p : Nat → Bool} {n : Nat} (hn : n ≤ 1048576) (hf : ∀ b, b < n → ∀ (h' : Heap) (K' : AVal → Heap → Prop), (∀ q o, h q = some o → h' q = some o) → K' (.bool (p b)) h' → callV prog f [.int .i64 (b : Int)] h' K')
    (hk : ∀ v, Ints v (natI ((List.range n).filter p)) → K v h) : ∀ d i : Nat, i + d = n → ∀ l_ h', Grow 1 h l_ (natV ((List.range i).filter p)) h' → s80l1 K (d + 1) f l_ n (i : Int) h'
  | 0, i, hd, l_, h', g => by
    unfold s80l1
    refine ifT_neg (by simp; omega) ?_
    obtain ⟨S, v', h1, h2, h3⟩ := g.freeze
    obtain rfl : i = n := by omega
    exact ⟨S, v', h, h1, h3, hk v' (by unfold Ints; rw [← natV_eq]; exact h2)⟩
  | d + 1, i, hd, l_, h', g => by
    unfold s80l1
    refine ifT_pos (by simp; omega) ?_
    refine hf i (by omega) h' _ (fun q o hq => g.old hq) ?_
    rw [tBool_bool]
    have hle : (natV ((List.range i).filter p)).length ≤ i := by
      rw [natV_len]
      have := List.length_filter_le p (List.range i)
      simpa using this
    have hs := range_filter_succ p i
    cases hp : p i with
    | true =>
      rw [hp] at hs
      refine ifT_pos rfl (appC_one g (by omega) (by omega) fun v' h2 g2 => rg_of (by omega) (by omega) (s80l1_go (all_loop hn hf hk d (i + 1) (by omega) v' h2 ?_)))
      rw [hs, if_pos rfl, natV_app]
      exact g2
    | false =>
      rw [hp] at hs
      refine ifT_neg rfl (rg_of (by omega) (by omega) (s80l1_go (all_loop hn hf hk d (i + 1) (by omega) l_ h' ?_)))
      rw [hs]
      simpa using g
theorem all_ok {f : AVal} {p : Nat → Bool} (hU : Intss mU up) (hn : up.length ≤ 1048576) (hf : ∀ b, b < up.length → ∀ (h' : Heap) (K' : AVal → Heap → Prop), (∀ q o, h q = some o → h' q = some o) → K' (.bool (p b)) h' → callV prog f [.int .i64 (b : Int)] h' K')
    (hk : ∀ v, Ints v (natI ((List.range up.length).filter p)) → K v h) : ACalls prog 80 [.agg [mU, mV], f] h K := by
  refine s80_ok ?_
  unfold s80
  rw [hU.len]
  exact s80l1_in (up.length + 1) (all_loop hn hf hk up.length 0 (by omega) .nilsl h .nil)
end Go.Proofs.YtljglglbfcgjpaaGreat

namespace Go.Proofs.YtljglglbfcgjpaaGreat
open Go Go.Proofs Go.Shelf
def layF_ren : Ren := ⟨fun | 6 => 61 | 15 => 67 | 14 => 102 | 28 => 113 | 29 => 114 | 20 => 123 | 21 => 124 | 22 => 125 | 23 => 126 | 24 => 127 | 25 => 128 | 26 => 129 | 27 => 130 | 46 => 153 | 47 => 134 | 48 => 135 | 49 => 154 | 50 => 155 | 57 => 164 | n => n, fun | 22 => 77 | 24 => 80 | 25 => 143 | 3 => 3 | 39 => 89 | 0 => 0 | 53 => 187 | 55 => 88 | 4 => 4 | 46 => 180 | 45 => 179 | 50 => 105 | 5 => 5 | 9 => 9 | 66 => 205 | 70 => 209 | 76 => 219 | 77 => 62 | n => n, fun n => n⟩
set_option maxRecDepth 100000 in
theorem layF : SlLaysF.n6 Tryz.prog layF_ren := {
  mixed := by kernel_rfl,
  f6 := ⟨Tryz.f61.name, by kernel_rfl, Tryz.func61.trans (congrArg some (by kernel_rfl))⟩,
  f14 := ⟨Tryz.f102.name, by kernel_rfl, Tryz.func102.trans (congrArg some (by kernel_rfl))⟩,
  f15 := Tryz.func67.trans (congrArg some (by kernel_rfl)),
  f20 := ⟨Tryz.f123.name, by kernel_rfl, Tryz.func123.trans (congrArg some (by kernel_rfl))⟩,
  f21 := ⟨Tryz.f124.name, by kernel_rfl, Tryz.func124.trans (congrArg some (by kernel_rfl))⟩,
  f22 := ⟨Tryz.f125.name, by kernel_rfl, Tryz.func125.trans (congrArg some (by kernel_rfl))⟩,
  f23 := ⟨Tryz.f126.name, by kernel_rfl, Tryz.func126.trans (congrArg some (by kernel_rfl))⟩,
  f24 := ⟨Tryz.f127.name, by kernel_rfl, Tryz.func127.trans (congrArg some (by kernel_rfl))⟩,
  f25 := ⟨Tryz.f128.name, by kernel_rfl, Tryz.func128.trans (congrArg some (by kernel_rfl))⟩,
  f26 := ⟨Tryz.f129.name, by kernel_rfl, Tryz.func129.trans (congrArg some (by kernel_rfl))⟩,
  f27 := ⟨Tryz.f130.name, by kernel_rfl, Tryz.func130.trans (congrArg some (by kernel_rfl))⟩,
  f28 := Tryz.func113.trans (congrArg some (by kernel_rfl)),
  f29 := Tryz.func114.trans (congrArg some (by kernel_rfl)),
  f46 := ⟨Tryz.f153.name, by kernel_rfl, Tryz.func153.trans (congrArg some (by kernel_rfl))⟩,
  f47 := Tryz.func134.trans (congrArg some (by kernel_rfl)),
  f48 := Tryz.func135.trans (congrArg some (by kernel_rfl)),
  f49 := ⟨Tryz.f154.name, by kernel_rfl, Tryz.func154.trans (congrArg some (by kernel_rfl))⟩,
  f50 := ⟨Tryz.f155.name, by kernel_rfl, Tryz.func155.trans (congrArg some (by kernel_rfl))⟩,
  f57 := ⟨Tryz.f164.name, by kernel_rfl, Tryz.func164.trans (congrArg some (by kernel_rfl))⟩,
  t0 := Tryz.underlying0,
  a0 := Tryz.isAgg0,
  z0 := Tryz.sizeOf0,
  v0 := Tryz.zeroValue0,
  t3 := Tryz.underlying3,
  a3 := Tryz.isAgg3,
  z3 := Tryz.sizeOf3,
  v3 := Tryz.zeroValue3,
  t4 := Tryz.underlying4,
  a4 := Tryz.isAgg4,
  z4 := Tryz.sizeOf4,
  v4 := Tryz.zeroValue4,
  t5 := Tryz.underlying5,
  a5 := Tryz.isAgg5,
  z5 := Tryz.sizeOf5,
  v5 := Tryz.zeroValue5,
  t9 := Tryz.underlying9,
  a9 := Tryz.isAgg9,
  z9 := Tryz.sizeOf9,
  v9 := Tryz.zeroValue9,
  t22 := Tryz.underlying77,
  a22 := Tryz.isAgg77,
  z22 := Tryz.sizeOf77,
  v22 := Tryz.zeroValue77,
  a24 := Tryz.isAgg80,
  z24 := Tryz.sizeOf80,
  t25 := Tryz.underlying143,
  a25 := Tryz.isAgg143,
  z25 := Tryz.sizeOf143,
  v25 := Tryz.zeroValue143,
  t39 := Tryz.underlying89,
  a39 := Tryz.isAgg89,
  z39 := Tryz.sizeOf89,
  v39 := Tryz.zeroValue89,
  t45 := Tryz.underlying179,
  a45 := Tryz.isAgg179,
  z45 := Tryz.sizeOf179,
  v45 := Tryz.zeroValue179,
  t46 := Tryz.underlying180,
  a46 := Tryz.isAgg180,
  z46 := Tryz.sizeOf180,
  v46 := Tryz.zeroValue180,
  t50 := Tryz.underlying105,
  a50 := Tryz.isAgg105,
  z50 := Tryz.sizeOf105,
  v50 := Tryz.zeroValue105,
  t53 := Tryz.underlying187,
  a53 := Tryz.isAgg187,
  z53 := Tryz.sizeOf187,
  v53 := Tryz.zeroValue187,
  t55 := Tryz.underlying88,
  a55 := Tryz.isAgg88,
  z55 := Tryz.sizeOf88,
  v55 := Tryz.zeroValue88,
  t66 := Tryz.underlying205,
  a66 := Tryz.isAgg205,
  z66 := Tryz.sizeOf205,
  v66 := Tryz.zeroValue205,
  t70 := Tryz.underlying209,
  a70 := Tryz.isAgg209,
  z70 := Tryz.sizeOf209,
  v70 := Tryz.zeroValue209,
  t76 := Tryz.underlying219,
  a76 := Tryz.isAgg219,
  z76 := Tryz.sizeOf219,
  v76 := Tryz.zeroValue219,
  t77 := Tryz.underlying62,
  a77 := Tryz.isAgg62,
  z77 := Tryz.sizeOf62,
  v77 := Tryz.zeroValue62 }
end Go.Proofs.YtljglglbfcgjpaaGreat

namespace Go.Proofs.YtljglglbfcgjpaaGreat
open Go Go.Sym Go.Proofs.Tryz
variable {K : AVal → Heap → Prop} {h h0 hb : Heap} {n : Nat}
/- ---------------- texts ---------------- -/
def u8 (l : List Bool) : List UInt8 := l.map fun b => if b then 1 else 0
def bsS (l : List Bool) : ByteArray := ⟨(u8 l).toArray⟩
def bV (l : List Bool) : List AVal := l.map fun b => .int .u8 (if b then 1 else 0)
theorem bsS_size (l : List Bool) : (bsS l).size = l.length := by simp [bsS, u8, ByteArray.size]
theorem bytesV_bsS (l : List Bool) : bytesV (bsS l) = bV l := by
  show (u8 l).map (fun b => AVal.int .u8 (b.toNat : Int)) = _
  unfold bV u8
  rw [List.map_map]
  refine List.map_congr_left fun b _ => ?_
  cases b <;> rfl
theorem btA_bsS (l : List Bool) (i : Nat) : btA (bsS l) (i : Int) = if l.getD i false then 1 else 0 := by
  unfold btA
  rw [Int.toNat_natCast]
  have e : (bsS l)[i]? = (u8 l)[i]? := by
    have hz : (u8 l).length = l.length := by simp [u8]
    by_cases hi : i < (u8 l).length
    · rw [getElem?_pos (bsS l) i (by show i < (bsS l).size; rw [bsS_size]; omega), getElem?_pos (u8 l) i hi]
      rfl
    · rw [getElem?_neg (bsS l) i (by show ¬ i < (bsS l).size; rw [bsS_size]; omega), getElem?_neg (u8 l) i hi]
  rw [e]
  unfold u8
  rw [List.getElem?_map, List.getD_eq_getElem?_getD]
  cases l[i]? with
  | none => rfl
  | some b => cases b <;> rfl
theorem u8_inj : ∀ {a b : List Bool}, u8 a = u8 b → a = b
  | [], [], _ => rfl
  | [], y :: b, h => by simp [u8] at h
  | x :: a, [], h => by simp [u8] at h
  | x :: a, y :: b, h => by
    simp only [u8, List.map_cons, List.cons.injEq] at h
    rw [u8_inj (a := a) (b := b) h.2]
    cases x <;> cases y <;> first | rfl | (exact absurd h.1 (by decide))
theorem bsS_inj {a b : List Bool} (h : bsS a = bsS b) : a = b := by
  unfold bsS at h
  have : u8 a = u8 b := congrArg (fun x : ByteArray => x.data.toList) h
  exact u8_inj this
theorem bytesOf_bV : ∀ l : List Bool, bytesOf (bV l) = some ((u8 l).map fun b => (b.toNat : Int))
  | [] => rfl
  | b :: l => by
    have ih := bytesOf_bV l
    show bytesOf (.int .u8 _ :: bV l) = _
    unfold bytesOf
    rw [ih]
    cases b <;> rfl
theorem bStr_row {h : Heap} {r : Nat} {l : List Bool} (hr : h r = some (.row 1 (bV l))) (X : ByteArray → Prop) : bStr h (.sl r 1 0 l.length) X = X (bsS l) := by
  have e : bStrR h (.sl r 1 0 l.length) = some (bsS l) := by
    unfold bStrR elemsA
    have hl : (bV l).length = l.length := by simp [bV]
    simp only [hr, if_true, Nat.zero_add, List.drop_zero]
    rw [if_pos (by omega), List.take_of_length_le (by omega)]
    simp only [bytesOf_bV]
    unfold strBs
    rw [Go.foldl_push_byteCells, show ByteArray.empty.data = #[] from rfl, Array.empty_append]
    rfl
  unfold bStr
  rw [e]
/- ---------------- joined ---------------- -/
def joinS (l : List Bool) (ws : List Nat) : List Bool := ws.foldl (fun l w => l.set w true) l
theorem joinS_len : ∀ (ws : List Nat) (l : List Bool), (joinS l ws).length = l.length
  | [], l => rfl
  | w :: ws, l => by
    show (joinS (l.set w true) ws).length = _
    rw [joinS_len ws, List.length_set]
theorem joinS_get : ∀ (ws : List Nat) (l : List Bool) (i : Nat), i < l.length → (joinS l ws).getD i false = (l.getD i false || decide (i ∈ ws))
  | [], l, i, _ => by simp [joinS]
  | w :: ws, l, i, hi => by
    show (joinS (l.set w true) ws).getD i false = _
    rw [joinS_get ws _ i (by simpa using hi)]
    have : (l.set w true).getD i false = (l.getD i false || decide (i = w)) := by
      rw [List.getD_eq_getElem?_getD, List.getD_eq_getElem?_getD, List.getElem?_set]
      by_cases e : w = i
      · subst e; simp [hi]
      · simp [e, Ne.symm e]
    rw [this, Bool.or_assoc]
    congr 1
    simp [Bool.decide_or]
theorem joinS_snoc (l : List Bool) (ws : List Nat) (w : Nat) : joinS l (ws ++ [w]) = (joinS l ws).set w true := by
  unfold joinS
  rw [List.foldl_append]
  rfl
theorem ext_getD {a b : List Bool} (hl : a.length = b.length) (h : ∀ i, i < a.length → a.getD i false = b.getD i false) : a = b := by
  refine List.ext_getElem hl fun i h1 h2 => ?_
  have := h i h1
  rw [List.getD_eq_getElem?_getD, List.getD_eq_getElem?_getD, List.getElem?_eq_getElem h1, List.getElem?_eq_getElem h2] at this
  exact this
theorem joined_l1 {l : List Bool} {ws : List Nat} {v : AVal} (hv : Ints v (natI ws)) (hr : ∀ w ∈ ws, w < l.length) (hw : ws.length ≤ 1048576) {r : Nat} (hn : h0 r = none) (hk : K (.str (bsS (joinS l ws))) h0) :
    ∀ d i : Nat, i + d = ws.length → ∀ h, Own h0 [.cell r (.row 1 (bV (joinS l (ws.take i))))] h → s28l1 K (d + 1) (.sl r 1 0 l.length) v (ws.length : Int) (i : Int) h
  | 0, i, hd, h, W => by
    unfold s28l1
    refine ifT_neg (by simp; omega) ?_
    rw [List.take_of_length_le (by omega)] at W
    have e : l.length = (joinS l ws).length := (joinS_len ws l).symm
    rw [e, bStr_row (W.get 0 _ r rfl rfl)]
    exact retG_drop W.old hk
  | d + 1, i, hd, h, W => by
    have hi : i < ws.length := by omega
    have hwl := hr _ (List.getElem_mem hi)
    unfold s28l1
    refine ifT_pos (by simp; omega) ?_
    rw [hv.ix (i := i) (by simpa [natI] using hi), ld1_lptr]
    rw [show (natI ws)[i]'(by simpa [natI] using hi) = ((ws[i] : Nat) : Int) by simp [natI], tInt_int]
    refine ixS_sl0 hwl ?_
    have hl : ws[i] < (joinS l (ws.take i)).length := by rw [joinS_len]; exact hwl
    refine st_elem (W.get 0 _ r rfl rfl) (e := .int .u8 (if (joinS l (ws.take i))[ws[i]] then 1 else 0)) (by unfold bV; rw [List.getElem?_map, List.getElem?_eq_getElem hl]; rfl) rfl ?_
    have e : (bV (joinS l (ws.take i))).set ws[i] (.int .u8 1) = bV (joinS l (ws.take (i + 1))) := by
      rw [List.take_succ_eq_append_getElem hi, joinS_snoc]
      unfold bV
      rw [List.map_set]
      rfl
    rw [e]
    exact rg_of (by omega) (by omega) (s28l1_go (joined_l1 hv hr hw hn hk d (i + 1) (by omega) _ (W.put (i := 0) rfl _)))
theorem joined_ok {l : List Bool} {ws : List Nat} {v : AVal} (hv : Ints v (natI ws)) (hr : ∀ w ∈ ws, w < l.length) (hl : l.length ≤ 1048576) (hw : ws.length ≤ 1048576) (hk : K (.str (bsS (joinS l ws))) h) : ACalls prog 28 [.str (bsS l), v] h K := by
  refine s28_ok ?_
  unfold s28
  show _ ∧ _
  refine ⟨by rw [bsS_size]; omega, newRow_in fun r hr0 => ?_⟩
  dsimp only
  rw [hv.len, bsS_size, bytesV_bsS]
  have W := (Own.start h).newC hr0 (.row 1 (bV l))
  have e : ((natI ws).length : Int) = (ws.length : Int) := by simp [natI]
  rw [e]
  exact s28l1_in (ws.length + 1) (joined_l1 hv hr hw hr0 hk ws.length 0 (by omega) _ W)
/- ---------------- compare ---------------- -/
def cmpD (a b : List Bool) : Nat → Int
  | 0 => 0
  | d + 1 => if a.getD d false = b.getD d false then cmpD a b d else if a.getD d false then 1 else -1
theorem cmpD_swap (a b : List Bool) : ∀ d, cmpD b a d = - cmpD a b d
  | 0 => rfl
  | d + 1 => by
    unfold cmpD
    rw [cmpD_swap a b d]
    cases e1 : a.getD d false <;> cases e2 : b.getD d false <;> simp
theorem cmpD_zero {a b : List Bool} : ∀ {d}, cmpD a b d = 0 → ∀ i, i < d → a.getD i false = b.getD i false
  | 0, _, i, hi => by omega
  | d + 1, h, i, hi => by
    unfold cmpD at h
    split at h
    · rename_i e
      by_cases e2 : i = d
      · rw [e2]; exact e
      · exact cmpD_zero h i (by omega)
    · split at h <;> cases h
theorem cmpD_cases (a b : List Bool) : ∀ d, cmpD a b d = 0 ∨ cmpD a b d = 1 ∨ cmpD a b d = -1
  | 0 => .inl rfl
  | d + 1 => by
    unfold cmpD
    split
    · exact cmpD_cases a b d
    · split
      · exact .inr (.inl rfl)
      · exact .inr (.inr rfl)
theorem cmpD_trans (a b c : List Bool) : ∀ d, cmpD a b d ≤ 0 → cmpD b c d ≤ 0 → cmpD a c d ≤ 0 ∧ (cmpD a b d < 0 → cmpD a c d < 0) ∧ (cmpD b c d < 0 → cmpD a c d < 0)
  | 0, _, _ => by simp [cmpD]
  | d + 1, h1, h2 => by
    unfold cmpD at h1 h2 ⊢
    cases e1 : a.getD d false <;> cases e2 : b.getD d false <;> cases e3 : c.getD d false <;> rw [e1, e2] at h1 <;> rw [e2, e3] at h2 <;> simp only [reduceIte, Bool.false_eq_true, Bool.true_eq_false, reduceCtorEq] at h1 h2 ⊢ <;> first | (exfalso; omega) | exact cmpD_trans a b c d h1 h2 | (refine ⟨by decide, fun _ => by decide, fun _ => by decide⟩)
theorem compare_l1 {a b : List Bool} {n : Nat} (hn : n ≤ 1048576) (ha : a.length = n) (hb : b.length = n) : ∀ d : Nat, d ≤ n → K (.int .i64 (cmpD a b d)) h → s62l1 K (d + 1) (bsS a) (bsS b) ((d : Int) - 1) h
  | 0, _, hk => by
    unfold s62l1
    exact ifT_neg (by simp) (retG_of hk)
  | d + 1, hd, hk => by
    unfold s62l1
    have e : ((d + 1 : Nat) : Int) - 1 = (d : Int) := by omega
    rw [e, btA_bsS, btA_bsS, bsS_size, bsS_size, ha, hb]
    refine ifT_pos (by simp) ⟨⟨by omega, by omega⟩, ⟨by omega, by omega⟩, ?_⟩
    unfold cmpD at hk
    by_cases e1 : a.getD d false = b.getD d false
    · rw [if_pos e1] at hk
      refine ifT_neg (by rw [e1]; simp) (rg_of (by omega) (by omega) (s62l1_go (compare_l1 hn ha hb d (by omega) hk)))
    · rw [if_neg e1] at hk
      cases ea : a.getD d false <;> cases eb : b.getD d false <;> (rw [ea, eb] at e1) <;> first | (exact absurd rfl e1) | skip
      · rw [ea] at hk
        exact ifT_pos rfl ⟨⟨by omega, by omega⟩, rg_of (by decide) (by decide) ⟨⟨by omega, by omega⟩, rg_of (by decide) (by decide) (rg_of (by decide) (by decide) (retG_of hk))⟩⟩
      · rw [ea] at hk
        exact ifT_pos rfl ⟨⟨by omega, by omega⟩, rg_of (by decide) (by decide) ⟨⟨by omega, by omega⟩, rg_of (by decide) (by decide) (rg_of (by decide) (by decide) (retG_of hk))⟩⟩
theorem compare_ok {a b : List Bool} {n : Nat} (hn : n ≤ 1048576) (ha : a.length = n) (hb : b.length = n) (hk : K (.int .i64 (cmpD a b n)) h) : ACalls prog 62 [.str (bsS a), .str (bsS b)] h K := by
  refine s62_ok ?_
  unfold s62
  rw [bsS_size, ha]
  exact rg_of (by omega) (by omega) (s62l1_in (n + 1) (compare_l1 hn ha hb n (by omega) hk))
/- ---------------- the sort ---------------- -/
abbrev SetN (n : Nat) : Type := { l : List Bool // l.length = n }
instance (n : Nat) : Inhabited (SetN n) := ⟨⟨List.replicate n false, by simp⟩⟩
def cfN (n : Nat) (a b : SetN n) : Int := cmpD a.1 b.1 n
open Go.Proofs in
theorem cfN_swo (n : Nat) : Go.Sort.SWO (ltOf (cfN n)) where
  irrefl x := by
    unfold ltOf cfN
    have := cmpD_swap x.1 x.1 n
    simp
    omega
  trans x y z h1 h2 := by
    unfold ltOf cfN at *
    have h1 := of_decide_eq_true h1
    have h2 := of_decide_eq_true h2
    exact decide_eq_true ((cmpD_trans x.1 y.1 z.1 n (by omega) (by omega)).2.1 h1)
  ntrans x y z h1 h2 := by
    unfold ltOf cfN at *
    have h1 := of_decide_eq_false h1
    have h2 := of_decide_eq_false h2
    refine decide_eq_false ?_
    have e1 := cmpD_swap x.1 y.1 n
    have e2 := cmpD_swap y.1 z.1 n
    have e3 := cmpD_swap x.1 z.1 n
    have := (cmpD_trans z.1 y.1 x.1 n (by omega) (by omega)).1
    omega
theorem cfN_total (n : Nat) (x y : SetN n) (h1 : Go.Proofs.ltOf (cfN n) x y = false) (h2 : Go.Proofs.ltOf (cfN n) y x = false) : x = y := by
  unfold Go.Proofs.ltOf cfN at *
  have h1 := of_decide_eq_false h1
  have h2 := of_decide_eq_false h2
  have e := cmpD_swap x.1 y.1 n
  have hz : cmpD x.1 y.1 n = 0 := by omega
  exact Subtype.ext (ext_getD (x.2.trans y.2.symm) fun i hi => cmpD_zero hz i (by rw [x.2] at hi; exact hi))
def Rising (n : Nat) (V : List (List Bool)) : Prop := V.Pairwise fun a b => cmpD a b n < 0
theorem sortSets_ok {q : Nat} {U : List (List Bool)} (hn : n ≤ 1048576) (hU : ∀ l ∈ U, l.length = n) (hnd : U.Nodup) (hl : 0 < U.length) (hsz : U.length ≤ 1048576) (hq : h q = some (.row 1 (U.map fun x => .str (bsS x))))
    (hk : ∀ V : List (List Bool), V.Perm U → Rising n V → K (.tuple []) (h.set q (.row 1 (V.map fun x => .str (bsS x))))) : ACalls prog 61 [.sl q 1 0 U.length, .func (.func 62) [] []] h K := by
  let U' : List (SetN n) := U.pmap Subtype.mk hU
  have e1 : U'.map (·.1) = U := by simp [U', List.map_pmap]
  have e2 : U'.length = U.length := by simp [U']
  have hmap : ∀ W : List (SetN n), W.map (fun x => AVal.str (bsS x.1)) = (W.map (·.1)).map fun x => .str (bsS x) := fun W => by rw [List.map_map]; rfl
  have hq' : h q = some (.row 1 (U'.map fun x => .str (bsS x.1))) := by rw [hmap, e1]; exact hq
  have hlays := fun blk off m w => lays_of (P := prog) (enc := fun x : SetN n => bsS x.1) (cf := cfN n) (g := 62) (fun x y h K hk => compare_ok hn x.2 y.2 hk) blk off m w
  have := sortF_ok (P := prog) (ρ := layF_ren) layF (by kernel_rfl) (cfN_swo n) (cfN_total n) (g := 62) (Go.Proofs.enters_of func62 (by kernel_rfl) rfl) hlays (q := q) (l := U') (K := K) (h := h) (by omega) (by omega) hq' (by
    rw [hmap]
    have hp : (sortL (cfN n) U').Perm U' := List.mergeSort_perm _ _
    refine hk _ (by rw [← e1]; exact hp.map _) ?_
    have hO := cfN_swo n
    have hs : (sortL (cfN n) U').Pairwise fun x y => !(Go.Proofs.ltOf (cfN n)) y x := List.pairwise_mergeSort (fun a b c h1 h2 => by
      have h1 : Go.Proofs.ltOf (cfN n) b a = false := by simpa using h1
      have h2 : Go.Proofs.ltOf (cfN n) c b = false := by simpa using h2
      have := hO.ntrans c b a h2 h1
      simpa using this) (fun a b => by
      cases e : Go.Proofs.ltOf (cfN n) b a with
      | false => simp
      | true =>
        have : Go.Proofs.ltOf (cfN n) a b = false := by
          cases e3 : Go.Proofs.ltOf (cfN n) a b with
          | false => rfl
          | true =>
            have := hO.trans a b a e3 e
            rw [hO.irrefl a] at this
            cases this
        simp [this]) U'
    have hnd' : (sortL (cfN n) U').Nodup := by
      have : U'.Nodup := by
        have : (U'.map (·.1)).Nodup := by rw [e1]; exact hnd
        exact (List.pairwise_map.1 this).imp fun h e => h (by rw [e])
      exact hp.symm.nodup this
    unfold Rising
    rw [List.pairwise_map]
    refine List.Pairwise.imp₂ (fun a b h1 h2 => ?_) hs hnd'
    have h1 : Go.Proofs.ltOf (cfN n) b a = false := by simpa using h1
    cases e : Go.Proofs.ltOf (cfN n) a b with
    | true => exact of_decide_eq_true e
    | false => exact absurd (cfN_total n a b e h1) h2)
  rw [e2] at this
  exact this
end Go.Proofs.YtljglglbfcgjpaaGreat

namespace Go.Proofs.YtljglglbfcgjpaaGreat
open Go Go.Sym Go.Proofs.Tryz
variable {K : AVal → Heap → Prop} {h h0 hb : Heap} {n : Nat} {r : Nat → Nat → Bool} {f : AVal}
/- ---------------- rows of truths ---------------- -/
def Bools (v : AVal) (l : List Bool) : Prop := SlOf 1 v (l.map .bool)
def Boolss (v : AVal) (ll : List (List Bool)) : Prop := ∃ l, SlOf 1 v l ∧ All2 Bools l ll
theorem Bools.len {v : AVal} {l : List Bool} (h : Bools v l) (K : Int → Prop) : lenN v K = K l.length := by rw [lenN_of h]; simp
theorem Bools.ix {v : AVal} {l : List Bool} (h : Bools v l) {i : Nat} (hi : i < l.length) (K : AVal → Prop) : ixS 1 v (i : Int) K = K (.lptr [.bool l[i]]) := by
  rw [ixS_nat h (e := .bool l[i]) (by simp [hi])]; rfl
theorem Boolss.len {v : AVal} {l : List (List Bool)} (h : Boolss v l) (K : Int → Prop) : lenN v K = K l.length := by
  obtain ⟨m, h1, h2⟩ := h
  rw [lenN_of h1, h2.length]
theorem Bools.notAgg {v : AVal} {l : List Bool} (h : Bools v l) : cellsOf v = [v] ∧ sc v = true := by
  rcases h with rfl | ⟨rfl, _⟩ <;> exact ⟨rfl, rfl⟩
theorem Boolss.ix {v : AVal} {l : List (List Bool)} (h : Boolss v l) {i : Nat} (hi : i < l.length) : ∃ e, Bools e l[i] ∧ ∀ K : AVal → Prop, ixS 1 v (i : Int) K = K (.lptr [e]) := by
  obtain ⟨m, h1, h2⟩ := h
  obtain ⟨e, he, hr⟩ := h2.get (i := i) (b := l[i]) (by simp [hi])
  refine ⟨e, hr, fun K => ?_⟩
  rw [ixS_nat h1 he, hr.notAgg.1]
def Sq (L : List (List Bool)) : Prop := ∀ row ∈ L, row.length = L.length
theorem Boolss.rd {v : AVal} {L : List (List Bool)} (hv : Boolss v L) (hs : Sq L) {x : Nat} (hx : x < L.length) : ∃ e, (∀ (h : Heap) (K : AVal → Prop), (ixS 1 v (x : Int) fun p => ld1 h p K) = K e) ∧ (∀ K : Int → Prop, lenN e K = K L.length) ∧
    ∀ y, y < L.length → ∀ (h : Heap) (K : AVal → Prop), (ixS 1 e (y : Int) fun p => ld1 h p K) = K (.bool (at2 L x y)) := by
  obtain ⟨e, he, hix⟩ := hv.ix hx
  have hl := hs _ (List.getElem_mem hx)
  refine ⟨e, fun h K => ?_, fun K => ?_, fun y hy h K => ?_⟩
  · rw [hix, ld1_lptr]
  · rw [he.len, hl]
  · have hy' : y < L[x].length := by omega
    rw [he.ix hy', ld1_lptr]
    congr 2
    unfold at2
    simp [List.getD, hx, hy']
abbrev leqV (a : AVal) : AVal := .func (.func 69) [] [.lptr [a]]
theorem leqV_tells {a : AVal} {L : List (List Bool)} (hv : Boolss a L) (hs : Sq L) : T2 (leqV a) L.length (at2 L) := by
  intro x y h K hx hy hk
  show callG prog 69 ([] ++ [.int .i64 (x : Int), .int .i64 (y : Int)] ++ [.lptr [a]]) h K
  refine callG_of (s69_ok ?_)
  unfold s69
  obtain ⟨e, e1, _, e2⟩ := hv.rd hs hx
  simp only [addOff_lptr, List.drop_zero, ld1_lptr]
  rw [e1, e2 y hy, tBool_bool]
  exact retG_of hk
theorem idxFB_loop {v f : AVal} {l : List (List Bool)} {p : List Bool → Bool} (hv : Boolss v l) (hm : l.length ≤ 1073741824)
    (hf : ∀ s ∈ l, ∀ e, Bools e s → ∀ K : AVal → Heap → Prop, K (.bool (p s)) h → callV prog f [e] h K) (hk : ∀ n : Int, (0 ≤ n ↔ ∃ s ∈ l, p s = true) → K (.int .i64 n) h) : ∀ d i : Nat, i + d = l.length → (∀ s ∈ l.take i, p s = false) →
    s115l1 K (d + 1) v f (l.length : Int) (i : Int) h
  | 0, i, hd, hn => by
    unfold s115l1
    refine ifT_neg (by simp; omega) (retG_of (hk _ ?_))
    rw [List.take_of_length_le (by omega)] at hn
    constructor
    · intro h0; omega
    · rintro ⟨s, hs, hp⟩; rw [hn s hs] at hp; cases hp
  | d + 1, i, hd, hn => by
    have hi : i < l.length := by omega
    unfold s115l1
    refine ifT_pos (by simp; omega) ?_
    obtain ⟨e, he, hix⟩ := hv.ix hi
    rw [hix, ld1_lptr]
    refine hf _ (List.getElem_mem hi) e he _ ?_
    rw [tBool_bool]
    cases he : p l[i] with
    | true => exact ifT_pos rfl (retG_of (hk _ ⟨fun _ => ⟨_, List.getElem_mem hi, he⟩, fun _ => by omega⟩))
    | false =>
      refine ifT_neg rfl (rg_of (by omega) (by omega) (s115l1_go (idxFB_loop hv hm hf hk d (i + 1) (by omega) ?_)))
      rw [List.take_succ_eq_append_getElem hi]
      intro s hs
      rcases List.mem_append.1 hs with hs | hs
      · exact hn s hs
      · simp at hs; rw [hs, he]
theorem containsFB_ok {v f : AVal} {l : List (List Bool)} {p : List Bool → Bool} (hv : Boolss v l) (hm : l.length ≤ 1073741824)
    (hf : ∀ s ∈ l, ∀ e, Bools e s → ∀ K : AVal → Heap → Prop, K (.bool (p s)) h → callV prog f [e] h K) (hk : K (.bool (l.any p)) h) : ACalls prog 70 [v, f] h K := by
  refine s70_ok (callG_of (s115_ok ?_))
  unfold s115
  rw [hv.len]
  refine s115l1_in (l.length + 1) (idxFB_loop hv hm hf (fun n hn => ?_) l.length 0 (by omega) (by simp))
  rw [tInt_int]
  refine retG_of ?_
  rwa [show decide (0 ≤ n) = l.any p by rw [Bool.eq_iff_iff]; simpa using hn]
/- ---------------- tables of numbers that are read ---------------- -/
theorem tab_rd {v : AVal} {c : Nat → Nat → Nat} (hv : Intss v ((List.range n).map fun x => natI ((List.range n).map fun y => c x y))) {x : Nat} (hx : x < n) : ∃ e, (∀ (h : Heap) (K : AVal → Prop), (ixS 1 v (x : Int) fun p => ld1 h p K) = K e) ∧
    ∀ y, y < n → ∀ (h : Heap) (K : AVal → Prop), (ixS 1 e (y : Int) fun p => ld1 h p K) = K (.int .i64 ((c x y : Nat) : Int)) := by
  obtain ⟨e, he, hix⟩ := hv.ix (i := x) (by simpa using hx)
  refine ⟨e, fun h K => by rw [hix, ld1_lptr], fun y hy h K => ?_⟩
  simp only [List.getElem_map, List.getElem_range] at he
  rw [he.ix (i := y) (by simp [natI, hy]), ld1_lptr]
  simp [natI]
/- ---------------- the look ---------------- -/
def inE (n : Nat) (e : Int) : Bool := decide (0 ≤ e) && decide (e < n)
def lookE (L : List (List Bool)) (els : List Int) : Int := if algP L then (if els.all (inE L.length) then 0 else 2) else 230
abbrev LM (h0 : Heap) (rt r1 r2 n : Nat) (f X Y : AVal) (h : Heap) : Prop := Own h0 [.cell rt (.row 2 [.agg [X, Y]]), .cell r1 (.row 1 [.int .i64 (n : Int)]), .cell r2 (.row 2 [.agg (latC n f)])] h
section
variable {rt r1 r2 : Nat} {X Y : AVal}
theorem look_end (W : LM h0 rt r1 r2 n f X Y h) {e : Int} (hk : K (.tuple [latV n f, .int .i64 e]) h0) :
    ldN 2 h (.ptr r2 0 0) fun l_1 => tCons l_1 fun v2 l_2 => tInt .i64 v2 fun v3 => tCons l_2 fun v4 l_3 => tNil l_3 (st false h (.ptr rt 0 0) [(.int .i64 v3), v4] fun h_5 => ldN 2 h_5 (.ptr rt 0 0) fun l_4 =>
      tCons l_4 fun v5 l_5 => tInt .i64 v5 fun v6 => tCons l_5 fun v7 l_6 => tNil l_6 (retG (.tuple [(.agg [(.int .i64 v6), v7]), (.int .i64 e)]) h_5 K)) := by
  rw [ldN2 (W.get 2 _ r2 rfl rfl), tCons_cons, tInt_int, tCons_cons, tNil_nil]
  refine st_all (W.get 0 _ rt rfl rfl) rfl ?_
  have W2 := W.put (i := 0) rfl (.row 2 [.agg (latC n f)])
  rw [ldN2 (W2.get 0 _ rt rfl rfl), tCons_cons, tInt_int, tCons_cons, tNil_nil]
  exact retG_drop W2.old hk
variable (hn : n ≤ 64) (h1 : 1 ≤ n)
section
variable {vm vj : AVal} (hm : Intss vm (mTab n r)) (hj : Intss vj (jTab n r)) (W : LM h0 rt r1 r2 n f X Y h)
include hm hj W hn h1
theorem look_l4 {x y : Nat} (hx : x < n) (hy : y < n) {L2 : s35l2_T} {L3 : s35l3_T} {ev : AVal} (no : ∀ z, z < n → distB n r x y z = false → K (.tuple [latV n f, .int .i64 230]) h0)
    (yes : (∀ z, z < n → distB n r x y z = true) → L3 ev (.ptr rt 0 0) (.ptr r1 0 0) (.ptr r2 0 0) vm vj (x : Int) n (x : Int) n ((y : Int) + 1) h) : ∀ d z : Nat, z + d = n → (∀ z', z' < z → distB n r x y z' = true) →
    s35l4 K L2 L3 (d + 1) ev (.ptr rt 0 0) (.ptr r1 0 0) (.ptr r2 0 0) vm vj (x : Int) (y : Int) n (x : Int) n (y : Int) n (z : Int) h
  | 0, z, hd, hb => by
    unfold s35l4
    exact ifT_neg (by simp; omega) (rg_of (by omega) (by omega) (yes fun z' hz' => hb z' (by omega)))
  | d + 1, z, hd, hb => by
    have hz : z < n := by omega
    obtain ⟨em, m1, m2⟩ := tab_rd (c := mt n r) hm hx
    obtain ⟨ej, j1, j2⟩ := tab_rd (c := jn n r) hj hy
    obtain ⟨ek, k1, k2⟩ := tab_rd (c := jn n r) hj (mt_lt (r := r) h1 x y)
    unfold s35l4
    refine ifT_pos (by simp; omega) ?_
    rw [m1, j1, j2 z hz, tInt_int, m2 _ (jn_lt h1 _ _), tInt_int, m1, m2 y hy, tInt_int, k1, m1, m2 z hz, tInt_int, k2 _ (mt_lt h1 _ _), tInt_int]
    cases e : distB n r x y z with
    | false =>
      refine ifT_pos ?_ (look_end W (no z hz e))
      unfold distB at e
      simp at e ⊢
      omega
    | true =>
      refine ifT_neg ?_ (rg_of (by omega) (by omega) (s35l4_go (look_l4 hx hy no yes d (z + 1) (by omega) fun z' hz' => ?_)))
      · unfold distB at e
        simp at e ⊢
        omega
      · by_cases e2 : z' = z
        · rw [e2]; exact e
        · exact hb z' (by omega)
theorem look_l3 {x : Nat} (hx : x < n) {L2 : s35l2_T} {ev : AVal} (no : ∀ y z, y < n → z < n → distB n r x y z = false → K (.tuple [latV n f, .int .i64 230]) h0)
    (yes : (∀ y z, y < n → z < n → distB n r x y z = true) → L2 ev (.ptr rt 0 0) (.ptr r1 0 0) (.ptr r2 0 0) vm vj n ((x : Int) + 1) h) : ∀ d y : Nat, y + d = n → (∀ y' z, y' < y → z < n → distB n r x y' z = true) →
    s35l3 K L2 (d + 1) ev (.ptr rt 0 0) (.ptr r1 0 0) (.ptr r2 0 0) vm vj (x : Int) n (x : Int) n (y : Int) h
  | 0, y, hd, hb => by
    unfold s35l3
    exact ifT_neg (by simp; omega) (rg_of (by omega) (by omega) (yes fun y' z' hy' hz' => hb y' z' (by omega) hz'))
  | d + 1, y, hd, hb => by
    unfold s35l3
    refine ifT_pos (by simp; omega) ?_
    rw [ld1_one (W.get 1 _ r1 rfl rfl) rfl, tInt_int]
    refine s35l4_in (n + 1) (look_l4 hn h1 hm hj W hx (by omega) (fun z hz e => no y z (by omega) hz e) (fun hall => ?_) n 0 (by omega) (fun z' hz' => by omega))
    refine s35l3_go (look_l3 hx no yes d (y + 1) (by omega) fun y' z hy' hz => ?_)
    by_cases e2 : y' = y
    · rw [e2]; exact hall z hz
    · exact hb y' z (by omega) hz
omit hm hj hn h1 in
theorem look_l5 {ev : AVal} {els : List Int} (he : Ints ev els) (hl : els.length ≤ 1048576) (no : els.all (inE n) = false → K (.tuple [latV n f, .int .i64 2]) h0) (yes : els.all (inE n) = true → K (.tuple [latV n f, .int .i64 0]) h0) :
    ∀ d i : Nat, i + d = els.length → (∀ x ∈ els.take i, inE n x = true) → s35l5 K (d + 1) (.ptr rt 0 0) (.ptr r1 0 0) (.ptr r2 0 0) ev els.length (i : Int) h
  | 0, i, hd, hb => by
    unfold s35l5
    refine ifT_neg (by simp; omega) (look_end W (yes ?_))
    rw [List.take_of_length_le (by omega)] at hb
    rw [List.all_eq_true]
    exact hb
  | d + 1, i, hd, hb => by
    have hi : i < els.length := by omega
    unfold s35l5
    refine ifT_pos (by simp; omega) ?_
    rw [he.ix hi, ld1_lptr, tInt_int]
    have bad : inE n els[i] = false → s35c6 K (s35l5_G (s35l5 K (d + 1))) (.ptr rt 0 0) (.ptr r1 0 0) (.ptr r2 0 0) ev els.length (i : Int) true h := fun e => by
      unfold s35c6
      refine ifT_pos rfl (look_end W (no ?_))
      rw [List.all_eq_false]
      exact ⟨_, List.getElem_mem hi, by simp [e]⟩
    by_cases e1 : els[i] < 0
    · exact ifT_pos (by simpa using e1) (bad (by unfold inE; simp; omega))
    · refine ifT_neg (by simpa using e1) ?_
      rw [ld1_one (W.get 1 _ r1 rfl rfl) rfl, tInt_int]
      by_cases e2 : (n : Int) ≤ els[i]
      · rw [decide_eq_true e2]
        exact bad (by unfold inE; simp; omega)
      · rw [decide_eq_false e2]
        unfold s35c6
        refine ifT_neg rfl (rg_of (by omega) (by omega) (s35l5_go (look_l5 he hl no yes d (i + 1) (by omega) ?_)))
        rw [List.take_succ_eq_append_getElem hi]
        intro s hs
        rcases List.mem_append.1 hs with hs | hs
        · exact hb s hs
        · simp at hs; rw [hs]; unfold inE; simp; omega
theorem look_l2 {ev : AVal} {els : List Int} (he : Ints ev els) (hl : els.length ≤ 1048576) (bad : distP n r = false → K (.tuple [latV n f, .int .i64 230]) h0) (no : distP n r = true → els.all (inE n) = false → K (.tuple [latV n f, .int .i64 2]) h0)
    (yes : distP n r = true → els.all (inE n) = true → K (.tuple [latV n f, .int .i64 0]) h0) : ∀ d x : Nat, x + d = n → (∀ x' y z, x' < x → y < n → z < n → distB n r x' y z = true) →
    s35l2 K (d + 1) ev (.ptr rt 0 0) (.ptr r1 0 0) (.ptr r2 0 0) vm vj n (x : Int) h
  | 0, x, hd, hb => by
    have ed : distP n r = true := by
      unfold distP
      exact all_of fun x' hx' => all_of fun y hy => all_of fun z hz => hb x' y z (by omega) hy hz
    unfold s35l2
    refine ifT_neg (by simp; omega) ?_
    rw [he.len]
    exact s35l5_in (els.length + 1) (look_l5 W he hl (no ed) (yes ed) els.length 0 (by omega) (by simp))
  | d + 1, x, hd, hb => by
    unfold s35l2
    refine ifT_pos (by simp; omega) ?_
    rw [ld1_one (W.get 1 _ r1 rfl rfl) rfl, tInt_int]
    refine s35l3_in (n + 1) (look_l3 hn h1 hm hj W (by omega) (fun y z hy hz e => bad ?_) (fun hall => ?_) n 0 (by omega) (fun y' z hy' => by omega))
    · unfold distP
      exact all_not (x := x) (by omega) (all_not hy (all_not hz e))
    · refine s35l2_go (look_l2 he hl bad no yes d (x + 1) (by omega) fun x' y z hx' hy hz => ?_)
      by_cases e2 : x' = x
      · rw [e2]; exact hall y z hy hz
      · exact hb x' y z (by omega) hy hz
end
end
theorem sq_any {L : List (List Bool)} : (L.any fun row => row.length != L.length) = false ↔ Sq L := by
  rw [List.any_eq_false]
  unfold Sq
  simp
theorem sq_all {L : List (List Bool)} : (L.all fun row => row.length == L.length) = true ↔ Sq L := by
  rw [List.all_eq_true]
  unfold Sq
  simp
theorem algP_sq {L : List (List Bool)} (h : algP L = true) : Sq L ∧ 1 ≤ L.length ∧ L.length ≤ 64 := by
  unfold algP at h
  simp only [Bool.and_eq_true, decide_eq_true_eq] at h
  obtain ⟨⟨⟨⟨⟨h1, h2⟩, h3⟩, _⟩, _⟩, _⟩ := h
  exact ⟨sq_all.1 h3, h1, h2⟩
theorem look_ok {a ev : AVal} {L : List (List Bool)} {els : List Int} (hv : Boolss a L) (hL : L.length ≤ 1048576) (hrl : ∀ row ∈ L, row.length ≤ 1048576) (he : Ints ev els) (hl : els.length ≤ 1048576)
    (hk : K (.tuple [latV L.length (leqV a), .int .i64 (lookE L els)]) h) : ACalls prog 35 [.agg [a], ev] h K := by
  refine s35_ok ?_
  unfold s35
  refine newRow_in fun rt hrt => ?_
  rw [hv.len]
  have W0 := (Own.start h).newC hrt (.row 2 [.agg [.int .i64 0, .nilfunc]])
  refine newRow_in fun r1 hr1 => ?_
  have W1 := W0.newC hr1 (.row 1 [.int .i64 0])
  refine st_elem (Heap.set_same _ _ _) rfl rfl ?_
  have W2 : Own h [.cell rt (.row 2 [.agg [.int .i64 0, .nilfunc]]), .cell r1 (.row 1 [.int .i64 (L.length : Int)])] _ := W1.put (i := 1) rfl (.row 1 ([.int .i64 0].set 0 (.int .i64 (L.length : Int))))
  rw [ld1_one (W2.get 1 _ r1 rfl rfl) rfl, tInt_int]
  refine newRow_in fun r2 hr2 => ?_
  have W3 := W2.newC hr2 (.row 2 [.agg [.int .i64 0, .nilfunc]])
  refine st_all (Heap.set_same _ _ _) rfl ?_
  have W4 : LM h rt r1 r2 L.length (leqV a) (.int .i64 0) .nilfunc _ := W3.put (i := 2) rfl (.row 2 [.agg (latC L.length (leqV a))])
  generalize hgen : Heap.set _ r2 _ = hh at W4 ⊢
  clear hgen
  rw [ld1_one (W4.get 1 _ r1 rfl rfl) rfl, tInt_int]
  have bad : algP L = false → s35c1 K ev (.ptr rt 0 0) (.ptr r1 0 0) (.ptr r2 0 0) true hh := fun e => by
    unfold lookE at hk
    rw [e] at hk
    unfold s35c1
    exact ifT_pos rfl (look_end W4 hk)
  by_cases c1 : (L.length : Int) < 1
  · exact ifT_pos (by simpa using c1) (bad (by unfold algP; rw [decide_eq_false (show ¬ 1 ≤ L.length by omega)]; rfl))
  refine ifT_neg (by simpa using c1) ?_
  rw [ld1_one (W4.get 1 _ r1 rfl rfl) rfl, tInt_int]
  by_cases c2 : (64 : Int) < L.length
  · exact ifT_pos (by simpa using c2) (bad (by unfold algP; rw [decide_eq_false (show ¬ L.length ≤ 64 by omega)]; simp))
  refine ifT_neg (by simpa using c2) ?_
  refine callG_of (containsFB_ok (p := fun row => row.length != L.length) hv (by omega) (fun s hs e hse K' hk' => ?_) ?_)
  · show callG prog 71 ([] ++ [e] ++ [.ptr r1 0 0]) hh K'
    refine callG_of (s71_ok ?_)
    unfold s71
    rw [hse.len, ld1_one (W4.get 1 _ r1 rfl rfl) rfl, tInt_int]
    refine retG_of ?_
    rwa [show ((s.length : Int) != (L.length : Int)) = (s.length != L.length) by rw [Bool.eq_iff_iff]; simp; omega]
  rw [tBool_bool]
  cases c3 : (L.any fun row => row.length != L.length) with
  | true =>
    refine ifT_pos rfl (bad ?_)
    have : ¬ Sq L := fun hs => by rw [sq_any.2 hs] at c3; cases c3
    have e : (L.all fun row => row.length == L.length) = false := by
      cases e : (L.all fun row => row.length == L.length) with
      | false => rfl
      | true => exact absurd (sq_all.1 e) this
    unfold algP
    rw [e]
    simp
  | false =>
    have hs := sq_any.1 c3
    refine ifT_neg rfl ?_
    rw [ldN2 (W4.get 2 _ r2 rfl rfl), tCons_cons, tInt_int, tCons_cons, tNil_nil]
    have hf := leqV_tells hv hs
    refine callG_of (orderedH_ok hf (by omega) ?_)
    rw [tBool_bool]
    cases c4 : ordP L.length (at2 L) with
    | false => exact bad (by unfold algP; rw [c4]; simp)
    | true =>
      unfold s35c1
      refine ifT_neg rfl ?_
      rw [ldN2 (W4.get 2 _ r2 rfl rfl), tCons_cons, tInt_int, tCons_cons, tNil_nil]
      refine callG_of (tables_ok hf (by omega) (fun c5 => ?_) fun c5 vm vj hm hj => ?_)
      · rw [tTup_tuple, tCons_cons, tCons_cons, tCons_cons, tBool_bool, tNil_nil]
        refine ifT_pos rfl (look_end W4 ?_)
        unfold lookE at hk
        rwa [if_neg (by unfold algP; rw [c5]; simp)] at hk
      · rw [tTup_tuple, tCons_cons, tCons_cons, tCons_cons, tBool_bool, tNil_nil]
        refine ifT_neg rfl ?_
        rw [ld1_one (W4.get 1 _ r1 rfl rfl) rfl, tInt_int]
        have alg : distP L.length (at2 L) = true → algP L = true := fun c6 => by
          unfold algP
          rw [sq_all.2 hs, c4, c5, c6, decide_eq_true (show 1 ≤ L.length by omega), decide_eq_true (show L.length ≤ 64 by omega)]
          rfl
        refine s35l2_in (L.length + 1) (look_l2 (by omega) (by omega) hm hj W4 he hl (fun c6 => ?_) (fun c6 c7 => ?_) (fun c6 c7 => ?_) L.length 0 (by omega) (fun x' y z hx' => by omega))
        · unfold lookE at hk
          rwa [if_neg (by unfold algP; rw [c6]; simp)] at hk
        · unfold lookE at hk
          rwa [if_pos (alg c6), c7] at hk
        · unfold lookE at hk
          rwa [if_pos (alg c6), c7] at hk
/- ---------------- what the package answers ---------------- -/
structure AlgV (a : AVal) (L : List (List Bool)) : Prop where
  v : Boolss a L
  len : L.length ≤ 1048576
  row : ∀ row ∈ L, row.length ≤ 1048576
theorem lookE_zero {L : List (List Bool)} {els : List Int} (h : lookE L els = 0) : algP L = true ∧ els.all (inE L.length) = true := by
  unfold lookE at h
  split at h
  · split at h
    · exact ⟨by assumption, by assumption⟩
    · cases h
  · cases h
section
variable {a : AVal} {L : List (List Bool)} (A : AlgV a L)
include A
theorem AlgV.alg (e : algP L = true) : T2 (leqV a) L.length (at2 L) ∧ L.length ≤ 1073741824 ∧ 1 ≤ L.length := by
  obtain ⟨hs, h1, h2⟩ := algP_sq e
  exact ⟨leqV_tells A.v hs, by omega, h1⟩
theorem checkH_ok (hk : K (.int .i64 (lookE L [])) h) : ACalls prog 45 [.agg [a]] h K := by
  refine s45_ok ?_
  unfold s45
  refine callG_of (look_ok A.v A.len A.row (els := []) (.inr ⟨rfl, rfl⟩) (by simp) ?_)
  rw [tTup_tuple, tCons_cons, tCons_cons, tInt_int, tNil_nil, tAgg_agg, tCons_cons, tInt_int, tCons_cons, tNil_nil]
  refine newRow_in fun q hq => st_all (Heap.set_same _ _ _) rfl ?_
  rw [Heap.set_set]
  exact retG_drop (Heap.set_sub hq) hk
def two (L : List (List Bool)) (R : Nat → Nat → Nat) (x y : Int) : AVal := .tuple [.int .i64 (if lookE L [x, y] = 0 then ((R x.toNat y.toNat : Nat) : Int) else 0), .int .i64 (lookE L [x, y])]
omit A in
theorem two_in {x y : Int} {n : Nat} (h : [x, y].all (inE n) = true) : (x.toNat < n ∧ (x.toNat : Int) = x) ∧ y.toNat < n ∧ (y.toNat : Int) = y := by
  simp only [List.all_cons, List.all_nil, Bool.and_true, Bool.and_eq_true, inE, decide_eq_true_eq] at h
  omega
theorem impP_ok {x y : Int} (hk : K (two L (im L.length (at2 L)) x y) h) : ACalls prog 43 [.agg [a], .int .i64 x, .int .i64 y] h K := by
  refine s43_ok ?_
  unfold s43
  refine callG_of (look_ok A.v A.len A.row (els := [x, y]) (.inl rfl) (by simp) ?_)
  rw [tTup_tuple, tCons_cons, tCons_cons, tInt_int, tNil_nil, tAgg_agg, tCons_cons, tInt_int, tCons_cons, tNil_nil]
  refine newRow_in fun q hq => st_all (Heap.set_same _ _ _) rfl ?_
  rw [Heap.set_set]
  unfold two at hk
  by_cases e : lookE L [x, y] = 0
  · obtain ⟨e1, e2⟩ := lookE_zero e
    obtain ⟨hf, hn, h1⟩ := A.alg e1
    obtain ⟨⟨hx, ex⟩, hy, ey⟩ := two_in e2
    rw [if_pos e] at hk
    refine ifT_neg (by simp [e]) ?_
    rw [ldN2 (Heap.set_same _ _ _), tCons_cons, tInt_int, tCons_cons, tNil_nil, ← ex, ← ey]
    refine callG_of (impH_ok hf hn hx hy ?_)
    rw [tInt_int]
    rw [e] at hk
    exact retG_drop (Heap.set_sub hq) hk
  · rw [if_neg e] at hk
    exact ifT_pos (by simpa using e) (retG_drop (Heap.set_sub hq) hk)
theorem boundsP_ok (no : algP L = false → K (.tuple [.int .i64 0, .int .i64 0, .int .i64 230]) h) (yes : algP L = true → K (.tuple [.int .i64 ((lowP L.length (at2 L) : Nat) : Int), .int .i64 ((highP L.length (at2 L) : Nat) : Int), .int .i64 0]) h) : ACalls prog 25 [.agg [a]] h K := by
  refine s25_ok ?_
  unfold s25
  refine callG_of (look_ok A.v A.len A.row (els := []) (.inr ⟨rfl, rfl⟩) (by simp) ?_)
  rw [tTup_tuple, tCons_cons, tCons_cons, tInt_int, tNil_nil, tAgg_agg, tCons_cons, tInt_int, tCons_cons, tNil_nil]
  refine newRow_in fun q hq => st_all (Heap.set_same _ _ _) rfl ?_
  rw [Heap.set_set]
  unfold lookE
  cases e : algP L with
  | false => exact ifT_pos rfl (retG_drop (Heap.set_sub hq) (no e))
  | true =>
    obtain ⟨hf, hn, h1⟩ := A.alg e
    refine ifT_neg rfl ?_
    rw [ldN2 (Heap.set_same _ _ _), tCons_cons, tInt_int, tCons_cons, tNil_nil]
    refine callG_of (boundsH_ok hf hn ?_)
    rw [tTup_tuple, tCons_cons, tInt_int, tCons_cons, tInt_int, tNil_nil]
    exact retG_drop (Heap.set_sub hq) (yes e)
def boolX (n : Nat) (r : Nat → Nat → Bool) (x : Nat) : Bool := jn n r x (im n r x (lowP n r)) == highP n r
def boolP (n : Nat) (r : Nat → Nat → Bool) : Bool := (List.range n).all (boolX n r)
omit A in
theorem boolean_l1 {q n : Nat} {f : AVal} {r : Nat → Nat → Bool} (hf : T2 f n r) (hn : n ≤ 1073741824) (h1 : 1 ≤ n) {hh : Heap} (hq : hh q = some (.row 2 [.agg (latC n f)])) (old : ∀ q o, h q = some o → hh q = some o) (hk : K (.tuple [.bool (boolP n r), .int .i64 0]) h) :
    ∀ d x : Nat, x + d = n → (∀ x', x' < x → boolX n r x' = true) → s44l1 K (d + 1) (.ptr q 0 0) ((lowP n r : Nat) : Int) ((highP n r : Nat) : Int) n (x : Int) hh
  | 0, x, hd, hb => by
    unfold s44l1
    have e : boolP n r = true := all_of fun x' hx' => hb x' (by omega)
    rw [e] at hk
    exact ifT_neg (by simp; omega) (retG_drop old hk)
  | d + 1, x, hd, hb => by
    unfold s44l1
    refine ifT_pos (by simp; omega) ?_
    rw [ldN2 hq, tCons_cons, tInt_int, tCons_cons, tNil_nil, ldN2 hq, tCons_cons, tInt_int, tCons_cons, tNil_nil]
    refine callG_of (impH_ok hf hn (by omega) (low_lt h1) ?_)
    rw [tInt_int]
    refine ⟨by rw [ldN2 hq], callG_of (joinH_ok hf hn (by omega) (im_lt h1 _ _) ?_)⟩
    unfold bestV
    rw [tTup_tuple, tCons_cons, tInt_int, tCons_cons, tBool_bool, tNil_nil]
    cases e : boolX n r x with
    | false =>
      have e2 : boolP n r = false := all_not (x := x) (by omega) e
      rw [e2] at hk
      refine ifT_pos ?_ (retG_drop old hk)
      unfold boolX jn at e
      simp at e ⊢
      omega
    | true =>
      refine ifT_neg ?_ (rg_of (by omega) (by omega) (s44l1_go (boolean_l1 hf hn h1 hq old hk d (x + 1) (by omega) fun x' hx' => ?_)))
      · unfold boolX jn at e
        simp at e ⊢
        omega
      · by_cases e3 : x' = x
        · rw [e3]; exact e
        · exact hb x' (by omega)
theorem booleanP_ok (no : algP L = false → K (.tuple [.bool false, .int .i64 230]) h) (yes : algP L = true → K (.tuple [.bool (boolP L.length (at2 L)), .int .i64 0]) h) : ACalls prog 44 [.agg [a]] h K := by
  refine s44_ok ?_
  unfold s44
  refine callG_of (look_ok A.v A.len A.row (els := []) (.inr ⟨rfl, rfl⟩) (by simp) ?_)
  rw [tTup_tuple, tCons_cons, tCons_cons, tInt_int, tNil_nil, tAgg_agg, tCons_cons, tInt_int, tCons_cons, tNil_nil]
  refine newRow_in fun q hq => st_all (Heap.set_same _ _ _) rfl ?_
  rw [Heap.set_set]
  unfold lookE
  cases e : algP L with
  | false => exact ifT_pos rfl (retG_drop (Heap.set_sub hq) (no e))
  | true =>
    obtain ⟨hf, hn, h1⟩ := A.alg e
    refine ifT_neg rfl ?_
    rw [ldN2 (Heap.set_same _ _ _), tCons_cons, tInt_int, tCons_cons, tNil_nil]
    refine callG_of (boundsH_ok hf hn ?_)
    rw [tTup_tuple, tCons_cons, tInt_int, tCons_cons, tInt_int, tNil_nil, ld1_fld (Heap.set_same _ _ _) rfl, tInt_int]
    exact s44l1_in (L.length + 1) (boolean_l1 hf hn h1 (Heap.set_same _ _ _) (Heap.set_sub hq) (yes e) L.length 0 (by omega) fun x' hx' => by omega)
end
end Go.Proofs.YtljglglbfcgjpaaGreat

namespace Go.Proofs.YtljglglbfcgjpaaGreat
open Go Go.Sym Go.Proofs.Tryz
variable {K : AVal → Heap → Prop} {h h0 hb : Heap} {up : List (List Int)} {val : List (List ByteArray)} {mU mV : AVal}
/- ---------------- what is above a world ---------------- -/
noncomputable def cone (up : List (List Int)) (w : Nat) : List Nat := (List.range up.length).filter (rb up w)
theorem cone_lt {w x : Nat} (h : x ∈ cone up w) : x < up.length := List.mem_range.1 (List.mem_filter.1 h).1
theorem aboveW_ok (S : Small up val) (hU : Intss mU up) (hV : Strss mV val) (W : WF up val) {w : Nat} (hw : w < up.length) (hk : ∀ v, Ints v (natI (cone up w)) → K (.tuple [v, .int .i64 0]) h) : ACalls prog 60 [.agg [mU, mV], .int .i64 (w : Int)] h K := by
  refine s60_ok ?_
  unfold s60
  refine callG_of (asked_ok (l := [(w : Int)]) S hU hV (.inl rfl) (by simp) (fun hn => absurd W hn) (fun _ hn => absurd (by intro x hx; simp at hx; omega) hn) fun _ _ f hF => ?_)
  rw [tTup_tuple, tCons_cons, tCons_cons, tInt_int, tNil_nil]
  have hsc : sc f = true := by obtain ⟨o, rfl, _⟩ := hF; rfl
  refine newRow_in fun r hr => chk_iff.2 ⟨hsc, st_elem (Heap.set_same _ _ _) rfl rfl ?_⟩
  rw [Heap.set_set]
  refine ifT_neg rfl ?_
  have hmax := W.max
  refine callG_of (all_ok (p := rb up w) hU (by omega) (fun b hb' h' K' old hk' => ?_) fun v hv => retG_drop (Heap.set_sub hr) (hk v hv))
  show callG prog 101 ([] ++ [.int .i64 (b : Int)] ++ [.ptr r 0 0, .lptr [.int .i64 (w : Int)]]) h' K'
  refine callG_of (s101_ok ?_)
  unfold s101
  have hfa : f.isAgg = false := by obtain ⟨o, rfl, _⟩ := hF; rfl
  rw [ld1_one (old r _ (Heap.set_same _ _ _)) hfa, ld1_lptr, tInt_int]
  refine leq_call hF hw hb' ?_
  rw [tBool_bool]
  exact retG_of hk'
/- ---------------- plain: up-sets ---------------- -/
structure ClosedU (up : List (List Int)) (l : List Bool) : Prop where
  len : l.length = up.length
  cl : ∀ a b, a < up.length → b < up.length → rb up a b = true → l.getD a false = true → l.getD b false = true
theorem rb_refl {a : Nat} : rb up a a = true := rb_iff.2 .refl
theorem rb_trans {a b c : Nat} (h1 : rb up a b = true) (h2 : rb up b c = true) : rb up a c = true := rb_iff.2 ((rb_iff.1 h1).trans (rb_iff.1 h2))
theorem mem_cone {w x : Nat} : x ∈ cone up w ↔ x < up.length ∧ rb up w x = true := by
  unfold cone
  rw [List.mem_filter, List.mem_range]
theorem closed_join {l : List Bool} (C : ClosedU up l) (w : Nat) : ClosedU up (joinS l (cone up w)) := by
  refine ⟨by rw [joinS_len, C.len], fun a b ha hb hab h => ?_⟩
  rw [joinS_get _ _ _ (by rw [C.len]; exact ha), Bool.or_eq_true, decide_eq_true_eq] at h
  rw [joinS_get _ _ _ (by rw [C.len]; exact hb), Bool.or_eq_true, decide_eq_true_eq]
  rcases h with h | h
  · exact .inl (C.cl a b ha hb hab h)
  · exact .inr (mem_cone.2 ⟨hb, rb_trans (mem_cone.1 h).2 hab⟩)
theorem getD_rep (n i : Nat) : (List.replicate n false).getD i false = false := by
  rw [List.getD_eq_getElem?_getD, List.getElem?_replicate]
  split <;> rfl
theorem closed_none : ClosedU up (List.replicate up.length false) := ⟨by simp, fun a b _ _ _ h => by rw [getD_rep] at h; cases h⟩
theorem all_closed {U : List (List Bool)} (h0 : List.replicate up.length false ∈ U) (hj : ∀ u ∈ U, ∀ c, c < up.length → joinS u (cone up c) ∈ U) {s : List Bool} (C : ClosedU up s) : s ∈ U := by
  have key : ∀ (ws : List Nat), (∀ w ∈ ws, w < up.length ∧ s.getD w false = true) → ∃ u ∈ U, u.length = up.length ∧ (∀ i, i < up.length → u.getD i false = true → s.getD i false = true) ∧ ∀ w ∈ ws, u.getD w false = true := by
    intro ws
    induction ws with
    | nil => exact fun _ => ⟨_, h0, by simp, fun i _ h => (by rw [getD_rep] at h; cases h), fun w hw => by cases hw⟩
    | cons w ws ih =>
      intro hw
      obtain ⟨u, hu, hl, h1, h2⟩ := ih fun x hx => hw x (List.mem_cons_of_mem _ hx)
      obtain ⟨hwl, hws⟩ := hw w List.mem_cons_self
      refine ⟨_, hj u hu w hwl, by rw [joinS_len, hl], fun i hi h => ?_, fun x hx => ?_⟩
      · rw [joinS_get _ _ _ (by rw [hl]; exact hi), Bool.or_eq_true, decide_eq_true_eq] at h
        rcases h with h | h
        · exact h1 i hi h
        · exact C.cl w i hwl hi (mem_cone.1 h).2 hws
      · have hxl : x < up.length := (hw x hx).1
        rw [joinS_get _ _ _ (by rw [hl]; exact hxl), Bool.or_eq_true, decide_eq_true_eq]
        rcases List.mem_cons.1 hx with rfl | hx
        · exact .inr (mem_cone.2 ⟨hxl, rb_refl⟩)
        · exact .inl (h2 x hx)
  obtain ⟨u, hu, hl, h1, h2⟩ := key ((List.range up.length).filter fun w => s.getD w false) fun w hw => by
    rw [List.mem_filter, List.mem_range] at hw
    exact hw
  have : s = u := ext_getD (by rw [C.len, hl]) fun i hi => by
    have hi' : i < up.length := by rw [← C.len]; exact hi
    rw [Bool.eq_iff_iff]
    exact ⟨fun h => h2 i (List.mem_filter.2 ⟨List.mem_range.2 hi', h⟩), h1 i hi'⟩
  rw [this]
  exact hu
structure IsUps (up : List (List Int)) (V : List (List Bool)) : Prop where
  rise : Rising up.length V
  mem : ∀ s, s ∈ V ↔ ClosedU up s
def Many (up : List (List Int)) : Prop := ∃ V : List (List Bool), V.Nodup ∧ V.length = 65 ∧ ∀ s ∈ V, ClosedU up s
/- ---------------- a map whose keys are sets ---------------- -/
def mapQ (U : List (List Bool)) : List (AVal × AVal) := U.map fun l => (.str (bsS l), .int .i64 1)
theorem findQ_in {l : List Bool} : ∀ (U : List (List Bool)) (i : Nat), l ∈ U → ∃ j, findM (.str (bsS l)) (mapQ U) i = some (some (j, .int .i64 1))
  | [], _, h => by simp at h
  | x :: U, i, h => by
    show ∃ j, findM (.str (bsS l)) ((.str (bsS x), .int .i64 1) :: mapQ U) i = _
    unfold findM keyEq
    simp only [strEq_dec]
    by_cases e : l = x
    · subst e
      exact ⟨i, by simp⟩
    · rw [show decide (bsS l = bsS x) = false from decide_eq_false fun h' => e (bsS_inj h')]
      exact findQ_in U (i + 1) (by simpa [e] using h)
theorem findQ_out {l : List Bool} : ∀ (U : List (List Bool)) (i : Nat), l ∉ U → findM (.str (bsS l)) (mapQ U) i = some none
  | [], _, _ => rfl
  | x :: U, i, h => by
    show findM (.str (bsS l)) ((.str (bsS x), .int .i64 1) :: mapQ U) i = _
    unfold findM keyEq
    simp only [strEq_dec]
    have h1 : l ≠ x ∧ l ∉ U := by simpa using h
    rw [show decide (bsS l = bsS x) = false from decide_eq_false fun h' => h1.1 (bsS_inj h')]
    exact findQ_out U (i + 1) h1.2
theorem mapQ_in {h : Heap} {rm : Nat} {U : List (List Bool)} (hm : h rm = some (.map (mapQ U))) {l : List Bool} (hl : l ∈ U) {X : AVal → Bool → Prop} (hk : X (.int .i64 1) true) : mapGet (.int .i64 0) h (.mapr rm) (.str (bsS l)) X := by
  obtain ⟨j, e⟩ := findQ_in U 0 hl
  unfold mapGet mapGetR entsA
  simp only [hm, e]
  exact hk
theorem mapQ_out {h : Heap} {rm : Nat} {U : List (List Bool)} (hm : h rm = some (.map (mapQ U))) {l : List Bool} (hl : l ∉ U) {X : AVal → Bool → Prop} (hk : X (.int .i64 0) false) : mapGet (.int .i64 0) h (.mapr rm) (.str (bsS l)) X := by
  unfold mapGet mapGetR entsA
  simp only [hm, findQ_out U 0 hl]
  exact hk
theorem mapQ_put {h : Heap} {rm : Nat} {U : List (List Bool)} (hm : h rm = some (.map (mapQ U))) {l : List Bool} (hl : l ∉ U) {X : Heap → Prop} (hk : X (h.set rm (.map (mapQ (U ++ [l]))))) : mapPut h (.mapr rm) (.str (bsS l)) (.int .i64 1) X := by
  unfold mapPut mapPutR putM
  simp only [hm, findQ_out U 0 hl]
  simpa [mapQ] using hk
/- ---------------- the search ---------------- -/
abbrev strsQ (U : List (List Bool)) : List AVal := U.map fun x => .str (bsS x)
abbrev UM (h0 : Heap) (l_ : AVal) (rm : Nat) (U : List (List Bool)) (h : Heap) : Prop := Own h0 [.slc 1 l_ (strsQ U), .cell rm (.map (mapQ U))] h
structure UInv (up : List (List Int)) (U : List (List Bool)) (i : Nat) : Prop where
  nd : U.Nodup
  few : U.length ≤ 64
  cl : ∀ s ∈ U, ClosedU up s
  zero : List.replicate up.length false ∈ U
  done : ∀ k (hk : k < U.length), k < i → ∀ c, c < up.length → joinS U[k] (cone up c) ∈ U
section
variable (hn : up.length ≤ 512) {cv : AVal} (hC : Intss cv ((List.range up.length).map fun w => natI (cone up w)))
include hn hC
theorem ups_l3 (many : Many up → K (.tuple [.nilsl, .int .i64 231]) h0) {rm i : Nat} {u : List Bool} {L2 : s27l2_T}
    (next : ∀ U l_ h, UInv up U i → U[i]? = some u → (∀ c, c < up.length → joinS u (cone up c) ∈ U) → UM h0 l_ rm U h → L2 cv l_ (.mapr rm) ((i : Int) + 1) h) :
    ∀ d j : Nat, j + d = up.length → ∀ U l_ h, UInv up U i → U[i]? = some u → (∀ c, c < j → joinS u (cone up c) ∈ U) → UM h0 l_ rm U h → s27l3 K L2 (d + 1) cv l_ (.mapr rm) (i : Int) cv up.length (j : Int) h
  | 0, j, hd, U, l_, h, I, hu, hj, W => by
    have hi : i < U.length := (List.getElem?_eq_some_iff.1 hu).1
    have := I.few
    unfold s27l3
    exact ifT_neg (by simp; omega) (rg_of (by omega) (by omega) (next U l_ h I hu (fun c hc => hj c (by omega)) W))
  | d + 1, j, hd, U, l_, h, I, hu, hj, W => by
    have hjn : j < up.length := by omega
    have hi : i < U.length := (List.getElem?_eq_some_iff.1 hu).1
    have hfew := I.few
    have hum : u ∈ U := List.mem_of_getElem? hu
    have hul := (I.cl u hum).len
    obtain ⟨e, he, hix⟩ := hC.ix (i := j) (by simpa using hjn)
    simp only [List.getElem_map, List.getElem_range] at he
    unfold s27l3
    refine ifT_pos (by simp; omega) ?_
    rw [hix, ld1_lptr]
    have hfit := W.fit 0 _ rfl
    have hne : strsQ U ≠ [] := fun e => by
      have := congrArg List.length e
      simp at this
      rw [this] at hi; simp at hi
    obtain ⟨rl, rfl⟩ : ∃ rl, l_ = .sl rl 1 0 (strsQ U).length := by
      rcases hfit with ⟨_, e⟩ | h
      · exact absurd e hne
      · exact h
    have hlen : (strsQ U).length = U.length := by simp
    rw [hlen]
    have W : UM h0 (.sl rl 1 0 U.length) rm U h := by rw [← hlen]; exact W
    have hr := W.get 0 _ rl rfl rfl
    refine ixS_sl0 hi ?_
    rw [ld1_ptr hr (e := .str (bsS u)) (by simp [hu]) rfl, tStr_str]
    refine callG_of (joined_ok (l := u) (ws := cone up j) he (fun w hw => by rw [hul]; exact cone_lt hw) (by omega) (by
      have := List.length_filter_le (rb up j) (List.range up.length)
      unfold cone
      simp at this ⊢
      omega) ?_)
    rw [tStr_str]
    have hc4 : ∀ U' l_' h', UInv up U' i → U'[i]? = some u → (∀ c, c < j + 1 → joinS u (cone up c) ∈ U') → UM h0 l_' rm U' h' → s27c4 K L2 (s27l3_G (s27l3 K L2 (d + 1))) cv l_' (.mapr rm) (i : Int) cv up.length (j : Int) h' := fun U' l_' h' I' hu' hj' W' => by
      unfold s27c4
      exact rg_of (by omega) (by omega) (s27l3_go (ups_l3 many next d (j + 1) (by omega) U' l_' h' I' hu' hj' W'))
    by_cases hin : joinS u (cone up j) ∈ U
    · refine mapQ_in (W.get 1 _ rm rfl rfl) hin ?_
      rw [tInt_int]
      refine ifT_pos rfl (hc4 U _ h I hu (fun c hc => ?_) W)
      by_cases e : c = j
      · rw [e]; exact hin
      · exact hj c (by omega)
    · refine mapQ_out (W.get 1 _ rm rfl rfl) hin ?_
      rw [tInt_int]
      refine ifT_neg rfl ?_
      rw [lenN_sl]
      have ndx : (U ++ [joinS u (cone up j)]).Nodup := by
        rw [List.nodup_append]
        refine ⟨I.nd, by simp, fun a ha b hb => ?_⟩
        rw [List.mem_singleton.1 hb]
        exact fun e => hin (e ▸ ha)
      have clx : ∀ s ∈ U ++ [joinS u (cone up j)], ClosedU up s := fun s hs => by
        rcases List.mem_append.1 hs with hs | hs
        · exact I.cl s hs
        · rw [List.mem_singleton.1 hs]; exact closed_join (I.cl u hum) j
      by_cases h64 : U.length = 64
      · exact ifT_pos (by simp [h64]) (retG_drop W.old (many ⟨_, ndx, by simp [h64], clx⟩))
      · refine ifT_neg (by simp; omega) (mapQ_put (W.get 1 _ rm rfl rfl) hin ?_)
        have W2 := W.put (i := 1) rfl (.map (mapQ (U ++ [joinS u (cone up j)])))
        refine W2.app (i := 0) rfl (by rw [hlen]; omega) (by rw [hlen]; omega) fun v2 h2 W3 => ?_
        have e : strsQ U ++ [.str (bsS (joinS u (cone up j)))] = strsQ (U ++ [joinS u (cone up j)]) := by simp
        have W4 : UM h0 v2 rm (U ++ [joinS u (cone up j)]) h2 := by unfold UM; rw [← e]; exact W3
        refine hc4 _ v2 h2 ⟨ndx, by simp; omega, clx, List.mem_append_left _ I.zero, fun k hk hki c hc => ?_⟩ (by rw [List.getElem?_append_left hi]; exact hu) (fun c hc => ?_) W4
        · have hk' : k < U.length := by omega
          rw [List.getElem_append_left hk']
          exact List.mem_append_left _ (I.done k hk' hki c hc)
        · by_cases e : c = j
          · rw [e]; exact List.mem_append_right _ (List.mem_singleton.2 rfl)
          · exact List.mem_append_left _ (hj c (by omega))
theorem ups_l2 (many : Many up → K (.tuple [.nilsl, .int .i64 231]) h0) (yes : ∀ V v, IsUps up V → V.length ≤ 64 → SlOf 1 v (strsQ V) → K (.tuple [v, .int .i64 0]) h0) {rm : Nat} :
    ∀ d i : Nat, i + d = 64 → ∀ U l_ h, i ≤ U.length → UInv up U i → UM h0 l_ rm U h → s27l2 K (d + 1) cv l_ (.mapr rm) (i : Int) h := by
  have fin : ∀ (d i : Nat) U l_ h, i = U.length → UInv up U i → UM h0 l_ rm U h → s27l2 K (d + 1) cv l_ (.mapr rm) (i : Int) h := by
    intro d i U l_ h hi I W
    subst hi
    have hpos : 0 < U.length := List.length_pos_of_mem I.zero
    have hfew := I.few
    unfold s27l2
    rw [W.len (i := 0) rfl, show ((strsQ U).length : Int) = (U.length : Int) by simp]
    refine ifT_neg (by simp) ?_
    have hlen : (strsQ U).length = U.length := by simp
    obtain ⟨rl, rfl⟩ : ∃ rl, l_ = .sl rl 1 0 (strsQ U).length := by
      rcases W.fit 0 _ rfl with ⟨_, e⟩ | h
      · have := congrArg List.length e
        simp at this
        rw [this] at hpos; simp at hpos
      · exact h
    have hcl : ∀ s, ClosedU up s → s ∈ U := fun s hs => all_closed I.zero (fun u hu c hc => by
      obtain ⟨k, hk, rfl⟩ := List.mem_iff_getElem.1 hu
      exact I.done k hk hk c hc) hs
    have hr := W.get 0 _ rl rfl rfl
    rw [hlen]
    refine callG_of (sortSets_ok (n := up.length) (by omega) (fun l hl => (I.cl l hl).len) I.nd hpos (by omega) hr fun V hp hR => ?_)
    have hVl : V.length = U.length := hp.length_eq
    have W2 := W.putS (i := 0) (r := rl) (es := 1) (l := strsQ U) rfl (l' := strsQ V) (by simp [hVl])
    obtain ⟨v', l1, s1⟩ := W2.lit (i := 0) rfl (S := nameOf (.sl rl 1 0 (strsQ U).length)) (fun k hk => hk) (Lits.refl _)
    rw [hlen] at l1
    refine ⟨_, .tuple [v', .int .i64 0], h0, .tuple (.cons l1 (.cons (.refl _) .nil)), base_step W2 _ (fun k hk => W2.new 0 _ k rfl hk), yes V v' ⟨hR, fun s => ?_⟩ (by omega) s1⟩
    rw [hp.mem_iff]
    exact ⟨I.cl s, hcl s⟩
  intro d
  induction d with
  | zero =>
    intro i hd U l_ h hi I W
    have := I.few
    exact fin 0 i U l_ h (by omega) I W
  | succ d ih =>
    intro i hd U l_ h hi I W
    by_cases hlt : i < U.length
    · have hfew := I.few
      unfold s27l2
      rw [W.len (i := 0) rfl, show ((strsQ U).length : Int) = (U.length : Int) by simp]
      refine ifT_pos (by simp; omega) ?_
      rw [hC.len, show (((List.range up.length).map fun w => natI (cone up w)).length : Int) = (up.length : Int) by simp]
      refine s27l3_in (up.length + 1) (ups_l3 hn hC (u := U[i]) many (fun U' l_' h' I' hu' hj' W' => ?_) up.length 0 (by omega) U l_ h I (List.getElem?_eq_getElem hlt) (fun c hc => by omega) W)
      obtain ⟨hi', eu⟩ := List.getElem?_eq_some_iff.1 hu'
      refine s27l2_go (ih (i + 1) (by omega) U' l_' h' (by omega) ⟨I'.nd, I'.few, I'.cl, I'.zero, fun k hk hki c hc => ?_⟩ W')
      by_cases e : k = i
      · subst e; rw [eu]; exact hj' c hc
      · exact I'.done k hk (by omega) c hc
    · exact fin (d + 1) i U l_ h (by omega) I W
end
section
variable (S : Small up val) (hU : Intss mU up) (hV : Strss mV val) (W : WF up val) (many : Many up → K (.tuple [.nilsl, .int .i64 231]) h0) (yes : ∀ V v, IsUps up V → V.length ≤ 64 → SlOf 1 v (strsQ V) → K (.tuple [v, .int .i64 0]) h0)
include S hU hV W many yes
theorem ups_l1 : ∀ d i : Nat, i + d = up.length → ∀ cones LC h, All2 Ints LC ((List.range i).map fun w => natI (cone up w)) → Own h0 [.slc 1 cones LC] h → s27l1 K (d + 1) (.lptr [mU, mV]) cones up.length (i : Int) h
  | 0, i, hd, cones, LC, h, aC, O => by
    obtain rfl : i = up.length := by omega
    have hmax := W.max
    unfold s27l1
    refine ifT_neg (by simp) ?_
    simp only [addOff_lptr, List.drop_zero, ld1_lptr]
    rw [hU.len]
    refine mkS_own (by omega) (by omega) fun r1 hr1 => ?_
    have O1 := O.newC hr1 (.row 1 (bV (List.replicate up.length false)))
    have e0 : List.replicate up.length (AVal.int .u8 0) = bV (List.replicate up.length false) := by simp [bV]
    rw [e0]
    have el : up.length = (List.replicate up.length false).length := by simp
    have hb := bStr_row (l := List.replicate up.length false) (O1.get 1 _ r1 rfl rfl)
    rw [← el] at hb
    rw [hb]
    refine newRow_in fun r2 hr2 => ?_
    have O2 := O1.newS hr2 (es := 1) [.str (bsS (List.replicate up.length false))]
    intro r3 hr3 _
    have O3 := O2.newC hr3 (.map [])
    refine ixS_sl0 (i := 0) (by decide) ?_
    rw [ld1_ptr (O3.get 2 _ r2 rfl rfl) rfl rfl, tStr_str]
    refine mapQ_put (U := []) (O3.get 3 _ r3 rfl rfl) (by simp) ?_
    have O4' := O3.put (i := 3) rfl (.map (mapQ ([] ++ [List.replicate up.length false])))
    generalize Heap.set _ r3 (AObj.map (mapQ ([] ++ [List.replicate up.length false]))) = hh at O4' ⊢
    have O4 : Own h0 [.slc 1 cones LC, .cell r1 (.row 1 (bV (List.replicate up.length false))), .slc 1 (.sl r2 1 0 1) (strsQ [List.replicate up.length false]), .cell r3 (.map (mapQ [List.replicate up.length false]))] hh := O4'
    have O6 := O4.renum [.slc 1 (.sl r2 1 0 1) (strsQ [List.replicate up.length false]), .cell r3 (.map (mapQ [List.replicate up.length false])), .slc 1 cones LC] (fun j => if j = 0 then 2 else if j = 1 then 3 else 0) (fun j y hj => by
      match j, hj with
      | 0, hj => exact hj
      | 1, hj => exact hj
      | 2, hj => exact hj
      | j + 3, hj => simp at hj) (show ∀ j, j < 3 → ∀ k, k < 3 → _ = _ → j = k by decide)
    obtain ⟨cv, l1, s1⟩ := O6.lit (i := 2) rfl (S := nameOf cones) (fun k hk => hk) (Lits.refl LC)
    obtain ⟨h', g, O5⟩ := O6.step (nameOf cones) [.slc 1 (.sl r2 1 0 1) (strsQ [List.replicate up.length false]), .cell r3 (.map (mapQ [List.replicate up.length false]))] (fun k hk => O6.new 2 _ k rfl hk) (fun j y' hj => by
      match j, hj with
      | 0, hj =>
        cases hj
        exact ⟨_, rfl, O6.fit 0 _ rfl, fun q hq => ⟨hq, fun hs => by have := O6.one 0 2 _ _ q rfl rfl hq hs; omega⟩, .refl _⟩
      | 1, hj =>
        cases hj
        exact ⟨_, rfl, O6.fit 1 _ rfl, fun q hq => ⟨hq, fun hs => by have := O6.one 1 2 _ _ q rfl rfl hq hs; omega⟩, .refl _⟩
      | j + 2, hj => simp at hj)
    have hC : Intss cv ((List.range up.length).map fun w => natI (cone up w)) := ⟨LC, s1, aC⟩
    refine ⟨_, [cv, .sl r2 1 0 1, .mapr r3, .int .i64 0], h', .cons l1 (.cons (.refl _) (.cons (.refl _) (.cons (.refl _) .nil))), g, rfl, 65, ?_⟩
    refine ups_l2 (by omega) hC many yes 64 0 (by omega) [List.replicate up.length false] _ h' (by simp) ⟨by simp, by simp, fun s hs => ?_, by simp, fun k hk hk0 => by omega⟩ O5
    rw [List.mem_singleton.1 hs]
    exact closed_none
  | d + 1, i, hd, cones, LC, h, aC, O => by
    have hi : i < up.length := by omega
    have hmax := W.max
    have hLC : LC.length = i := by have := aC.length; simpa using this
    unfold s27l1
    refine ifT_pos (by simp; omega) ?_
    rw [ldN_agg2, tCons_cons, tCons_cons, tNil_nil]
    refine callG_of (aboveW_ok S hU hV W hi fun v hv => ?_)
    rw [tTup_tuple, tCons_cons, tCons_cons, tInt_int, tNil_nil]
    refine chk_iff.2 ⟨hv.notAgg.2, O.app (i := 0) rfl (by omega) (by omega) fun v2 h2 O2 => rg_of (by omega) (by omega) (s27l1_go (ups_l1 d (i + 1) (by omega) v2 _ h2 ?_ O2))⟩
    rw [List.range_succ, List.map_append]
    exact aC.append (.cons hv .nil)
end
theorem upsets_ok (S : Small up val) (hU : Intss mU up) (hV : Strss mV val) (bad : ¬ WF up val → K (.tuple [.nilsl, .int .i64 170]) h) (many : WF up val → Many up → K (.tuple [.nilsl, .int .i64 231]) h)
    (yes : WF up val → ∀ V v, IsUps up V → V.length ≤ 64 → SlOf 1 v (strsQ V) → K (.tuple [v, .int .i64 0]) h) : ACalls prog 27 [.agg [mU, mV]] h K := by
  refine s27_ok ?_
  unfold s27
  refine callG_of (check_ok S hU hV (fun hW => ?_) fun hW => ?_)
  · rw [tInt_int]
    exact ifT_pos rfl (retG_of (bad hW))
  · rw [tInt_int]
    refine ifT_neg rfl ?_
    rw [hU.len]
    exact s27l1_in (up.length + 1) (ups_l1 S hU hV hW (many hW) (yes hW) up.length 0 (by omega) .nilsl [] h .nil ((Own.start h).newN 1))
end Go.Proofs.YtljglglbfcgjpaaGreat

namespace Go.Proofs.YtljglglbfcgjpaaGreat
open Go Go.Sym Go.Proofs.Tryz
variable {K : AVal → Heap → Prop} {h h0 hb : Heap} {n : Nat} {r : Nat → Nat → Bool} {f : AVal}
theorem nilCk_lptr (l : List AVal) (X : AVal → Prop) : nilCheckA (.lptr l) X = X (.lptr l) := rfl
theorem eqQ_boolR {p q : Bool} {X : Bool → Prop} (hx : X (p == q)) : eqQ prog 4 (.bool p) (.bool q) X := by
  have e : eqT prog 8 4 (.bool p) (.bool q) = some (p == q) := by cases p <;> cases q <;> kernel_rfl
  refine ⟨trivial, ?_⟩
  rw [e]
  exact hx
/- ---------------- copies; the same ---------------- -/
theorem Own.ofGrow {os : List Ow} {es : Nat} {v : AVal} {l : List AVal} {h' : Heap} (W : Own hb os h) (g : Grow es h v l h') : Own hb (os ++ [.slc es v l]) h' := by
  cases g with
  | nil => exact W.newN es
  | own hr => exact W.newS hr l
theorem ldN1_lptr (h : Heap) (a : AVal) (K : List AVal → Prop) : ldN 1 h (.lptr [a]) K = K [a] := rfl
theorem sameA_l2 {a b : AVal} {L : List (List Bool)} (A : AlgV a L) (B : AlgV b L) {x : Nat} (hx : x < L.length) {L1 : s8l1_T} (hL : L1 (.lptr [a]) (.lptr [b]) ((x : Int) + 1) h) :
    ∀ d y : Nat, y + d = L[x].length → s8l2 K L1 (d + 1) (.lptr [a]) (.lptr [b]) (x : Int) (y : Int) h
  | 0, y, hd => by
    obtain ⟨e, he, hix⟩ := A.v.ix hx
    have hl := A.len
    unfold s8l2
    simp only [addOff_lptr, List.drop_zero, ld1_lptr]
    rw [hix, ld1_lptr, he.len]
    exact ifT_neg (by simp; omega) (rg_of (by omega) (by omega) hL)
  | d + 1, y, hd => by
    obtain ⟨e, he, hix⟩ := A.v.ix hx
    obtain ⟨e', he', hix'⟩ := B.v.ix hx
    have hy : y < L[x].length := by omega
    have hr := A.row _ (List.getElem_mem hx)
    unfold s8l2
    simp only [addOff_lptr, List.drop_zero, ld1_lptr]
    rw [hix, ld1_lptr, he.len]
    refine ifT_pos (by simp; omega) ?_
    rw [hix, ld1_lptr, he.ix hy, ld1_lptr, tBool_bool, hix', ld1_lptr, he'.ix hy, ld1_lptr, tBool_bool]
    refine eqQ_boolR ?_
    refine ifT_neg (by simp) (rg_of (by omega) (by omega) (s8l2_go (sameA_l2 A B hx hL d (y + 1) (by omega))))
theorem sameA_l1 {a b : AVal} {L : List (List Bool)} (A : AlgV a L) (B : AlgV b L) (hk : K (.bool true) h) : ∀ d x : Nat, x + d = L.length → s8l1 K (d + 1) (.lptr [a]) (.lptr [b]) (x : Int) h
  | 0, x, hd => by
    unfold s8l1
    simp only [addOff_lptr, List.drop_zero, ld1_lptr]
    rw [A.v.len]
    exact ifT_neg (by simp; omega) (retG_of hk)
  | d + 1, x, hd => by
    have hx : x < L.length := by omega
    obtain ⟨e, he, hix⟩ := A.v.ix hx
    obtain ⟨e', he', hix'⟩ := B.v.ix hx
    unfold s8l1
    simp only [addOff_lptr, List.drop_zero, ld1_lptr]
    rw [A.v.len]
    refine ifT_pos (by simp; omega) ?_
    rw [hix, ld1_lptr, he.len, hix', ld1_lptr, he'.len]
    exact ifT_neg (by simp) (s8l2_in (L[x].length + 1) (sameA_l2 A B hx (s8l1_go (sameA_l1 A B hk d (x + 1) (by omega))) L[x].length 0 (by omega)))
theorem sameA_ok {a b : AVal} {L : List (List Bool)} (A : AlgV a L) (B : AlgV b L) (hk : K (.bool true) h) : ACalls prog 8 [.agg [a], .agg [b]] h K := by
  refine s8_ok ?_
  unfold s8
  rw [A.v.len, B.v.len]
  exact ifT_neg (by simp) (s8l1_in (L.length + 1) (sameA_l1 A B hk L.length 0 (by omega)))
end Go.Proofs.YtljglglbfcgjpaaGreat

namespace Go.Proofs.YtljglglbfcgjpaaGreat
open Go Go.Sym Go.Proofs.Tryz
variable {K : AVal → Heap → Prop} {h h0 hb : Heap} {up : List (List Int)} {val : List (List ByteArray)} {mU mV : AVal}
theorem Own.frzL {os : List Ow} {es : Nat} {v : AVal} {l : List AVal} (W : Own hb (os ++ [.slc es v l]) h) : ∃ S h' v', Go.Sym.Lit h S v v' ∧ SlOf es v' l ∧ Go.Sym.GStep h h' S ∧ Own hb os h' := by
  have hl : (os ++ [Ow.slc es v l])[os.length]? = some (.slc es v l) := by simp
  obtain ⟨v', hv, hs⟩ := W.lit hl (S := nameOf v) (fun _ h => h) (Lits.refl l)
  obtain ⟨h', g, W'⟩ := W.step (nameOf v) os (fun n hn => W.new _ _ n hl hn) (fun j y hj => by
    have hj2 := (List.getElem?_eq_some_iff.1 hj).1
    have hj' : (os ++ [Ow.slc es v l])[j]? = some y := by rw [List.getElem?_append_left hj2]; exact hj
    exact ⟨y, hj', W.fit _ _ hj', fun n hn => ⟨hn, fun hm => by
      have := W.one j os.length y _ n hj' hl hn hm
      omega⟩, .refl _⟩)
  exact ⟨_, h', v', hv, hs, g, W'⟩
def idxL (l : List Bool) : List Nat := (List.range l.length).filter fun w => l.getD w false
def subB (x y : List Bool) : Bool := decide (joinS y (idxL x) = y)
def leqT (V : List (List Bool)) : List (List Bool) := V.map fun x => V.map fun y => subB x y
theorem mem_idx {l : List Bool} {w : Nat} : w ∈ idxL l ↔ w < l.length ∧ l.getD w false = true := by
  unfold idxL
  rw [List.mem_filter, List.mem_range]
theorem subB_iff {n : Nat} {x y : List Bool} (hx : x.length = n) (hy : y.length = n) : subB x y = true ↔ ∀ w, w < n → x.getD w false = true → y.getD w false = true := by
  unfold subB
  rw [decide_eq_true_eq]
  constructor
  · intro h w hw h1
    rw [← h, joinS_get _ _ _ (by omega), Bool.or_eq_true, decide_eq_true_eq]
    exact .inr (mem_idx.2 ⟨by omega, h1⟩)
  · intro h
    refine ext_getD (joinS_len _ _) fun i hi => ?_
    rw [joinS_len] at hi
    rw [joinS_get _ _ _ hi]
    cases e : y.getD i false with
    | true => rfl
    | false =>
      rw [Bool.false_or, decide_eq_false_iff_not, mem_idx]
      rintro ⟨h1, h2⟩
      rw [h i (by omega) h2] at e
      cases e
theorem at2_leqT {V : List (List Bool)} {i j : Nat} (hi : i < V.length) (hj : j < V.length) : at2 (leqT V) i j = subB V[i] V[j] := by
  unfold at2 leqT
  simp [List.getD, hi, hj]
theorem idxL_inj {n : Nat} {a b : List Bool} (ha : a.length = n) (hb : b.length = n) (h : idxL a = idxL b) : a = b := by
  refine ext_getD (by omega) fun i hi => ?_
  have h1 : i ∈ idxL a ↔ i ∈ idxL b := by rw [h]
  rw [mem_idx, mem_idx] at h1
  rw [Bool.eq_iff_iff]
  exact ⟨fun e => (h1.1 ⟨hi, e⟩).2, fun e => (h1.2 ⟨by omega, e⟩).2⟩
section
variable {n : Nat} (hn : n ≤ 512) {V : List (List Bool)} (hV : ∀ l ∈ V, l.length = n) (hl : V.length ≤ 64) {v : AVal} (hv : SlOf 1 v (strsQ V))
include hn hV hl hv
theorem upsP_l4 {rt ra : Nat} {X va sets in_ : AVal} {LA LS : List AVal} (hLA : LA.length ≤ 64) (hLS : LS.length ≤ 64) {x : List Bool} (hx : x ∈ V) {L1 : s6l1_T} {k : Nat} (hk : k ≤ 64) (hin : Ints in_ (natI (idxL x)))
    (next : ∀ va' sets' row h', Bools row (V.map (subB x)) → Own h0 [.cell rt (.row 1 [.agg [X]]), .cell ra (.row 1 [.agg [va']]), .slc 1 va' (LA ++ [row]), .slc 1 sets' (LS ++ [in_])] h' → L1 (.ptr rt 0 0) v (.ptr ra 0 0) sets' v V.length ((k : Int) + 1) h') :
    ∀ d j : Nat, j + d = V.length → ∀ row h, Own h0 [.cell rt (.row 1 [.agg [X]]), .cell ra (.row 1 [.agg [va]]), .slc 1 va LA, .slc 1 sets LS, .slc 1 row (((V.take j).map (subB x)).map .bool)] h →
      s6l4 K (s6l1_G L1) (d + 1) (.ptr rt 0 0) v (.ptr ra 0 0) sets in_ row v V.length (k : Int) v V.length (j : Int) h
  | 0, j, hd, row, h, W => by
    unfold s6l4
    refine ifT_neg (by simp; omega) (chk_iff.2 ⟨hin.notAgg.2, W.app (i := 3) rfl (by omega) (by omega) fun v2 h2 W2 => ?_⟩)
    rw [addOff_ptr, ld1_fld (W2.get 1 _ ra rfl rfl) rfl]
    refine chk_iff.2 ⟨(W2.sc (i := 4) rfl).1, W2.app (i := 2) rfl (by omega) (by omega) fun v3 h3 W3 => ?_⟩
    rw [addOff_ptr]
    refine chk_iff.2 ⟨(W3.sc (i := 2) rfl).1, st_fld (W3.get 1 _ ra rfl rfl) (by simp) (rg_of (by omega) (by omega) ?_)⟩
    have W4 : Own h0 ([.cell rt (.row 1 [.agg [X]]), .cell ra (.row 1 [.agg [v3]]), .slc 1 v3 (LA ++ [row]), .slc 1 v2 (LS ++ [in_])] ++ [.slc 1 row (((V.take j).map (subB x)).map .bool)]) _ := W3.put (i := 1) rfl (.row 1 [.agg [v3]])
    obtain ⟨S, h', row', s1, g, W5⟩ := W4.settleL (i := 2) rfl
    rw [List.take_of_length_le (by omega)] at s1
    exact ⟨S, _, h', Lits.refl _, g, rfl, next v3 v2 row' h' s1 W5⟩
  | d + 1, j, hd, row, h, W => by
    have hj : j < V.length := by omega
    have hyl := hV _ (List.getElem_mem hj)
    have hxl := hV _ hx
    unfold s6l4
    refine ifT_pos (by simp; omega) ?_
    rw [ixS_nat hv (e := .str (bsS V[j])) (by simp [hj]), show cellsOf (.str (bsS V[j])) = [.str (bsS V[j])] from rfl, ld1_lptr, tStr_str]
    refine callG_of (joined_ok (l := V[j]) (ws := idxL x) hin (fun w hw => by have := (mem_idx.1 hw).1; omega) (by omega) (by
      have := List.length_filter_le (fun w => x.getD w false) (List.range x.length)
      unfold idxL
      simp only [List.length_range] at this
      omega) ?_)
    rw [tStr_str]
    have e : strEq (bsS (joinS V[j] (idxL x))) (bsS V[j]) = subB x V[j] := by
      rw [strEq_dec]
      unfold subB
      rw [Bool.eq_iff_iff, decide_eq_true_eq, decide_eq_true_eq]
      exact ⟨bsS_inj, fun h => by rw [h]⟩
    rw [e]
    refine W.app (i := 4) rfl (by simp; omega) (by simp; omega) fun v2 h2 W2 => rg_of (by omega) (by omega) (s6l4_go (upsP_l4 (va := va) hLA hLS hx hk hin next d (j + 1) (by omega) v2 h2 ?_))
    rw [List.take_succ_eq_append_getElem hj, List.map_append, List.map_append]
    exact W2
theorem upsP_l2 {rt ra : Nat} {X va sets : AVal} {LA LS : List AVal} (hLA : LA.length ≤ 64) (hLS : LS.length ≤ 64) {x : List Bool} (hx : x ∈ V) {L1 : s6l1_T} {k : Nat} (hk : k ≤ 64)
    (next : ∀ va' sets' row in_ h', Bools row (V.map (subB x)) → Ints in_ (natI (idxL x)) → Own h0 [.cell rt (.row 1 [.agg [X]]), .cell ra (.row 1 [.agg [va']]), .slc 1 va' (LA ++ [row]), .slc 1 sets' (LS ++ [in_])] h' → L1 (.ptr rt 0 0) v (.ptr ra 0 0) sets' v V.length ((k : Int) + 1) h') :
    ∀ d w : Nat, w + d = n → ∀ in_ h, Own h0 [.cell rt (.row 1 [.agg [X]]), .cell ra (.row 1 [.agg [va]]), .slc 1 va LA, .slc 1 sets LS, .slc 1 in_ ((natI ((List.range w).filter fun w => x.getD w false)).map (.int .i64))] h →
      s6l2 K (s6l1_G L1) (d + 1) (.ptr rt 0 0) v (.ptr ra 0 0) sets (bsS x) in_ v V.length (k : Int) (n : Int) (w : Int) h
  | 0, w, hd, in_, h, W => by
    obtain rfl : w = n := by omega
    have hxl := hV _ hx
    unfold s6l2
    refine ifT_neg (by simp) ?_
    rw [lenN_of hv, show ((strsQ V).length : Int) = (V.length : Int) by simp]
    have W' : Own h0 ([.cell rt (.row 1 [.agg [X]]), .cell ra (.row 1 [.agg [va]]), .slc 1 va LA, .slc 1 sets LS] ++ [.slc 1 in_ ((natI ((List.range w).filter fun w => x.getD w false)).map (.int .i64))]) h := W
    obtain ⟨S, h', in', l1, s1, g, W2⟩ := Own.frzL W'
    have hin : Ints in' (natI (idxL x)) := by unfold idxL; rw [hxl]; exact s1
    refine ⟨S, [.ptr rt 0 0, v, .ptr ra 0 0, sets, in', .nilsl, v, .int .i64 V.length, .int .i64 k, v, .int .i64 V.length, .int .i64 0], h', .cons (.refl _) (.cons (.refl _) (.cons (.refl _) (.cons (.refl _) (.cons l1 (Lits.refl _))))), g, ?_, V.length + 1, ?_⟩
    · rfl
    · exact upsP_l4 (va := va) hn hV hl hv hLA hLS hx hk hin (fun va' sets' row h'' hb W3 => next va' sets' row in' h'' hb hin W3) V.length 0 (by omega) .nilsl h' (W2.newN 1)
  | d + 1, w, hd, in_, h, W => by
    have hw : w < n := by omega
    have hxl := hV _ hx
    have hle := List.length_filter_le (fun w => x.getD w false) (List.range w)
    simp only [List.length_range] at hle
    have hs := range_filter_succ (fun w => x.getD w false) w
    have hlen : ((natI ((List.range w).filter fun w => x.getD w false)).map (AVal.int .i64)).length ≤ w := by
      rw [List.length_map]
      unfold natI
      rw [List.length_map]
      exact hle
    unfold s6l2
    refine ifT_pos (by simp; omega) ⟨by rw [bsS_size, hxl]; omega, ?_⟩
    rw [btA_bsS]
    cases e : x.getD w false with
    | true =>
      rw [e, if_pos rfl] at hs
      refine ifT_pos rfl (W.app (i := 4) rfl (by omega) (by omega) fun v2 h2 W2 => ?_)
      unfold s6c3
      refine rg_of (by omega) (by omega) (s6l2_go (upsP_l2 (va := va) hLA hLS hx hk next d (w + 1) (by omega) v2 h2 ?_))
      have e2 : (natI ((List.range (w + 1)).filter fun w => x.getD w false)).map (AVal.int .i64) = (natI ((List.range w).filter fun w => x.getD w false)).map (.int .i64) ++ [.int .i64 (w : Int)] := by rw [hs]; simp [natI]
      rw [e2]
      exact W2
    | false =>
      rw [e, if_neg (by decide), List.append_nil] at hs
      refine ifT_neg rfl ?_
      unfold s6c3
      refine rg_of (by omega) (by omega) (s6l2_go (upsP_l2 (va := va) hLA hLS hx hk next d (w + 1) (by omega) in_ h ?_))
      rw [hs]
      exact W
theorem upsP_l1 {rt ra : Nat} {X : AVal} (good : ∀ a sets, Boolss a (leqT V) → Intss sets (V.map fun l => natI (idxL l)) → K (.tuple [.agg [a], sets, .int .i64 0]) h0) :
    ∀ d k : Nat, k + d = V.length → ∀ va sets LA LS h, All2 Bools LA ((leqT V).take k) → All2 Ints LS ((V.map fun l => natI (idxL l)).take k) → Own h0 [.cell rt (.row 1 [.agg [X]]), .cell ra (.row 1 [.agg [va]]), .slc 1 va LA, .slc 1 sets LS] h →
      s6l1 K (d + 1) (.ptr rt 0 0) v (.ptr ra 0 0) sets v V.length (k : Int) h
  | 0, k, hd, va, sets, LA, LS, h, aA, aS, W => by
    obtain rfl : k = V.length := by omega
    rw [List.take_of_length_le (by simp [leqT])] at aA
    rw [List.take_of_length_le (by simp)] at aS
    unfold s6l1
    refine ifT_neg (by simp) ?_
    rw [ldN_fld (n := 1) (W.get 1 _ ra rfl rfl) rfl, tCons_cons, tNil_nil]
    refine st_all (W.get 0 _ rt rfl rfl) rfl ?_
    have W2 := W.put (i := 0) rfl (.row 1 [.agg [va]])
    rw [ldN_fld (n := 1) (W2.get 0 _ rt rfl rfl) rfl, tCons_cons, tNil_nil]
    let Sg : Nat → Prop := fun q => nameOf va q ∨ nameOf sets q
    obtain ⟨a', l1, s1⟩ := W2.lit (i := 2) rfl (S := Sg) (fun q hq => .inl hq) (Lits.refl LA)
    obtain ⟨b', l2, s2⟩ := W2.lit (i := 3) rfl (S := Sg) (fun q hq => .inr hq) (Lits.refl LS)
    refine ⟨Sg, .tuple [.agg [a'], b', .int .i64 0], h0, .tuple (.cons (.agg (.cons l1 .nil)) (.cons l2 (.cons (.refl _) .nil))), base_step W2 Sg fun q hq => ?_, good a' b' ⟨_, s1, aA⟩ ⟨_, s2, aS⟩⟩
    rcases hq with hq | hq
    · exact W2.new 2 _ q rfl hq
    · exact W2.new 3 _ q rfl hq
  | d + 1, k, hd, va, sets, LA, LS, h, aA, aS, W => by
    have hk : k < V.length := by omega
    have hxl := hV _ (List.getElem_mem hk)
    have lA : LA.length ≤ 64 := by have := aA.length; rw [List.length_take] at this; omega
    have lS : LS.length ≤ 64 := by have := aS.length; rw [List.length_take] at this; omega
    unfold s6l1
    refine ifT_pos (by simp; omega) ?_
    rw [ixS_nat hv (e := .str (bsS V[k])) (by simp [hk]), show cellsOf (.str (bsS V[k])) = [.str (bsS V[k])] from rfl, ld1_lptr, tStr_str, bsS_size, hxl]
    refine s6l2_in (n + 1) (upsP_l2 (va := va) hn hV hl hv lA lS (List.getElem_mem hk) (by omega) (fun va' sets' row in_ h' hb hi W2 => ?_) n 0 (by omega) .nilsl h (W.newN 1))
    refine upsP_l1 good d (k + 1) (by omega) va' sets' _ _ h' ?_ ?_ W2
    · rw [List.take_add_one, show (leqT V)[k]? = some (V.map (subB V[k])) by simp [leqT, hk]]
      exact aA.append (.cons hb .nil)
    · rw [List.take_add_one, show (V.map fun l => natI (idxL l))[k]? = some (natI (idxL V[k])) by simp [hk]]
      exact aS.append (.cons hi .nil)
end
theorem upsP_ok (S : Small up val) (hU : Intss mU up) (hV : Strss mV val) (bad : ¬ WF up val → K (.tuple [.agg [.nilsl], .nilsl, .int .i64 170]) h) (many : WF up val → Many up → K (.tuple [.agg [.nilsl], .nilsl, .int .i64 231]) h)
    (yes : WF up val → ∀ V, IsUps up V → V.length ≤ 64 → ∀ a sets, Boolss a (leqT V) → Intss sets (V.map fun l => natI (idxL l)) → K (.tuple [.agg [a], sets, .int .i64 0]) h) : ACalls prog 6 [.agg [mU, mV]] h K := by
  refine s6_ok ?_
  unfold s6
  refine newRow_in fun rt hrt => ?_
  have W0 := (Own.start h).newC hrt (.row 1 [.agg [.nilsl]])
  have err : ∀ e : Int, K (.tuple [.agg [.nilsl], .nilsl, .int .i64 e]) h → st false (h.set rt (.row 1 [.agg [.nilsl]])) (.ptr rt 0 0) [.nilsl] fun h_2 => ldN 1 h_2 (.ptr rt 0 0) fun l_3 => tCons l_3 fun v4 l_4 => tNil l_4 (retG (.tuple [(.agg [v4]), .nilsl, (.int .i64 e)]) h_2 K) := fun e hk => by
    refine st_all (W0.get 0 _ rt rfl rfl) rfl ?_
    have W2 := W0.put (i := 0) rfl (.row 1 [.agg [.nilsl]])
    rw [ldN_fld (n := 1) (W2.get 0 _ rt rfl rfl) rfl, tCons_cons, tNil_nil]
    exact retG_drop W2.old hk
  refine callG_of (upsets_ok S hU hV (fun hW => ?_) (fun hW hm => ?_) fun hW V v hV' hl hv => ?_)
  · rw [tTup_tuple, tCons_cons, tCons_cons, tInt_int, tNil_nil]
    exact ifT_pos rfl (err 170 (bad hW))
  · rw [tTup_tuple, tCons_cons, tCons_cons, tInt_int, tNil_nil]
    exact ifT_pos rfl (err 231 (many hW hm))
  · rw [tTup_tuple, tCons_cons, tCons_cons, tInt_int, tNil_nil]
    refine ifT_neg rfl (newRow_in fun ra hra => ?_)
    rw [lenN_of hv, show ((strsQ V).length : Int) = (V.length : Int) by simp]
    have W2 := ((W0.newC hra (.row 1 [.agg [.nilsl]])).newN 1).newN 1
    have hmax := hW.max
    exact s6l1_in (V.length + 1) (upsP_l1 (n := up.length) hmax (fun l hl => ((hV'.mem l).1 hl).len) hl hv (yes hW V hV' hl) V.length 0 (by omega) .nilsl .nilsl [] [] _ .nil .nil W2)
/- ---------------- Chain ---------------- -/
def chainL (n : Nat) : List (List Bool) := (List.range n).map fun x => (List.range n).map fun y => decide (x ≤ y)
section
variable {n : Nat} (hn : n ≤ 64)
include hn
theorem chain_l3 {rt ra : Nat} {X va : AVal} {LA : List AVal} (hLA : LA.length ≤ 64) {x : Nat} (hx : x < n) {L2 : s15l2_T}
    (next : ∀ va' row h', Bools row ((List.range n).map fun y => decide (x ≤ y)) → Own h0 [.cell rt (.row 1 [.agg [X]]), .cell ra (.row 1 [.agg [va']]), .slc 1 va' (LA ++ [row])] h' → L2 n (.ptr rt 0 0) (.ptr ra 0 0) n ((x : Int) + 1) h') {rr : Nat} :
    ∀ d y : Nat, y + d = n → x ≤ y → ∀ h, Own h0 [.cell rt (.row 1 [.agg [X]]), .cell ra (.row 1 [.agg [va]]), .slc 1 va LA, .slc 1 (.sl rr 1 0 n) (((List.range n).map fun z => decide (x ≤ z ∧ z < y)).map .bool)] h →
      s15l3 K (s15l2_G L2) (d + 1) n (.ptr rt 0 0) (.ptr ra 0 0) (.sl rr 1 0 n) (y : Int) n (x : Int) h
  | 0, y, hd, hxy, h, W => by
    obtain rfl : y = n := by omega
    unfold s15l3
    refine ifT_neg (by simp) ?_
    rw [addOff_ptr, ld1_fld (W.get 1 _ ra rfl rfl) rfl]
    refine chk_iff.2 ⟨(W.sc (i := 3) rfl).1, W.app (i := 2) rfl (by omega) (by omega) fun v2 h2 W2 => ?_⟩
    rw [addOff_ptr]
    refine chk_iff.2 ⟨(W2.sc (i := 2) rfl).1, st_fld (W2.get 1 _ ra rfl rfl) (by simp) (rg_of (by omega) (by omega) ?_)⟩
    have W4 : Own h0 ([.cell rt (.row 1 [.agg [X]]), .cell ra (.row 1 [.agg [v2]]), .slc 1 v2 (LA ++ [.sl rr 1 0 y])] ++ [.slc 1 (.sl rr 1 0 y) (((List.range y).map fun z => decide (x ≤ z ∧ z < y)).map .bool)]) _ := W2.put (i := 1) rfl (.row 1 [.agg [v2]])
    obtain ⟨S, h', row', s1, g, W5⟩ := W4.settleL (i := 2) rfl
    have e : (List.range y).map (fun z => decide (x ≤ z ∧ z < y)) = (List.range y).map fun z => decide (x ≤ z) := List.map_congr_left fun z hz => by
      have := List.mem_range.1 hz
      rw [decide_eq_decide]
      omega
    rw [e] at s1
    exact ⟨S, _, h', Lits.refl _, g, rfl, next v2 row' h' s1 W5⟩
  | d + 1, y, hd, hxy, h, W => by
    have hy : y < n := by omega
    unfold s15l3
    refine ifT_pos (by simp; omega) (ixS_sl0 hy ?_)
    refine st_elem (W.get 3 _ rr rfl rfl) (e := .bool (decide (x ≤ y ∧ y < y))) (by simp [hy]) rfl (rg_of (by omega) (by omega) (s15l3_go ?_))
    have hlen : (((List.range n).map fun z => decide (x ≤ z ∧ z < y)).map AVal.bool).length = n := by simp
    have W2 := W.putS (i := 3) (r := rr) (es := 1) (l := ((List.range n).map fun z => decide (x ≤ z ∧ z < y)).map AVal.bool) (by rw [hlen]; rfl) (l' := (((List.range n).map fun z => decide (x ≤ z ∧ z < y)).map AVal.bool).set y (.bool true)) (by simp)
    have e : (((List.range n).map fun z => decide (x ≤ z ∧ z < y)).map AVal.bool).set y (.bool true) = ((List.range n).map fun z => decide (x ≤ z ∧ z < y + 1)).map .bool := by
      rw [List.map_map, List.map_map, map_set]
      refine List.map_congr_left fun z _ => ?_
      by_cases ez : z = y
      · subst ez
        rw [if_pos rfl]
        show _ = AVal.bool (decide (x ≤ z ∧ z < z + 1))
        rw [decide_eq_true (by omega)]
      · rw [if_neg ez]
        show AVal.bool (decide (x ≤ z ∧ z < y)) = AVal.bool (decide (x ≤ z ∧ z < y + 1))
        congr 1
        rw [decide_eq_decide]
        omega
    rw [e] at W2 ⊢
    rw [hlen] at W2
    exact chain_l3 (va := va) hLA hx next d (y + 1) (by omega) (by omega) _ W2
theorem chain_l2 {rt ra : Nat} {X : AVal} (good : ∀ a, Boolss a (chainL n) → K (.tuple [.agg [a], .int .i64 0]) h0) : ∀ d x : Nat, x + d = n → ∀ va LA h, All2 Bools LA ((chainL n).take x) → Own h0 [.cell rt (.row 1 [.agg [X]]), .cell ra (.row 1 [.agg [va]]), .slc 1 va LA] h →
    s15l2 K (d + 1) n (.ptr rt 0 0) (.ptr ra 0 0) n (x : Int) h
  | 0, x, hd, va, LA, h, aA, W => by
    obtain rfl : x = n := by omega
    rw [List.take_of_length_le (by simp [chainL])] at aA
    unfold s15l2
    refine ifT_neg (by simp) ?_
    rw [ldN_fld (n := 1) (W.get 1 _ ra rfl rfl) rfl, tCons_cons, tNil_nil]
    refine st_all (W.get 0 _ rt rfl rfl) rfl ?_
    have W2 := W.put (i := 0) rfl (.row 1 [.agg [va]])
    rw [ldN_fld (n := 1) (W2.get 0 _ rt rfl rfl) rfl, tCons_cons, tNil_nil]
    obtain ⟨a', l1, s1⟩ := W2.lit (i := 2) rfl (S := nameOf va) (fun q hq => hq) (Lits.refl LA)
    exact ⟨_, .tuple [.agg [a'], .int .i64 0], h0, .tuple (.cons (.agg (.cons l1 .nil)) (.cons (.refl _) .nil)), base_step W2 _ (fun q hq => W2.new 2 _ q rfl hq), good a' ⟨_, s1, aA⟩⟩
  | d + 1, x, hd, va, LA, h, aA, W => by
    have hx : x < n := by omega
    have lA : LA.length ≤ 64 := by have := aA.length; rw [List.length_take] at this; omega
    unfold s15l2
    refine ifT_pos (by simp; omega) (mkS_own (by omega) (by omega) fun rr hrr => ?_)
    have W2 := W.newS hrr (es := 1) (List.replicate n (.bool false))
    have e : List.replicate n (AVal.bool false) = ((List.range n).map fun z => decide (x ≤ z ∧ z < x)).map .bool := by
      refine List.ext_getElem (by simp) fun i h1 h2 => ?_
      simp
    rw [List.length_replicate, e] at W2
    rw [e]
    refine s15l3_in (n - x + 1) (chain_l3 (va := va) hn lA hx (fun va' row h' hb W3 => ?_) (n - x) x (by omega) (Nat.le_refl _) _ W2)
    refine chain_l2 good d (x + 1) (by omega) va' _ h' ?_ W3
    rw [List.take_add_one, show (chainL n)[x]? = some ((List.range n).map fun y => decide (x ≤ y)) by simp [chainL, hx]]
    exact aA.append (.cons hb .nil)
theorem chainP_ok (h1 : 1 ≤ n) (good : ∀ a, Boolss a (chainL n) → K (.tuple [.agg [a], .int .i64 0]) h) : ACalls prog 15 [.int .i64 (n : Int)] h K := by
  refine s15_ok ?_
  unfold s15
  refine newRow_in fun rt hrt => ifT_neg (by simp; omega) ?_
  rw [decide_eq_false (show ¬ (64 : Int) < n by omega)]
  unfold s15c1
  have W0 := (Own.start h).newC hrt (.row 1 [.agg [.nilsl]])
  refine ifT_neg rfl (newRow_in fun ra hra => ?_)
  have W2 := (W0.newC hra (.row 1 [.agg [.nilsl]])).newN 1
  exact s15l2_in (n + 1) (chain_l2 hn good n 0 (by omega) .nilsl [] _ .nil W2)
end
end Go.Proofs.YtljglglbfcgjpaaGreat

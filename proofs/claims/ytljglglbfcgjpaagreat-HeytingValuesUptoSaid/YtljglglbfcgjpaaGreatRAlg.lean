/- Plain: an order given by a table: meetings, joinings, what implies; the answer by search and the answer by a running best are one. No condition. Plain: BIRKHOFF: an element of an algebra is known by the primes below it; each set of primes that is closed downwards is such. No condition. Contracts: the program's best element, meeting, joining, implying, bounds, order. No condition. Contracts: the program's tables of an algebra, its look, and what it answers of elements. No condition. Contracts: the program's look at an algebra; Check, Meet, Join, Imp, Bounds, Boolean. No condition. Contracts: the document's algebra: order, best, Of, Check, Imp, Bounds, Two, Boolean. No condition. Contracts: the document's algebra: Of, Check, Imp, Bounds, Two, Boolean, Copy, Same. No condition. Contracts: how a law of this layer ends. No condition. -/
import Derived.Test.YtljglglbfcgjpaaGreatM5
import Derived.Test.YtljglglbfcgjpaaGreatRWor
import Derived.KernelRfl

set_option linter.unusedVariables false
set_option linter.unusedSimpArgs false

namespace Go.Proofs.YtljglglbfcgjpaaGreat
open Go Go.Sym

/-- the table's entry -/
def at2 (L : List (List Bool)) (x y : Nat) : Bool := (L.getD x []).getD y false
/-- the first of which it holds that is over all others of which it does -/
def topB (n : Nat) (p : Nat → Bool) (ov : Nat → Nat → Bool) (z : Nat) : Bool := p z && (List.range n).all fun w => !p w || ov z w
def bestP (n : Nat) (p : Nat → Bool) (ov : Nat → Nat → Bool) : Option Nat := (List.range n).find? (topB n p ov)
def meetO (n : Nat) (r : Nat → Nat → Bool) (x y : Nat) : Option Nat := bestP n (fun z => r z x && r z y) (fun z w => r w z)
def joinO (n : Nat) (r : Nat → Nat → Bool) (x y : Nat) : Option Nat := bestP n (fun z => r x z && r y z) (fun z w => r z w)
def mt (n : Nat) (r : Nat → Nat → Bool) (x y : Nat) : Nat := (meetO n r x y).getD 0
def jn (n : Nat) (r : Nat → Nat → Bool) (x y : Nat) : Nat := (joinO n r x y).getD 0
def imO (n : Nat) (r : Nat → Nat → Bool) (x y : Nat) : Option Nat := bestP n (fun z => r (mt n r z x) y) (fun z w => r w z)
def im (n : Nat) (r : Nat → Nat → Bool) (x y : Nat) : Nat := (imO n r x y).getD 0
def lowP (n : Nat) (r : Nat → Nat → Bool) : Nat := (bestP n (fun _ => true) (fun z w => r z w)).getD 0
def highP (n : Nat) (r : Nat → Nat → Bool) : Nat := (bestP n (fun _ => true) (fun z w => r w z)).getD 0
def ordP (n : Nat) (r : Nat → Nat → Bool) : Bool :=
  (List.range n).all fun x => r x x && (List.range n).all fun y => !((x != y) && r x y && r y x) && (List.range n).all fun z => !(r x y && r y z && !r x z)
def tabB (n : Nat) (r : Nat → Nat → Bool) (x y : Nat) : Bool := (meetO n r x y).isSome && (joinO n r x y).isSome
def tabsP (n : Nat) (r : Nat → Nat → Bool) : Bool := (List.range n).all fun x => (List.range n).all fun y => tabB n r x y
def distB (n : Nat) (r : Nat → Nat → Bool) (x y z : Nat) : Bool := mt n r x (jn n r y z) == jn n r (mt n r x y) (mt n r x z)
def distP (n : Nat) (r : Nat → Nat → Bool) : Bool := (List.range n).all fun x => (List.range n).all fun y => (List.range n).all fun z => distB n r x y z
/-- a Heyting algebra of 1 to 64 elements? -/
def algP (L : List (List Bool)) : Bool :=
  decide (1 ≤ L.length) && decide (L.length ≤ 64) && L.all (fun row => row.length == L.length) && ordP L.length (at2 L) && tabsP L.length (at2 L) && distP L.length (at2 L)

theorem bestP_some {n : Nat} {p : Nat → Bool} {ov : Nat → Nat → Bool} {z : Nat} (h : bestP n p ov = some z) : z < n ∧ p z = true ∧ ∀ w, w < n → p w = true → ov z w = true := by
  have h1 := List.find?_some h
  have h2 := List.mem_of_find?_eq_some h
  unfold topB at h1
  rw [Bool.and_eq_true, List.all_eq_true] at h1
  refine ⟨List.mem_range.1 h2, h1.1, fun w hw hp => ?_⟩
  have := h1.2 w (List.mem_range.2 hw)
  simpa [hp] using this
theorem bestP_lt {n : Nat} {p : Nat → Bool} {ov : Nat → Nat → Bool} (hn : 1 ≤ n) : (bestP n p ov).getD 0 < n := by
  cases e : bestP n p ov with
  | none => exact hn
  | some z => exact (bestP_some e).1
theorem mt_lt {n : Nat} {r : Nat → Nat → Bool} (hn : 1 ≤ n) (x y : Nat) : mt n r x y < n := bestP_lt hn
theorem jn_lt {n : Nat} {r : Nat → Nat → Bool} (hn : 1 ≤ n) (x y : Nat) : jn n r x y < n := bestP_lt hn
theorem im_lt {n : Nat} {r : Nat → Nat → Bool} (hn : 1 ≤ n) (x y : Nat) : im n r x y < n := bestP_lt hn
theorem low_lt {n : Nat} {r : Nat → Nat → Bool} (hn : 1 ≤ n) : lowP n r < n := bestP_lt hn
theorem high_lt {n : Nat} {r : Nat → Nat → Bool} (hn : 1 ≤ n) : highP n r < n := bestP_lt hn

/-- a partial order -/
structure PO (n : Nat) (r : Nat → Nat → Bool) : Prop where
  refl : ∀ x, x < n → r x x = true
  anti : ∀ x y, x < n → y < n → r x y = true → r y x = true → x = y
  trans : ∀ x y z, x < n → y < n → z < n → r x y = true → r y z = true → r x z = true
theorem PO.flip {n : Nat} {r : Nat → Nat → Bool} (h : PO n r) : PO n fun x y => r y x :=
  ⟨h.refl, fun x y hx hy a b => h.anti x y hx hy b a, fun x y z hx hy hz a b => h.trans z y x hz hy hx b a⟩
theorem po_of {n : Nat} {r : Nat → Nat → Bool} (h : ordP n r = true) : PO n r := by
  unfold ordP at h
  rw [List.all_eq_true] at h
  have h1 : ∀ x, x < n → r x x = true ∧ ∀ y, y < n → ((x != y) && r x y && r y x) = false ∧ ∀ z, z < n → (r x y && r y z && !r x z) = false := fun x hx => by
    have := h x (List.mem_range.2 hx)
    rw [Bool.and_eq_true, List.all_eq_true] at this
    refine ⟨this.1, fun y hy => ?_⟩
    have := this.2 y (List.mem_range.2 hy)
    rw [Bool.and_eq_true, List.all_eq_true] at this
    refine ⟨by rw [← Bool.not_eq_true']; exact this.1, fun z hz => ?_⟩
    have := this.2 z (List.mem_range.2 hz)
    rw [← Bool.not_eq_true']
    exact this
  refine ⟨fun x hx => (h1 x hx).1, fun x y hx hy a b => ?_, fun x y z hx hy hz a b => ?_⟩
  · have := ((h1 x hx).2 y hy).1
    rw [a, b] at this
    simpa using this
  · have := ((h1 x hx).2 y hy).2 z hz
    rw [a, b] at this
    simpa using this
/-- the search finds the greatest -/
theorem bestP_is {n : Nat} {r : Nat → Nat → Bool} (h : PO n r) {p : Nat → Bool} {g : Nat} (hg : g < n) (hp : p g = true) (hall : ∀ w, w < n → p w = true → r w g = true) : bestP n p (fun z w => r w z) = some g := by
  have hex : topB n p (fun z w => r w z) g = true := by
    unfold topB
    rw [hp, Bool.true_and, List.all_eq_true]
    intro w hw
    cases e : p w with
    | false => rfl
    | true => exact hall w (List.mem_range.1 hw) e
  cases e : bestP n p (fun z w => r w z) with
  | none =>
    unfold bestP at e
    rw [List.find?_eq_none] at e
    exact absurd hex (by simpa using e g (List.mem_range.2 hg))
  | some z =>
    obtain ⟨h1, h2, h3⟩ := bestP_some e
    congr 1
    exact h.anti z g h1 hg (hall z h1 h2) (h3 g hg hp)
def ovr (r : Nat → Nat → Bool) : Option Nat → Nat → Bool
  | none, _ => true
  | some o, z => r o z
/-- a running best -/
def runB (p : Nat → Bool) (r : Nat → Nat → Bool) (out : Option Nat) (z : Nat) : Option Nat := if p z && ovr r out z then some z else out
theorem run_keep {n : Nat} {r : Nat → Nat → Bool} (h : PO n r) {p : Nat → Bool} {g : Nat} (hg : g < n) (hall : ∀ w, w < n → p w = true → r w g = true) : ∀ l : List Nat, (∀ w ∈ l, w < n) → l.foldl (runB p r) (some g) = some g
  | [], _ => rfl
  | w :: l, hl => by
    have hw := hl w List.mem_cons_self
    rw [List.foldl_cons]
    have : runB p r (some g) w = some g := by
      unfold runB
      split
      · rename_i e
        rw [Bool.and_eq_true] at e
        rw [h.anti w g hw hg (hall w hw e.1) e.2]
      · rfl
    rw [this]
    exact run_keep h hg hall l fun w' hw' => hl w' (List.mem_cons_of_mem _ hw')
theorem run_is {n : Nat} {r : Nat → Nat → Bool} (h : PO n r) {p : Nat → Bool} {g : Nat} (hg : g < n) (hp : p g = true) (hall : ∀ w, w < n → p w = true → r w g = true) :
    ∀ (l : List Nat) (out : Option Nat), (∀ w ∈ l, w < n) → g ∈ l → (∀ o, out = some o → o < n ∧ p o = true) → l.foldl (runB p r) out = some g
  | [], _, _, hm, _ => by cases hm
  | w :: l, out, hl, hm, ho => by
    have hw := hl w List.mem_cons_self
    have hl' : ∀ w' ∈ l, w' < n := fun w' hw' => hl w' (List.mem_cons_of_mem _ hw')
    rw [List.foldl_cons]
    by_cases e : w = g
    · subst e
      have : runB p r out w = some w := by
        unfold runB
        rw [hp, Bool.true_and]
        cases out with
        | none => rfl
        | some o => simp [ovr, hall o (ho o rfl).1 (ho o rfl).2]
      rw [this]
      exact run_keep h hw hall l hl'
    · refine run_is h hg hp hall l _ hl' ?_ fun o eo => ?_
      · rcases List.mem_cons.1 hm with h1 | h1
        · exact absurd h1.symm e
        · exact h1
      · unfold runB at eo
        split at eo
        · rename_i e2
          cases eo
          exact ⟨hw, by rw [Bool.and_eq_true] at e2; exact e2.1⟩
        · exact ho o eo

/-- an order with meetings and joinings that distribute -/
structure Lat (n : Nat) (r : Nat → Nat → Bool) : Prop where
  pos : 1 ≤ n
  po : PO n r
  meet : ∀ x y, x < n → y < n → r (mt n r x y) x = true ∧ r (mt n r x y) y = true ∧ ∀ w, w < n → r w x = true → r w y = true → r w (mt n r x y) = true
  join : ∀ x y, x < n → y < n → r x (jn n r x y) = true ∧ r y (jn n r x y) = true ∧ ∀ w, w < n → r x w = true → r y w = true → r (jn n r x y) w = true
  dist : ∀ x y z, x < n → y < n → z < n → mt n r x (jn n r y z) = jn n r (mt n r x y) (mt n r x z)
theorem lat_of {L : List (List Bool)} (h : algP L = true) : Lat L.length (at2 L) := by
  unfold algP at h
  simp only [Bool.and_eq_true, decide_eq_true_eq] at h
  obtain ⟨⟨⟨⟨⟨h1, h2⟩, h3⟩, h4⟩, h5⟩, h6⟩ := h
  have ht : ∀ x y, x < L.length → y < L.length → tabB L.length (at2 L) x y = true := fun x y hx hy => by
    unfold tabsP at h5
    rw [List.all_eq_true] at h5
    have := h5 x (List.mem_range.2 hx)
    rw [List.all_eq_true] at this
    exact this y (List.mem_range.2 hy)
  refine ⟨h1, po_of h4, fun x y hx hy => ?_, fun x y hx hy => ?_, fun x y z hx hy hz => ?_⟩
  · have := ht x y hx hy
    unfold tabB at this
    rw [Bool.and_eq_true] at this
    obtain ⟨z, e⟩ := Option.isSome_iff_exists.1 this.1
    have e' : mt L.length (at2 L) x y = z := by unfold mt; rw [e]; rfl
    unfold meetO at e
    obtain ⟨a, b, c⟩ := bestP_some e
    simp only [Bool.and_eq_true] at b c
    rw [e']
    exact ⟨b.1, b.2, fun w hw h1 h2 => c w hw ⟨h1, h2⟩⟩
  · have := ht x y hx hy
    unfold tabB at this
    rw [Bool.and_eq_true] at this
    obtain ⟨z, e⟩ := Option.isSome_iff_exists.1 this.2
    have e' : jn L.length (at2 L) x y = z := by unfold jn; rw [e]; rfl
    unfold joinO at e
    obtain ⟨a, b, c⟩ := bestP_some e
    simp only [Bool.and_eq_true] at b c
    rw [e']
    exact ⟨b.1, b.2, fun w hw h1 h2 => c w hw ⟨h1, h2⟩⟩
  · unfold distP at h6
    rw [List.all_eq_true] at h6
    have := h6 x (List.mem_range.2 hx)
    rw [List.all_eq_true] at this
    have := this y (List.mem_range.2 hy)
    rw [List.all_eq_true] at this
    have := this z (List.mem_range.2 hz)
    unfold distB at this
    simpa using this

section
variable {n : Nat} {r : Nat → Nat → Bool} (A : Lat n r)
include A
theorem Lat.comm {x y : Nat} (hx : x < n) (hy : y < n) : mt n r x y = mt n r y x := by
  have l1 := mt_lt (r := r) A.pos x y
  have l2 := mt_lt (r := r) A.pos y x
  obtain ⟨a, b, c⟩ := A.meet x y hx hy
  obtain ⟨a', b', c'⟩ := A.meet y x hy hx
  exact A.po.anti _ _ l1 l2 (c' _ l1 b a) (c _ l2 b' a')
/-- a set that has an element and, with two, their joining, has a greatest -/
theorem Lat.great {p : Nat → Bool} {s : Nat} (hs : s < n) (hp : p s = true) (hj : ∀ x y, x < n → y < n → p x = true → p y = true → p (jn n r x y) = true) : ∃ g, g < n ∧ p g = true ∧ ∀ w, w < n → p w = true → r w g = true := by
  have : ∀ l : List Nat, (∀ w ∈ l, w < n) → ∃ g, g < n ∧ p g = true ∧ ∀ w ∈ l, p w = true → r w g = true := by
    intro l
    induction l with
    | nil => exact fun _ => ⟨s, hs, hp, fun w hw => by cases hw⟩
    | cons w l ih =>
      intro hl
      obtain ⟨g, g1, g2, g3⟩ := ih fun w' hw' => hl w' (List.mem_cons_of_mem _ hw')
      have hw := hl w List.mem_cons_self
      cases e : p w with
      | false =>
        refine ⟨g, g1, g2, fun w' hw' hp' => ?_⟩
        rcases List.mem_cons.1 hw' with rfl | h1
        · rw [e] at hp'; cases hp'
        · exact g3 w' h1 hp'
      | true =>
        obtain ⟨j1, j2, j3⟩ := A.join w g hw g1
        refine ⟨jn n r w g, jn_lt A.pos _ _, hj w g hw g1 e g2, fun w' hw' hp' => ?_⟩
        rcases List.mem_cons.1 hw' with rfl | h1
        · exact j1
        · exact A.po.trans _ _ _ (hl w' hw') g1 (jn_lt A.pos _ _) (g3 w' h1 hp') j2
  obtain ⟨g, g1, g2, g3⟩ := this (List.range n) fun w hw => List.mem_range.1 hw
  exact ⟨g, g1, g2, fun w hw hp => g3 w (List.mem_range.2 hw) hp⟩
theorem Lat.least {p : Nat → Bool} {s : Nat} (hs : s < n) (hp : p s = true) (hj : ∀ x y, x < n → y < n → p x = true → p y = true → p (mt n r x y) = true) : ∃ g, g < n ∧ p g = true ∧ ∀ w, w < n → p w = true → r g w = true := by
  have : ∀ l : List Nat, (∀ w ∈ l, w < n) → ∃ g, g < n ∧ p g = true ∧ ∀ w ∈ l, p w = true → r g w = true := by
    intro l
    induction l with
    | nil => exact fun _ => ⟨s, hs, hp, fun w hw => by cases hw⟩
    | cons w l ih =>
      intro hl
      obtain ⟨g, g1, g2, g3⟩ := ih fun w' hw' => hl w' (List.mem_cons_of_mem _ hw')
      have hw := hl w List.mem_cons_self
      cases e : p w with
      | false =>
        refine ⟨g, g1, g2, fun w' hw' hp' => ?_⟩
        rcases List.mem_cons.1 hw' with rfl | h1
        · rw [e] at hp'; cases hp'
        · exact g3 w' h1 hp'
      | true =>
        obtain ⟨j1, j2, j3⟩ := A.meet w g hw g1
        refine ⟨mt n r w g, mt_lt A.pos _ _, hj w g hw g1 e g2, fun w' hw' hp' => ?_⟩
        rcases List.mem_cons.1 hw' with rfl | h1
        · exact j1
        · exact A.po.trans _ _ _ (mt_lt A.pos _ _) g1 (hl w' hw') j2 (g3 w' h1 hp')
  obtain ⟨g, g1, g2, g3⟩ := this (List.range n) fun w hw => List.mem_range.1 hw
  exact ⟨g, g1, g2, fun w hw hp => g3 w (List.mem_range.2 hw) hp⟩
theorem Lat.mono {a b c d : Nat} (ha : a < n) (hb : b < n) (hc : c < n) (hd : d < n) (h1 : r a c = true) (h2 : r b d = true) : r (mt n r a b) (mt n r c d) = true := by
  obtain ⟨m1, m2, m3⟩ := A.meet a b ha hb
  obtain ⟨k1, k2, k3⟩ := A.meet c d hc hd
  have l := mt_lt (r := r) A.pos a b
  exact k3 _ l (A.po.trans _ _ _ l ha hc m1 h1) (A.po.trans _ _ _ l hb hd m2 h2)
/-- what implies: the greatest that meets x below y -/
theorem Lat.imp {x y : Nat} (hx : x < n) (hy : y < n) : ∃ g, g < n ∧ r (mt n r g x) y = true ∧ (∀ w, w < n → r (mt n r w x) y = true → r w g = true) ∧ imO n r x y = some g ∧
    (List.range n).foldl (runB (fun z => r (mt n r z x) y) r) none = some g := by
  obtain ⟨g, g1, g2, g3⟩ := A.great (p := fun z => r (mt n r z x) y) (s := y) hy (A.meet y x hy hx).1 fun z w hz hw h1 h2 => by
    have l1 := jn_lt (r := r) A.pos z w
    have m1 := mt_lt (r := r) A.pos x z
    have m2 := mt_lt (r := r) A.pos x w
    show r (mt n r (jn n r z w) x) y = true
    rw [A.comm l1 hx, A.dist x z w hx hz hw]
    have h1' : r (mt n r x z) y = true := by rw [A.comm hx hz]; exact h1
    have h2' : r (mt n r x w) y = true := by rw [A.comm hx hw]; exact h2
    exact (A.join _ _ m1 m2).2.2 y hy h1' h2'
  exact ⟨g, g1, g2, g3, bestP_is A.po g1 g2 g3, run_is A.po g1 g2 g3 _ none (fun w hw => List.mem_range.1 hw) (List.mem_range.2 g1) fun o e => by cases e⟩
theorem Lat.resid {x y z : Nat} (hx : x < n) (hy : y < n) (hz : z < n) : r (mt n r z x) y = r z (im n r x y) := by
  obtain ⟨g, g1, g2, g3, g4, _⟩ := A.imp hx hy
  have e : im n r x y = g := by unfold im; rw [g4]; rfl
  rw [e, Bool.eq_iff_iff]
  refine ⟨g3 z hz, fun h => ?_⟩
  exact A.po.trans _ _ _ (mt_lt A.pos _ _) (mt_lt A.pos _ _) hy (A.mono hz hx g1 hx h (A.po.refl x hx)) g2
theorem Lat.high : ∀ o, o < n → (List.range n).foldl (runB (fun _ => true) r) (some o) = some (highP n r) := by
  obtain ⟨g, g1, g2, g3⟩ := A.great (p := fun _ => true) (s := 0) A.pos rfl fun _ _ _ _ _ _ => rfl
  have e : highP n r = g := by unfold highP; rw [bestP_is A.po g1 g2 g3]; rfl
  intro o ho
  rw [e]
  exact run_is A.po g1 g2 g3 _ _ (fun w hw => List.mem_range.1 hw) (List.mem_range.2 g1) fun o' e' => by cases e'; exact ⟨ho, rfl⟩
theorem Lat.low : ∀ o, o < n → (List.range n).foldl (runB (fun _ => true) fun x y => r y x) (some o) = some (lowP n r) := by
  obtain ⟨g, g1, g2, g3⟩ := A.least (p := fun _ => true) (s := 0) A.pos rfl fun _ _ _ _ _ _ => rfl
  have e : lowP n r = g := by
    unfold lowP
    have := bestP_is (r := fun x y => r y x) A.po.flip g1 g2 g3
    rw [this]; rfl
  intro o ho
  rw [e]
  exact run_is (r := fun x y => r y x) A.po.flip g1 g2 g3 _ _ (fun w hw => List.mem_range.1 hw) (List.mem_range.2 g1) fun o' e' => by cases e'; exact ⟨ho, rfl⟩
end
end Go.Proofs.YtljglglbfcgjpaaGreat

namespace Go.Proofs.YtljglglbfcgjpaaGreat
open Go Go.Sym

/-- x is the joining of two others -/
def splitB (n : Nat) (r : Nat → Nat → Bool) (x : Nat) : Bool := (List.range n).any fun y => (List.range n).any fun z => jn n r y z == x && (y != x && z != x)
def primeB (n : Nat) (r : Nat → Nat → Bool) (x : Nat) : Bool := (x != lowP n r) && !splitB n r x
def primesL (n : Nat) (r : Nat → Nat → Bool) : List Nat := (List.range n).filter (primeB n r)

section
variable {n : Nat} {r : Nat → Nat → Bool} (A : Lat n r)
include A
theorem Lat.low_le {x : Nat} (hx : x < n) : r (lowP n r) x = true := by
  obtain ⟨g, g1, g2, g3⟩ := A.least (p := fun _ => true) (s := 0) A.pos rfl fun _ _ _ _ _ _ => rfl
  have e : lowP n r = g := by
    unfold lowP
    rw [bestP_is (r := fun x y => r y x) A.po.flip g1 g2 g3]; rfl
  rw [e]; exact g3 x hx rfl
theorem Lat.le_high {x : Nat} (hx : x < n) : r x (highP n r) = true := by
  obtain ⟨g, g1, g2, g3⟩ := A.great (p := fun _ => true) (s := 0) A.pos rfl fun _ _ _ _ _ _ => rfl
  have e : highP n r = g := by unfold highP; rw [bestP_is A.po g1 g2 g3]; rfl
  rw [e]; exact g3 x hx rfl
omit A in
theorem lat_split {x : Nat} (h : splitB n r x = true) : ∃ y z, y < n ∧ z < n ∧ jn n r y z = x ∧ y ≠ x ∧ z ≠ x := by
  unfold splitB at h
  rw [List.any_eq_true] at h
  obtain ⟨y, hy, h⟩ := h
  rw [List.any_eq_true] at h
  obtain ⟨z, hz, h⟩ := h
  simp only [Bool.and_eq_true, beq_iff_eq, bne_iff_ne] at h
  exact ⟨y, z, List.mem_range.1 hy, List.mem_range.1 hz, h.1, h.2.1, h.2.2⟩
omit A in
theorem lat_nosplit {x y z : Nat} (h : splitB n r x = false) (hy : y < n) (hz : z < n) (e : jn n r y z = x) : y = x ∨ z = x := by
  unfold splitB at h
  rw [List.any_eq_false] at h
  have h1 := h y (List.mem_range.2 hy)
  rw [Bool.not_eq_true, List.any_eq_false] at h1
  have h2 := h1 z (List.mem_range.2 hz)
  simp only [Bool.and_eq_true, beq_iff_eq, bne_iff_ne, ne_eq, not_and] at h2
  by_cases h3 : y = x
  · exact .inl h3
  · exact .inr (Classical.byContradiction fun h4 => h2 e h3 h4)
/-- how many are below -/
def below (n : Nat) (r : Nat → Nat → Bool) (x : Nat) : Nat := ((List.range n).filter fun w => r w x).length
omit A in
theorem filter_ltB {p q : Nat → Bool} : ∀ {l : List Nat} {x : Nat}, (∀ w ∈ l, p w = true → q w = true) → x ∈ l → p x = false → q x = true → (l.filter p).length < (l.filter q).length
  | [], _, _, h, _, _ => by cases h
  | a :: l, x, hpq, hx, h1, h2 => by
    have le : ∀ l' : List Nat, (∀ w ∈ l', p w = true → q w = true) → (l'.filter p).length ≤ (l'.filter q).length := fun l' h => by
      rw [← List.countP_eq_length_filter, ← List.countP_eq_length_filter]
      exact List.countP_mono_left h
    have hl := fun w hw => hpq w (List.mem_cons_of_mem a hw)
    by_cases e : a = x
    · subst e
      rw [List.filter_cons_of_neg (by simp [h1]), List.filter_cons_of_pos h2, List.length_cons]
      have := le l hl
      omega
    · have hm : x ∈ l := by
        rcases List.mem_cons.1 hx with h | h
        · exact absurd h.symm e
        · exact h
      have ih := filter_ltB (l := l) hl hm h1 h2
      cases e1 : p a with
      | true =>
        rw [List.filter_cons_of_pos e1, List.filter_cons_of_pos (hpq a List.mem_cons_self e1), List.length_cons, List.length_cons]
        omega
      | false =>
        rw [List.filter_cons_of_neg (by simp [e1])]
        cases e2 : q a with
        | true => rw [List.filter_cons_of_pos e2, List.length_cons]; omega
        | false => rw [List.filter_cons_of_neg (by simp [e2])]; exact ih
theorem Lat.below_lt {a x : Nat} (ha : a < n) (hx : x < n) (h : r a x = true) (hne : a ≠ x) : below n r a < below n r x := by
  unfold below
  refine filter_ltB (fun w hw h1 => A.po.trans w a x (List.mem_range.1 hw) ha hx h1 h) (List.mem_range.2 hx) ?_ (A.po.refl x hx)
  cases e : r x a with
  | false => rfl
  | true => exact absurd (A.po.anti a x ha hx h e) hne
/-- what has fewer primes below it is below -/
theorem Lat.le_of : ∀ (d : Nat) {x y : Nat}, below n r x < d → x < n → y < n → (∀ p, p < n → primeB n r p = true → r p x = true → r p y = true) → r x y = true
  | 0, _, _, hd, _, _, _ => absurd hd (Nat.not_lt_zero _)
  | d + 1, x, y, hd, hx, hy, hp => by
    by_cases e : x = lowP n r
    · rw [e]; exact A.low_le hy
    · cases hs : splitB n r x with
      | false => exact hp x hx (by unfold primeB; simp [hs, e]) (A.po.refl x hx)
      | true =>
        obtain ⟨a, b, ha, hb, hj, ha', hb'⟩ := lat_split hs
        obtain ⟨j1, j2, j3⟩ := A.join a b ha hb
        have h1 : r a x = true := hj ▸ j1
        have h2 : r b x = true := hj ▸ j2
        have l1 := A.below_lt ha hx h1 ha'
        have l2 := A.below_lt hb hx h2 hb'
        have i1 := Lat.le_of d (x := a) (y := y) (by omega) ha hy fun p hpn hpp h => hp p hpn hpp (A.po.trans p a x hpn ha hx h h1)
        have i2 := Lat.le_of d (x := b) (y := y) (by omega) hb hy fun p hpn hpp h => hp p hpn hpp (A.po.trans p b x hpn hb hx h h2)
        have := j3 y hy i1 i2
        rwa [hj] at this
theorem Lat.le_iff {x y : Nat} (hx : x < n) (hy : y < n) : r x y = true ↔ ∀ p, p < n → primeB n r p = true → r p x = true → r p y = true :=
  ⟨fun h p hp _ h1 => A.po.trans p x y hp hx hy h1 h, fun h => A.le_of _ (Nat.lt_succ_self _) hx hy h⟩
theorem Lat.prime_join {p a b : Nat} (hp : p < n) (hP : primeB n r p = true) (ha : a < n) (hb : b < n) (h : r p (jn n r a b) = true) : r p a = true ∨ r p b = true := by
  unfold primeB at hP
  rw [Bool.and_eq_true, Bool.not_eq_true'] at hP
  have l := jn_lt (r := r) A.pos a b
  have m1 := mt_lt (r := r) A.pos p a
  have m2 := mt_lt (r := r) A.pos p b
  have e : mt n r p (jn n r a b) = p := by
    obtain ⟨k1, k2, k3⟩ := A.meet p _ hp l
    exact A.po.anti _ _ (mt_lt A.pos _ _) hp k1 (k3 p hp (A.po.refl p hp) h)
  have d := A.dist p a b hp ha hb
  rw [e] at d
  rcases lat_nosplit hP.2 m1 m2 d.symm with h1 | h1
  · exact .inl (by have := (A.meet p a hp ha).2.1; rwa [h1] at this)
  · exact .inr (by have := (A.meet p b hp hb).2.1; rwa [h1] at this)
/-- a set of primes that is closed downwards is what lies below an element -/
theorem Lat.of_set {D : Nat → Bool} (hD : ∀ p q, p < n → q < n → primeB n r p = true → primeB n r q = true → r p q = true → D q = true → D p = true) :
    ∃ s, s < n ∧ ∀ p, p < n → primeB n r p = true → (r p s = true ↔ D p = true) := by
  have key : ∀ l : List Nat, (∀ q ∈ l, q < n ∧ primeB n r q = true ∧ D q = true) → ∃ s, s < n ∧ (∀ q ∈ l, r q s = true) ∧ ∀ p, p < n → primeB n r p = true → r p s = true → D p = true := by
    intro l
    induction l with
    | nil =>
      refine fun _ => ⟨lowP n r, low_lt A.pos, (fun q hq => by cases hq), fun p hp hP h => ?_⟩
      have := A.po.anti p _ hp (low_lt A.pos) h (A.low_le hp)
      unfold primeB at hP
      rw [Bool.and_eq_true, bne_iff_ne] at hP
      exact absurd this hP.1
    | cons q l ih =>
      intro hl
      obtain ⟨s, s1, s2, s3⟩ := ih fun q' hq' => hl q' (List.mem_cons_of_mem _ hq')
      obtain ⟨q1, q2, q3⟩ := hl q List.mem_cons_self
      obtain ⟨j1, j2, j3⟩ := A.join q s q1 s1
      refine ⟨jn n r q s, jn_lt A.pos _ _, fun q' hq' => ?_, fun p hp hP h => ?_⟩
      · rcases List.mem_cons.1 hq' with rfl | h
        · exact j1
        · exact A.po.trans _ _ _ (hl q' hq').1 s1 (jn_lt A.pos _ _) (s2 q' h) j2
      · rcases A.prime_join hp hP q1 s1 h with h | h
        · exact hD p q hp q1 hP q2 h q3
        · exact s3 p hp hP h
  obtain ⟨s, s1, s2, s3⟩ := key ((List.range n).filter fun q => primeB n r q && D q) fun q hq => by
    rw [List.mem_filter, Bool.and_eq_true] at hq
    exact ⟨List.mem_range.1 hq.1, hq.2⟩
  exact ⟨s, s1, fun p hp hP => ⟨s3 p hp hP, fun h => s2 p (by rw [List.mem_filter, Bool.and_eq_true]; exact ⟨List.mem_range.2 hp, hP, h⟩)⟩⟩

/-- the worlds of an element: the primes below it, as a row of truths -/
def phi (n : Nat) (r : Nat → Nat → Bool) (x : Nat) : List Bool := (primesL n r).map fun p => r p x
omit A in
theorem phi_len {x : Nat} : (phi n r x).length = (primesL n r).length := by simp [phi]
omit A in
theorem phi_get {x w : Nat} (hw : w < (primesL n r).length) : (phi n r x).getD w false = r (primesL n r)[w] x := by
  unfold phi
  rw [List.getD_eq_getElem?_getD, List.getElem?_map, List.getElem?_eq_getElem hw]; rfl
omit A in
theorem prime_at {w : Nat} (hw : w < (primesL n r).length) : (primesL n r)[w] < n ∧ primeB n r (primesL n r)[w] = true := by
  have := List.getElem_mem hw
  unfold primesL at this
  rw [List.mem_filter] at this
  exact ⟨List.mem_range.1 this.1, this.2⟩
omit A in
theorem prime_idx {p : Nat} (hp : p < n) (hP : primeB n r p = true) : ∃ w, ∃ hw : w < (primesL n r).length, (primesL n r)[w] = p :=
  List.mem_iff_getElem.1 (List.mem_filter.2 ⟨List.mem_range.2 hp, hP⟩)
theorem Lat.phi_le {x y : Nat} (hx : x < n) (hy : y < n) : r x y = true ↔ ∀ w, w < (primesL n r).length → (phi n r x).getD w false = true → (phi n r y).getD w false = true := by
  rw [A.le_iff hx hy]
  refine ⟨fun h w hw => ?_, fun h p hp hP => ?_⟩
  · rw [phi_get hw, phi_get hw]
    exact h _ (prime_at hw).1 (prime_at hw).2
  · obtain ⟨w, hw, rfl⟩ := prime_idx hp hP
    have := h w hw
    rwa [phi_get hw, phi_get hw] at this
theorem Lat.phi_inj {x y : Nat} (hx : x < n) (hy : y < n) (h : phi n r x = phi n r y) : x = y :=
  A.po.anti x y hx hy ((A.phi_le hx hy).2 fun w _ => by rw [h]; exact id) ((A.phi_le hy hx).2 fun w _ => by rw [h]; exact id)
/-- closed upwards in the model of the primes: with a prime those below it -/
def closedS (n : Nat) (r : Nat → Nat → Bool) (l : List Bool) : Prop := l.length = (primesL n r).length ∧
  ∀ w v, w < (primesL n r).length → v < (primesL n r).length → r ((primesL n r).getD v 0) ((primesL n r).getD w 0) = true → l.getD w false = true → l.getD v false = true
theorem Lat.phi_closed {x : Nat} (hx : x < n) : closedS n r (phi n r x) := by
  refine ⟨phi_len, fun w v hw hv h => ?_⟩
  rw [List.getD_eq_getElem?_getD, List.getD_eq_getElem?_getD, List.getElem?_eq_getElem hv, List.getElem?_eq_getElem hw] at h
  rw [phi_get hw, phi_get hv]
  exact fun h1 => A.po.trans _ _ _ (prime_at hv).1 (prime_at hw).1 hx h h1
theorem Lat.phi_onto {l : List Bool} (h : closedS n r l) : ∃ x, x < n ∧ phi n r x = l := by
  obtain ⟨s, s1, s2⟩ := A.of_set (D := fun p => (List.range (primesL n r).length).any fun w => (primesL n r).getD w 0 == p && l.getD w false) fun p q hp hq hP hQ hpq hd => by
    rw [List.any_eq_true] at hd ⊢
    obtain ⟨w, hw, hd⟩ := hd
    obtain ⟨v, hv, rfl⟩ := prime_idx hp hP
    rw [Bool.and_eq_true, beq_iff_eq] at hd
    refine ⟨v, List.mem_range.2 hv, ?_⟩
    have e : (primesL n r).getD v 0 = (primesL n r)[v] := by rw [List.getD_eq_getElem?_getD, List.getElem?_eq_getElem hv]; rfl
    rw [Bool.and_eq_true, beq_iff_eq]
    exact ⟨e, h.2 w v (List.mem_range.1 hw) hv (by rw [e, hd.1]; exact hpq) hd.2⟩
  refine ⟨s, s1, List.ext_getElem (by rw [phi_len, h.1]) fun w h1 h2 => ?_⟩
  have hw : w < (primesL n r).length := by rw [← h.1]; exact h2
  have a := s2 _ (prime_at hw).1 (prime_at hw).2
  have e : (phi n r s)[w] = r (primesL n r)[w] s := by simp [phi]
  rw [e, Bool.eq_iff_iff, a, List.any_eq_true]
  have eg : ∀ v (hv : v < (primesL n r).length), (primesL n r).getD v 0 = (primesL n r)[v] := fun v hv => by rw [List.getD_eq_getElem?_getD, List.getElem?_eq_getElem hv]; rfl
  have el : l.getD w false = l[w] := by rw [List.getD_eq_getElem?_getD, List.getElem?_eq_getElem h2]; rfl
  constructor
  · rintro ⟨v, hv, hd⟩
    rw [Bool.and_eq_true, beq_iff_eq] at hd
    have hv' := List.mem_range.1 hv
    have := h.2 v w hv' hw (by rw [hd.1, eg w hw]; exact A.po.refl _ (prime_at hw).1) hd.2
    rwa [el] at this
  · intro hl
    exact ⟨w, List.mem_range.2 hw, by rw [Bool.and_eq_true, beq_iff_eq]; exact ⟨eg w hw, by rw [el]; exact hl⟩⟩
end
end Go.Proofs.YtljglglbfcgjpaaGreat

namespace Go.Proofs.YtljglglbfcgjpaaGreat
open Go Go.Sym Go.Proofs.Tryz

variable {K : AVal → Heap → Prop} {h : Heap} {n : Nat} {r : Nat → Nat → Bool} {f : AVal}

/-- a function value tells of a number, of two -/
def T1 (f : AVal) (n : Nat) (p : Nat → Bool) : Prop := ∀ (x : Nat) (h : Heap) (K : AVal → Heap → Prop), x < n → K (.bool (p x)) h → callV prog f [.int .i64 (x : Int)] h K
def T2 (f : AVal) (n : Nat) (p : Nat → Nat → Bool) : Prop := ∀ (x y : Nat) (h : Heap) (K : AVal → Heap → Prop), x < n → y < n → K (.bool (p x y)) h → callV prog f [.int .i64 (x : Int), .int .i64 (y : Int)] h K

def topW (p : Nat → Bool) (ov : Nat → Nat → Bool) (z w : Nat) : Bool := (List.range w).all fun w => !p w || ov z w
theorem topW_succ (p : Nat → Bool) (ov : Nat → Nat → Bool) (z w : Nat) : topW p ov z (w + 1) = (topW p ov z w && (!p w || ov z w)) := by
  unfold topW
  rw [List.range_succ, List.all_append]
  simp
def bestFrom (p : Nat → Bool) (ov : Nat → Nat → Bool) (n z d : Nat) : Option Nat := (List.range' z d).find? (topB n p ov)
theorem best_from (p : Nat → Bool) (ov : Nat → Nat → Bool) : bestP n p ov = bestFrom p ov n 0 n := by
  unfold bestP bestFrom
  rw [List.range_eq_range']
def bestV (o : Option Nat) : AVal := .tuple [.int .i64 ((o.getD 0 : Nat) : Int), .bool o.isSome]

section
variable {fi fo : AVal} {p : Nat → Bool} {ov : Nat → Nat → Bool} (hi : T1 fi n p) (ho : T2 fo n ov) (hn : n ≤ 1073741824)
include hi ho hn
theorem best_l3 {z : Nat} (hz : z < n) {L1 : s75l1_T} (yes : topW p ov z n = true → K (bestV (some z)) h) (no : topW p ov z n = false → L1 n fi fo (n : Int) ((z : Int) + 1) h) :
    ∀ d w : Nat, w + d = n → s75l3 K L1 (d + 1) n fi fo (z : Int) (topW p ov z w) (n : Int) (z : Int) (n : Int) (w : Int) h
  | 0, w, hd => by
    obtain rfl : w = n := by omega
    unfold s75l3
    refine ifT_neg (by simp) ?_
    cases e : topW p ov z w with
    | true => exact ifT_pos rfl (retG_of (yes e))
    | false =>
      refine ifT_neg rfl ?_
      unfold s75c2
      exact rg_of (by omega) (by omega) (no e)
  | d + 1, w, hd => by
    have next : s75c4 K L1 (s75l3_G (s75l3 K L1 (d + 1))) n fi fo (z : Int) (topW p ov z (w + 1)) (n : Int) (z : Int) (n : Int) (w : Int) h := by
      unfold s75c4
      exact rg_of (by omega) (by omega) (s75l3_go (best_l3 hz yes no d (w + 1) (by omega)))
    rw [topW_succ] at next
    unfold s75l3
    refine ifT_pos (by simp; omega) ?_
    cases e : topW p ov z w with
    | false =>
      rw [e, Bool.false_and] at next
      exact ifT_neg rfl next
    | true =>
      rw [e, Bool.true_and] at next
      refine ifT_pos rfl (hi w h _ (by omega) ?_)
      rw [tBool_bool]
      cases e1 : p w with
      | false =>
        rw [e1] at next
        exact ifT_pos rfl next
      | true =>
        rw [e1] at next
        refine ifT_neg rfl (ho z w h _ hz (by omega) ?_)
        rw [tBool_bool]
        exact next
theorem best_l1 : ∀ d z : Nat, z + d = n → K (bestV (bestFrom p ov n z d)) h → s75l1 K (d + 1) n fi fo (n : Int) (z : Int) h
  | 0, z, hd, hk => by
    unfold s75l1
    exact ifT_neg (by simp; omega) (retG_of hk)
  | d + 1, z, hd, hk => by
    unfold bestFrom at hk
    rw [List.range'_succ, List.find?_cons] at hk
    unfold s75l1
    refine ifT_pos (by simp; omega) (hi z h _ (by omega) ?_)
    rw [tBool_bool]
    cases e : p z with
    | false =>
      have e2 : topB n p ov z = false := by unfold topB; rw [e, Bool.false_and]
      rw [e2] at hk
      refine ifT_pos rfl ?_
      unfold s75c2
      exact rg_of (by omega) (by omega) (s75l1_go (best_l1 d (z + 1) (by omega) hk))
    | true =>
      have e2 : topB n p ov z = topW p ov z n := by unfold topB topW; rw [e, Bool.true_and]
      rw [e2] at hk
      refine ifT_neg rfl (s75l3_in (n + 1) ?_)
      have h0 : topW p ov z 0 = true := rfl
      rw [← h0]
      refine best_l3 hi ho hn (by omega) (fun e3 => ?_) (fun e3 => ?_) n 0 (by omega)
      · rw [e3] at hk; exact hk
      · rw [e3] at hk
        exact s75l1_go (best_l1 d (z + 1) (by omega) hk)
theorem best_ok (hk : K (bestV (bestP n p ov)) h) : ACalls prog 75 [.int .i64 (n : Int), fi, fo] h K := by
  rw [best_from] at hk
  refine s75_ok ?_
  unfold s75
  exact s75l1_in (n + 1) (best_l1 hi ho hn n 0 (by omega) hk)
end

/-- an algebra that was looked at -/
abbrev latC (n : Nat) (f : AVal) : List AVal := [.int .i64 (n : Int), f]
abbrev latV (n : Nat) (f : AVal) : AVal := .agg (latC n f)

section
variable (hf : T2 f n r)
include hf
theorem up_tells : T2 (.func (.func 77) [latV n f] []) n fun z w => r w z := by
  intro z w h K hz hw hk
  show callG prog 77 ([latV n f] ++ [.int .i64 (z : Int), .int .i64 (w : Int)] ++ []) h K
  refine callG_of (s77_ok ?_)
  unfold s77
  refine hf w z h _ hw hz ?_
  rw [tBool_bool]
  exact retG_of hk
theorem down_tells : T2 (.func (.func 76) [latV n f] []) n fun z w => r z w := by
  intro z w h K hz hw hk
  show callG prog 76 ([latV n f] ++ [.int .i64 (z : Int), .int .i64 (w : Int)] ++ []) h K
  refine callG_of (s76_ok ?_)
  unfold s76
  refine hf z w h _ hz hw ?_
  rw [tBool_bool]
  exact retG_of hk
theorem meet1_tells {x y : Nat} (hx : x < n) (hy : y < n) : T1 (.func (.func 95) [] [.lptr (latC n f), .lptr [.int .i64 (x : Int)], .lptr [.int .i64 (y : Int)]]) n fun z => r z x && r z y := by
  intro z h K hz hk
  show callG prog 95 ([] ++ [.int .i64 (z : Int)] ++ [.lptr (latC n f), .lptr [.int .i64 (x : Int)], .lptr [.int .i64 (y : Int)]]) h K
  refine callG_of (s95_ok ?_)
  unfold s95
  simp only [addOff_lptr, List.drop_succ_cons, List.drop_zero, ld1_lptr, tInt_int]
  refine hf z x h _ hz hx ?_
  rw [tBool_bool]
  cases e : r z x with
  | false => exact ifT_neg rfl (retG_of (by simpa [e] using hk))
  | true =>
    refine ifT_pos rfl (hf z y h _ hz hy ?_)
    rw [tBool_bool]
    exact retG_of (by simpa [e] using hk)
theorem join1_tells {x y : Nat} (hx : x < n) (hy : y < n) : T1 (.func (.func 78) [] [.lptr (latC n f), .lptr [.int .i64 (x : Int)], .lptr [.int .i64 (y : Int)]]) n fun z => r x z && r y z := by
  intro z h K hz hk
  show callG prog 78 ([] ++ [.int .i64 (z : Int)] ++ [.lptr (latC n f), .lptr [.int .i64 (x : Int)], .lptr [.int .i64 (y : Int)]]) h K
  refine callG_of (s78_ok ?_)
  unfold s78
  simp only [addOff_lptr, List.drop_succ_cons, List.drop_zero, ld1_lptr, tInt_int]
  refine hf x z h _ hx hz ?_
  rw [tBool_bool]
  cases e : r x z with
  | false => exact ifT_neg rfl (retG_of (by simpa [e] using hk))
  | true =>
    refine ifT_pos rfl (hf y z h _ hy hz ?_)
    rw [tBool_bool]
    exact retG_of (by simpa [e] using hk)
variable (hn : n ≤ 1073741824)
include hn
theorem meetH_ok {x y : Nat} (hx : x < n) (hy : y < n) (hk : K (bestV (meetO n r x y)) h) : ACalls prog 50 [latV n f, .int .i64 (x : Int), .int .i64 (y : Int)] h K := by
  refine s50_ok ?_
  unfold s50
  refine callG_of (best_ok (meet1_tells hf hx hy) (up_tells hf) hn ?_)
  unfold bestV
  rw [tTup_tuple, tCons_cons, tInt_int, tCons_cons, tBool_bool, tNil_nil]
  exact retG_of hk
theorem joinH_ok {x y : Nat} (hx : x < n) (hy : y < n) (hk : K (bestV (joinO n r x y)) h) : ACalls prog 37 [latV n f, .int .i64 (x : Int), .int .i64 (y : Int)] h K := by
  refine s37_ok ?_
  unfold s37
  refine callG_of (best_ok (join1_tells hf hx hy) (down_tells hf) hn ?_)
  unfold bestV
  rw [tTup_tuple, tCons_cons, tInt_int, tCons_cons, tBool_bool, tNil_nil]
  exact retG_of hk
theorem imp1_tells {x y : Nat} (hx : x < n) (hy : y < n) : T1 (.func (.func 96) [] [.lptr (latC n f), .lptr [.int .i64 (x : Int)], .lptr [.int .i64 (y : Int)]]) n fun z => r (mt n r z x) y := by
  intro z h K hz hk
  show callG prog 96 ([] ++ [.int .i64 (z : Int)] ++ [.lptr (latC n f), .lptr [.int .i64 (x : Int)], .lptr [.int .i64 (y : Int)]]) h K
  refine callG_of (s96_ok ?_)
  unfold s96
  rw [ldN_agg2, tCons_cons, tInt_int, tCons_cons, tNil_nil, ld1_lptr, tInt_int]
  refine callG_of (meetH_ok hf hn hz hx ?_)
  unfold bestV
  rw [tTup_tuple, tCons_cons, tInt_int, tCons_cons, tBool_bool, tNil_nil]
  simp only [addOff_lptr, List.drop_succ_cons, List.drop_zero, ld1_lptr, tInt_int]
  refine hf (mt n r z x) y h _ (mt_lt (by omega) _ _) hy ?_
  rw [tBool_bool]
  exact retG_of hk
theorem impH_ok {x y : Nat} (hx : x < n) (hy : y < n) (hk : K (.int .i64 ((im n r x y : Nat) : Int)) h) : ACalls prog 51 [latV n f, .int .i64 (x : Int), .int .i64 (y : Int)] h K := by
  refine s51_ok ?_
  unfold s51
  refine callG_of (best_ok (imp1_tells hf hn hx hy) (up_tells hf) hn ?_)
  unfold bestV
  rw [tTup_tuple, tCons_cons, tInt_int, tCons_cons, tBool_bool, tNil_nil]
  exact retG_of hk
omit hf hn in
theorem all1_tells : T1 (.func (.func 74) [] []) n fun _ => true := by
  intro z h K _ hk
  show callG prog 74 ([] ++ [.int .i64 (z : Int)] ++ []) h K
  refine callG_of (s74_ok ?_)
  unfold s74
  exact retG_of hk
theorem boundsH_ok (hk : K (.tuple [.int .i64 ((lowP n r : Nat) : Int), .int .i64 ((highP n r : Nat) : Int)]) h) : ACalls prog 36 [latV n f] h K := by
  refine s36_ok ?_
  unfold s36
  refine callG_of (best_ok all1_tells (down_tells hf) hn ?_)
  unfold bestV
  rw [tTup_tuple, tCons_cons, tInt_int, tCons_cons, tBool_bool, tNil_nil]
  refine callG_of (best_ok all1_tells (up_tells hf) hn ?_)
  unfold bestV
  rw [tTup_tuple, tCons_cons, tInt_int, tCons_cons, tBool_bool, tNil_nil]
  exact retG_of hk
end

/- ---------------- is it a partial order? ---------------- -/
def ordZ (r : Nat → Nat → Bool) (x y z : Nat) : Bool := !(r x y && r y z && !r x z)
def ordY (n : Nat) (r : Nat → Nat → Bool) (x y : Nat) : Bool := !((x != y) && r x y && r y x) && (List.range n).all (ordZ r x y)
def ordX (n : Nat) (r : Nat → Nat → Bool) (x : Nat) : Bool := r x x && (List.range n).all (ordY n r x)
theorem ordP_eq : ordP n r = (List.range n).all (ordX n r) := rfl
theorem all_of {p : Nat → Bool} (h : ∀ x, x < n → p x = true) : (List.range n).all p = true := List.all_eq_true.2 fun x hx => h x (List.mem_range.1 hx)
theorem all_not {p : Nat → Bool} {x : Nat} (hx : x < n) (h : p x = false) : (List.range n).all p = false := by
  rw [List.all_eq_false]
  exact ⟨x, List.mem_range.2 hx, by simp [h]⟩

section
variable (hf : T2 f n r) (hn : n ≤ 1073741824)
include hf hn
theorem ordered_l4 {x y : Nat} (hx : x < n) (hy : y < n) {L1 : s72l1_T} {L2 : s72l2_T} (no : ∀ z, z < n → ordZ r x y z = false → K (.bool false) h)
    (yes : (∀ z, z < n → ordZ r x y z = true) → L2 (.lptr (latC n f)) (x : Int) n (x : Int) n ((y : Int) + 1) h) : ∀ d z : Nat, z + d = n → (∀ z', z' < z → ordZ r x y z' = true) →
    s72l4 K L1 L2 (d + 1) (.lptr (latC n f)) (x : Int) (y : Int) n (x : Int) n (y : Int) (n : Int) (z : Int) h
  | 0, z, hd, hb => by
    unfold s72l4
    exact ifT_neg (by simp; omega) (rg_of (by omega) (by omega) (yes fun z' hz' => hb z' (by omega)))
  | d + 1, z, hd, hb => by
    have next : ordZ r x y z = true → s72c5 K L1 L2 (s72l4_G (s72l4 K L1 L2 (d + 1))) (.lptr (latC n f)) (x : Int) (y : Int) n (x : Int) n (y : Int) (n : Int) (z : Int) false h := fun e => by
      unfold s72c5
      refine ifT_neg rfl (rg_of (by omega) (by omega) (s72l4_go (ordered_l4 hx hy no yes d (z + 1) (by omega) fun z' hz' => ?_)))
      by_cases e2 : z' = z
      · rw [e2]; exact e
      · exact hb z' (by omega)
    unfold s72l4
    refine ifT_pos (by simp; omega) ?_
    simp only [addOff_lptr, List.drop_succ_cons, List.drop_zero, ld1_lptr]
    refine hf x y h _ hx hy ?_
    rw [tBool_bool]
    cases e1 : r x y with
    | false => exact ifT_neg rfl (next (by simp [ordZ, e1]))
    | true =>
      refine ifT_pos rfl (hf y z h _ hy (by omega) ?_)
      rw [tBool_bool]
      cases e2 : r y z with
      | false => exact ifT_neg rfl (next (by simp [ordZ, e2]))
      | true =>
        refine ifT_pos rfl (hf x z h _ hx (by omega) ?_)
        rw [tBool_bool]
        cases e3 : r x z with
        | true => exact next (by simp [ordZ, e3])
        | false =>
          unfold s72c5
          exact ifT_pos rfl (retG_of (no z (by omega) (by simp [ordZ, e1, e2, e3])))
theorem ordered_l2 {x : Nat} (hx : x < n) {L1 : s72l1_T} (no : ∀ y, y < n → ordY n r x y = false → K (.bool false) h)
    (yes : (∀ y, y < n → ordY n r x y = true) → L1 (.lptr (latC n f)) n ((x : Int) + 1) h) : ∀ d y : Nat, y + d = n → (∀ y', y' < y → ordY n r x y' = true) →
    s72l2 K L1 (d + 1) (.lptr (latC n f)) (x : Int) n (x : Int) (n : Int) (y : Int) h
  | 0, y, hd, hb => by
    unfold s72l2
    exact ifT_neg (by simp; omega) (rg_of (by omega) (by omega) (yes fun z' hz' => hb z' (by omega)))
  | d + 1, y, hd, hb => by
    have next : ((x != y) && r x y && r y x) = false → s72c3 K L1 (s72l2_G (s72l2 K L1 (d + 1))) (.lptr (latC n f)) (x : Int) (y : Int) n (x : Int) n (y : Int) false h := fun e => by
      unfold s72c3
      refine ifT_neg rfl ?_
      simp only [addOff_lptr, List.drop_zero, ld1_lptr, tInt_int]
      refine s72l4_in (n + 1) (ordered_l4 hf hn hx (by omega) (fun z hz ez => no y (by omega) ?_) (fun hall => ?_) n 0 (by omega) (fun z' hz' => by omega))
      · unfold ordY; rw [all_not hz ez, Bool.and_false]
      · refine s72l2_go (ordered_l2 hx no yes d (y + 1) (by omega) fun y' hy' => ?_)
        by_cases e2 : y' = y
        · subst e2
          unfold ordY
          rw [e, all_of hall]; rfl
        · exact hb y' (by omega)
    unfold s72l2
    refine ifT_pos (by simp; omega) ?_
    by_cases exy : x = y
    · exact ifT_neg (by simp [exy]) (next (by simp [exy]))
    · refine ifT_pos (by simp; omega) ?_
      simp only [addOff_lptr, List.drop_succ_cons, List.drop_zero, ld1_lptr]
      refine hf x y h _ hx (by omega) ?_
      rw [tBool_bool]
      cases e1 : r x y with
      | false => exact ifT_neg rfl (next (by simp [e1]))
      | true =>
        refine ifT_pos rfl (hf y x h _ (by omega) hx ?_)
        rw [tBool_bool]
        cases e2 : r y x with
        | false => exact next (by simp [e2])
        | true =>
          unfold s72c3
          refine ifT_pos rfl (retG_of (no y (by omega) ?_))
          unfold ordY
          simp [exy, e1, e2]
theorem ordered_l1 (hk : K (.bool (ordP n r)) h) : ∀ d x : Nat, x + d = n → (∀ x', x' < x → ordX n r x' = true) → s72l1 K (d + 1) (.lptr (latC n f)) (n : Int) (x : Int) h
  | 0, x, hd, hb => by
    have e : ordP n r = true := by rw [ordP_eq]; exact all_of fun x' hx' => hb x' (by omega)
    rw [e] at hk
    unfold s72l1
    exact ifT_neg (by simp; omega) (retG_of hk)
  | d + 1, x, hd, hb => by
    have no : ordX n r x = false → K (.bool false) h := fun e => by
      have e2 : ordP n r = false := by rw [ordP_eq]; exact all_not (by omega) e
      rwa [e2] at hk
    unfold s72l1
    refine ifT_pos (by simp; omega) ?_
    simp only [addOff_lptr, List.drop_succ_cons, List.drop_zero, ld1_lptr]
    refine hf x x h _ (by omega) (by omega) ?_
    rw [tBool_bool]
    cases e1 : r x x with
    | false => exact ifT_pos rfl (retG_of (no (by simp [ordX, e1])))
    | true =>
      refine ifT_neg rfl ?_
      rw [tInt_int]
      refine s72l2_in (n + 1) (ordered_l2 hf hn (by omega) (fun y hy ey => no ?_) (fun hall => ?_) n 0 (by omega) (fun y' hy' => by omega))
      · unfold ordX; rw [all_not hy ey, Bool.and_false]
      · refine s72l1_go (ordered_l1 hk d (x + 1) (by omega) fun x' hx' => ?_)
        by_cases e2 : x' = x
        · subst e2
          unfold ordX
          rw [e1, all_of hall]; rfl
        · exact hb x' (by omega)
theorem orderedH_ok (hk : K (.bool (ordP n r)) h) : ACalls prog 72 [latV n f] h K := by
  refine s72_ok ?_
  unfold s72
  exact s72l1_in (n + 1) (ordered_l1 hf hn hk n 0 (by omega) fun x' hx' => by omega)
end
end Go.Proofs.YtljglglbfcgjpaaGreat

namespace Go.Proofs.YtljglglbfcgjpaaGreat
open Go Go.Sym Go.Proofs.Tryz

variable {K : AVal → Heap → Prop} {h h0 hb : Heap} {n : Nat} {r : Nat → Nat → Bool} {f : AVal}

/- ---------------- two groups of rows that grow ---------------- -/
theorem rowsO_at {q k : Nat} {f : Nat → AVal} {g : Nat → List Nat} (A B : List Ow) (hk : k < q) : (A ++ (rowsO q f g ++ B))[A.length + k]? = some (.slc 1 (f k) ((natI (g k)).map (.int .i64))) := by
  rw [List.getElem?_append_right (by omega), show A.length + k - A.length = k by omega, List.getElem?_append_left (by simp [rowsO, hk])]
  unfold rowsO
  exact range_get _ hk
theorem rowsO_put {q k x : Nat} {f : Nat → AVal} {g : Nat → List Nat} {v : AVal} (A B : List Ow) (hk : k < q) :
    (A ++ (rowsO q f g ++ B)).set (A.length + k) (.slc 1 v ((natI (g k)).map (.int .i64) ++ [.int .i64 (x : Int)])) = A ++ (rowsO q (upd f k v) (upd g k (g k ++ [x])) ++ B) := by
  rw [List.set_append_right _ _ (by omega), show A.length + k - A.length = k by omega, List.set_append_left _ _ (by simp [rowsO, hk])]
  congr 2
  unfold rowsO
  rw [map_set]
  refine List.map_congr_left fun y _ => ?_
  unfold upd
  split
  · simp [natI]
  · rfl
/-- rows that are full, one that grows, rows that are empty -/
structure GT (R : Nat → List Nat) (x y : Nat) (g : Nat → List Nat) : Prop where
  lo : ∀ k, k < x → g k = R k
  at_ : g x = (R x).take y
  hi : ∀ k, x < k → g k = []
theorem GT.put {R : Nat → List Nat} {x y a : Nat} {g : Nat → List Nat} (G : GT R x y g) (ha : (R x)[y]? = some a) : GT R x (y + 1) (upd g x (g x ++ [a])) where
  lo k hk := by unfold upd; rw [if_neg (by omega)]; exact G.lo k hk
  at_ := by unfold upd; rw [if_pos rfl, G.at_, List.take_add_one, ha]; rfl
  hi k hk := by unfold upd; rw [if_neg (by omega)]; exact G.hi k hk
theorem GT.next {R : Nat → List Nat} {x y : Nat} {g : Nat → List Nat} (G : GT R x y g) (hy : (R x).length ≤ y) : GT R (x + 1) 0 g where
  lo k hk := by
    rcases Nat.lt_or_ge k x with e | e
    · exact G.lo k e
    · obtain rfl : k = x := by omega
      rw [G.at_, List.take_of_length_le hy]
  at_ := by rw [G.hi _ (by omega)]; simp
  hi k hk := G.hi k (by omega)

def mRow (n : Nat) (r : Nat → Nat → Bool) (x : Nat) : List Nat := (List.range n).map fun y => mt n r x y
def jRow (n : Nat) (r : Nat → Nat → Bool) (x : Nat) : List Nat := (List.range n).map fun y => jn n r x y
def mTab (n : Nat) (r : Nat → Nat → Bool) : List (List Int) := (List.range n).map fun x => natI (mRow n r x)
def jTab (n : Nat) (r : Nat → Nat → Bool) : List (List Int) := (List.range n).map fun x => natI (jRow n r x)

section
/-- an element of a row that a slice holds -/
theorem row_app {rm x a i : Nat} {F : Nat → AVal} {G : Nat → List Nat} (A B : List Ow) (hn : n ≤ 64) (hx : x < n) (hA : A[i]? = some (.slc 1 (.sl rm 1 0 n) ((List.range n).map F))) (W : Own hb (A ++ (rowsO n F G ++ B)) h) (hl : (G x).length ≤ 64)
    {X : Heap → Prop} (hX : ∀ v h', Own hb (A.set i (.slc 1 (.sl rm 1 0 n) ((List.range n).map (upd F x v))) ++ (rowsO n (upd F x v) (upd G x (G x ++ [a])) ++ B)) h' → X h') :
    ixS 1 (.sl rm 1 0 n) (x : Int) fun p1 => ld1 h p1 fun v20 => appC 1 8 h v20 (.lsl 1 [(.int .i64 (a : Int))]) fun v21 h_4 => ixS 1 (.sl rm 1 0 n) (x : Int) fun p2 => chk (sc v21) (st true h_4 p2 [v21] X) := by
  have hi := rowsO_at (f := F) (g := G) A B hx
  have hil := (List.getElem?_eq_some_iff.1 hA).1
  have hA' : ∀ Z : List Ow, (A ++ Z)[i]? = some (.slc 1 (.sl rm 1 0 n) ((List.range n).map F)) := fun Z => by rw [List.getElem?_append_left hil]; exact hA
  have hget : ((List.range n).map F)[x]? = some (F x) := range_get _ hx
  have hag := (W.sc hi).2.2
  have rU := W.get i _ rm (hA' _) rfl
  refine ixS_sl0 hx ?_
  rw [ld1_ptr rU hget hag]
  refine W.app hi (by simp [natI]; omega) (by simp [natI]; omega) fun v2 h2 W2 => ?_
  rw [rowsO_put _ _ hx] at W2
  refine ixS_sl0 hx ?_
  have hi2 := rowsO_at (f := upd F x v2) (g := upd G x (G x ++ [a])) A B hx
  have hsc : sc v2 = true := by
    have := (W2.sc hi2).1
    unfold upd at this
    rwa [if_pos rfl] at this
  refine chk_iff.2 ⟨hsc, st_elem (W2.get i _ rm (hA' _) rfl) hget hag ?_⟩
  have hlen : ((List.range n).map F).length = n := by simp
  have hi1 := hA' (rowsO n (upd F x v2) (upd G x (G x ++ [a])) ++ B)
  have hi1' : (A ++ (rowsO n (upd F x v2) (upd G x (G x ++ [a])) ++ B))[i]? = some (.slc 1 (.sl rm 1 0 ((List.range n).map F).length) ((List.range n).map F)) := by rw [hlen]; exact hi1
  have W3 := W2.putS hi1' (l' := ((List.range n).map F).set x v2) (by simp)
  rw [hlen, map_set, List.set_append_left _ _ hil] at W3
  rw [map_set]
  exact hX v2 _ W3
end

/-- the memory of two tables that grow -/
abbrev TB2 (hb : Heap) (rm rj n : Nat) (f f' : Nat → AVal) (g g' : Nat → List Nat) (h : Heap) : Prop :=
  Own hb ([.slc 1 (.sl rm 1 0 n) ((List.range n).map f), .slc 1 (.sl rj 1 0 n) ((List.range n).map f')] ++ (rowsO n f g ++ rowsO n f' g')) h

section
variable {rm rj : Nat} {F F' : Nat → AVal} {G G' : Nat → List Nat}
theorem TB2.app1 (hn : n ≤ 64) {x a : Nat} (hx : x < n) (W : TB2 hb rm rj n F F' G G' h) (hl : (G x).length ≤ 64) {X : Heap → Prop} (hX : ∀ v h', TB2 hb rm rj n (upd F x v) F' (upd G x (G x ++ [a])) G' h' → X h') :
    ixS 1 (.sl rm 1 0 n) (x : Int) fun p1 => ld1 h p1 fun v20 => appC 1 8 h v20 (.lsl 1 [(.int .i64 (a : Int))]) fun v21 h_4 => ixS 1 (.sl rm 1 0 n) (x : Int) fun p2 => chk (sc v21) (st true h_4 p2 [v21] X) :=
  row_app (i := 0) _ _ hn hx rfl W hl fun v h' W' => hX v h' W'
theorem TB2.app2 (hn : n ≤ 64) {x a : Nat} (hx : x < n) (W : TB2 hb rm rj n F F' G G' h) (hl : (G' x).length ≤ 64) {X : Heap → Prop} (hX : ∀ v h', TB2 hb rm rj n F (upd F' x v) G (upd G' x (G' x ++ [a])) h' → X h') :
    ixS 1 (.sl rj 1 0 n) (x : Int) fun p1 => ld1 h p1 fun v20 => appC 1 8 h v20 (.lsl 1 [(.int .i64 (a : Int))]) fun v21 h_4 => ixS 1 (.sl rj 1 0 n) (x : Int) fun p2 => chk (sc v21) (st true h_4 p2 [v21] X) := by
  have e : ∀ (m j : Ow) (R R' : List Ow), [m, j] ++ (R ++ R') = ([m, j] ++ R) ++ (R' ++ []) := fun m j R R' => by simp
  have W1 : Own hb (([.slc 1 (.sl rm 1 0 n) ((List.range n).map F), .slc 1 (.sl rj 1 0 n) ((List.range n).map F')] ++ rowsO n F G) ++ (rowsO n F' G' ++ [])) h := by rw [← e]; exact W
  refine row_app (i := 1) _ _ hn hx rfl W1 hl fun v h' W' => hX v h' ?_
  have W2 : Own hb (([.slc 1 (.sl rm 1 0 n) ((List.range n).map F), .slc 1 (.sl rj 1 0 n) ((List.range n).map (upd F' x v))] ++ rowsO n F G) ++ (rowsO n (upd F' x v) (upd G' x (G' x ++ [a])) ++ [])) h' := W'
  rw [← e] at W2
  exact W2
end

section
variable (hf : T2 f n r) (hn : n ≤ 64) {rm rj : Nat}
include hf hn
theorem tables_l2 {x : Nat} (hx : x < n) {L1 : s73l1_T} {b0 : AVal × AVal} (hb0 : b0 = (.sl rm 1 0 n, .sl rj 1 0 n)) (no : ∀ y, y < n → tabB n r x y = false → K (.tuple [.nilsl, .nilsl, .bool false]) hb)
    (yes : (∀ y, y < n → tabB n r x y = true) → ∀ F F' G G' h', GT (mRow n r) x n G → GT (jRow n r) x n G' → TB2 hb rm rj n F F' G G' h' → L1 (.lptr (latC n f)) b0.1 b0.2 n ((x : Int) + 1) h') :
    ∀ d y : Nat, y + d = n → (∀ y', y' < y → tabB n r x y' = true) → ∀ F F' G G' h, GT (mRow n r) x y G → GT (jRow n r) x y G' → TB2 hb rm rj n F F' G G' h →
      s73l2 K L1 (d + 1) (.lptr (latC n f)) b0.1 b0.2 (x : Int) n (x : Int) n (y : Int) h
  | 0, y, hd, hb', F, F', G, G', h, g1, g2, W => by
    obtain rfl : y = n := by omega
    unfold s73l2
    exact ifT_neg (by simp) (rg_of (by omega) (by omega) (yes (fun z' hz' => hb' z' hz') F F' G G' h g1 g2 W))
  | d + 1, y, hd, hb', F, F', G, G', h, g1, g2, W => by
    have hy : y < n := by omega
    unfold s73l2
    refine ifT_pos (by simp; omega) ?_
    rw [ldN_agg2, tCons_cons, tInt_int, tCons_cons, tNil_nil]
    refine callG_of (meetH_ok hf (by omega) hx hy ?_)
    unfold bestV
    rw [tTup_tuple, tCons_cons, tInt_int, tCons_cons, tBool_bool, tNil_nil, ldN_agg2, tCons_cons, tInt_int, tCons_cons, tNil_nil]
    refine callG_of (joinH_ok hf (by omega) hx hy ?_)
    unfold bestV
    rw [tTup_tuple, tCons_cons, tInt_int, tCons_cons, tBool_bool, tNil_nil]
    have bad : tabB n r x y = false → s73c3 K L1 (s73l2_G (s73l2 K L1 (d + 1))) (.lptr (latC n f)) b0.1 b0.2 (x : Int) (((meetO n r x y).getD 0 : Nat) : Int) (((joinO n r x y).getD 0 : Nat) : Int) n (x : Int) n (y : Int) true h := fun e => by
      unfold s73c3
      exact ifT_pos rfl (retG_drop W.old (no y hy e))
    cases e1 : (meetO n r x y).isSome with
    | false => exact ifT_pos rfl (bad (by unfold tabB; rw [e1, Bool.false_and]))
    | true =>
      refine ifT_neg rfl ?_
      cases e2 : (joinO n r x y).isSome with
      | false => exact bad (by unfold tabB; rw [e2, Bool.and_false])
      | true =>
        have et : tabB n r x y = true := by unfold tabB; rw [e1, e2]; rfl
        show s73c3 K L1 (s73l2_G (s73l2 K L1 (d + 1))) (.lptr (latC n f)) b0.1 b0.2 (x : Int) ((mt n r x y : Nat) : Int) ((jn n r x y : Nat) : Int) n (x : Int) n (y : Int) false h
        unfold s73c3
        refine ifT_neg rfl ?_
        subst hb0
        have lm : (mRow n r x).length = n := by simp [mRow]
        have lj : (jRow n r x).length = n := by simp [jRow]
        refine W.app1 hn hx (by rw [g1.at_, List.length_take]; omega) fun v h2 W2 => ?_
        refine W2.app2 hn hx (by rw [g2.at_, List.length_take]; omega) fun v' h3 W3 => ?_
        refine rg_of (by omega) (by omega) (s73l2_go (tables_l2 hx rfl no yes d (y + 1) (by omega) (fun y' hy' => ?_) _ _ _ _ _ (g1.put (range_get _ hy)) (g2.put (range_get _ hy)) W3))
        by_cases e3 : y' = y
        · rw [e3]; exact et
        · exact hb' y' (by omega)
theorem tables_l1 (no : tabsP n r = false → K (.tuple [.nilsl, .nilsl, .bool false]) hb) (yes : tabsP n r = true → ∀ vm vj, Intss vm (mTab n r) → Intss vj (jTab n r) → K (.tuple [vm, vj, .bool true]) hb)
    {b0 : AVal × AVal} (hb0 : b0 = (.sl rm 1 0 n, .sl rj 1 0 n)) : ∀ d x : Nat, x + d = n → (∀ x', x' < x → ∀ y, y < n → tabB n r x' y = true) → ∀ F F' G G' h, GT (mRow n r) x 0 G → GT (jRow n r) x 0 G' → TB2 hb rm rj n F F' G G' h →
      s73l1 K (d + 1) (.lptr (latC n f)) b0.1 b0.2 n (x : Int) h
  | 0, x, hd, hb', F, F', G, G', h, g1, g2, W => by
    obtain rfl : x = n := by omega
    unfold s73l1
    refine ifT_neg (by simp) ?_
    have et : tabsP x r = true := by
      unfold tabsP
      exact all_of fun x' hx' => all_of fun y hy => hb' x' hx' y hy
    subst hb0
    let Sg : Nat → Prop := fun q => nameOf (.sl rm 1 0 x) q ∨ nameOf (.sl rj 1 0 x) q ∨ (∃ k, k < x ∧ nameOf (F k) q) ∨ ∃ k, k < x ∧ nameOf (F' k) q
    have e : ∀ (m j : Ow) (R R' : List Ow), [m, j] ++ (R ++ R') = ([m, j] ++ R) ++ (R' ++ []) := fun m j R R' => by simp
    have i1 := fun k (hk : k < x) => rowsO_at (f := F) (g := G) [.slc 1 (.sl rm 1 0 x) ((List.range x).map F), .slc 1 (.sl rj 1 0 x) ((List.range x).map F')] (rowsO x F' G') hk
    have i2 := fun k (hk : k < x) => rowsO_at (f := F') (g := G') ([.slc 1 (.sl rm 1 0 x) ((List.range x).map F), .slc 1 (.sl rj 1 0 x) ((List.range x).map F')] ++ rowsO x F G) [] hk
    simp only [← e] at i2
    obtain ⟨l1, hl1, hR1⟩ := lits_rows (g := G) W (S := Sg) (List.range x) (fun k hk => ⟨_, i1 k (List.mem_range.1 hk)⟩) (fun k hk q hq => .inr (.inr (.inl ⟨k, List.mem_range.1 hk, hq⟩)))
    obtain ⟨l2, hl2, hR2⟩ := lits_rows (g := G') W (S := Sg) (List.range x) (fun k hk => ⟨_, i2 k (List.mem_range.1 hk)⟩) (fun k hk q hq => .inr (.inr (.inr ⟨k, List.mem_range.1 hk, hq⟩)))
    obtain ⟨m', lm, sm⟩ := W.lit (i := 0) rfl (S := Sg) (fun q hq => .inl hq) hl1
    obtain ⟨j', lj, sj⟩ := W.lit (i := 1) rfl (S := Sg) (fun q hq => .inr (.inl hq)) hl2
    have r1 : (List.range x).map (fun k => natI (G k)) = mTab x r := List.map_congr_left fun k hk => by rw [g1.lo k (List.mem_range.1 hk)]
    have r2 : (List.range x).map (fun k => natI (G' k)) = jTab x r := List.map_congr_left fun k hk => by rw [g2.lo k (List.mem_range.1 hk)]
    rw [r1] at hR1
    rw [r2] at hR2
    refine ⟨Sg, .tuple [m', j', .bool true], hb, .tuple (.cons lm (.cons lj (.cons (.refl _) .nil))), base_step W Sg fun q hs => ?_, yes et m' j' ⟨_, sm, hR1⟩ ⟨_, sj, hR2⟩⟩
    rcases hs with hs | hs | ⟨k, hk, hs⟩ | ⟨k, hk, hs⟩
    · exact W.new 0 _ q rfl hs
    · exact W.new 1 _ q rfl hs
    · exact W.new _ _ q (i1 k hk) hs
    · exact W.new _ _ q (i2 k hk) hs
  | d + 1, x, hd, hb', F, F', G, G', h, g1, g2, W => by
    unfold s73l1
    refine ifT_pos (by simp; omega) ?_
    simp only [addOff_lptr, List.drop_zero, ld1_lptr, tInt_int]
    refine s73l2_in (n + 1) (tables_l2 hf hn (by omega) hb0 (fun y hy ey => no ?_) (fun hall F1 F1' G1 G1' h1 k1 k2 W1 => ?_) n 0 (by omega) (fun y' hy' => by omega) F F' G G' h g1 g2 W)
    · unfold tabsP
      exact all_not (x := x) (by omega) (all_not hy ey)
    · have lm : (mRow n r x).length = n := by simp [mRow]
      have lj : (jRow n r x).length = n := by simp [jRow]
      refine s73l1_go (tables_l1 no yes hb0 d (x + 1) (by omega) (fun x' hx' y hy => ?_) F1 F1' G1 G1' h1 (k1.next (by omega)) (k2.next (by omega)) W1)
      by_cases e3 : x' = x
      · rw [e3]; exact hall y hy
      · exact hb' x' (by omega) y hy
omit hf hn in
theorem rowsO_nil (q : Nat) : rowsO q (fun _ => .nilsl) (fun _ => []) = (List.range q).map fun _ => .slc 1 .nilsl [] := rfl
omit hf hn in
theorem map_nil_rep (n : Nat) : (List.range n).map (fun _ => AVal.nilsl) = List.replicate n .nilsl := by
  refine List.ext_getElem (by simp) fun i h1 h2 => ?_
  simp
omit hf hn in
theorem gt_start (R : Nat → List Nat) : GT R 0 0 fun _ => [] := ⟨fun k hk => by omega, rfl, fun _ _ => rfl⟩
theorem tables_ok (no : tabsP n r = false → K (.tuple [.nilsl, .nilsl, .bool false]) h) (yes : tabsP n r = true → ∀ vm vj, Intss vm (mTab n r) → Intss vj (jTab n r) → K (.tuple [vm, vj, .bool true]) h) : ACalls prog 73 [latV n f] h K := by
  refine s73_ok ?_
  unfold s73
  refine ⟨mkS_own (by omega) (by omega) fun ra hra => ⟨rfl, mkS_own (by omega) (by omega) fun rb hrb => ?_⟩, mkS_own (by omega) (by omega) fun ra hra => ⟨rfl, mkS_own (by omega) (by omega) fun rb hrb => ?_⟩⟩
  · have W0 := (Own.start h).newS hra (es := 1) (List.replicate n .nilsl)
    have W1 := W0.newS hrb (es := 1) (List.replicate n .nilsl)
    rw [List.length_replicate] at W1
    have W2 := newNs (newNs W1 n) n
    rw [List.append_assoc, ← rowsO_nil, ← map_nil_rep] at W2
    rw [← map_nil_rep]
    exact s73l1_in (n + 1) (tables_l1 hf hn no yes (rm := ra) (rj := rb) (b0 := (.sl ra 1 0 n, .sl rb 1 0 n)) rfl n 0 (by omega) (fun x' hx' => by omega) _ _ _ _ _ (gt_start _) (gt_start _) W2)
  · have W0 := (Own.start h).newS hra (es := 1) (List.replicate n .nilsl)
    have W1 := W0.newS hrb (es := 1) (List.replicate n .nilsl)
    rw [List.length_replicate] at W1
    have W1' := W1.renum [.slc 1 (.sl rb 1 0 n) (List.replicate n .nilsl), .slc 1 (.sl ra 1 0 n) (List.replicate n .nilsl)] (fun j => 1 - j) (fun j y hj => by
      match j, hj with
      | 0, hj => exact hj
      | 1, hj => exact hj
      | j + 2, hj => simp at hj) (show ∀ j, j < 2 → ∀ k, k < 2 → _ = _ → j = k by omega)
    have W2 := newNs (newNs W1' n) n
    rw [List.append_assoc, ← rowsO_nil, ← map_nil_rep] at W2
    rw [← map_nil_rep]
    exact s73l1_in (n + 1) (tables_l1 hf hn no yes (rm := rb) (rj := ra) (b0 := (.sl rb 1 0 n, .sl ra 1 0 n)) rfl n 0 (by omega) (fun x' hx' => by omega) _ _ _ _ _ (gt_start _) (gt_start _) W2)
end
end Go.Proofs.YtljglglbfcgjpaaGreat

namespace Go.Proofs.YtljglglbfcgjpaaGreat
open Go Go.Sym Go.Proofs.Tryz

variable {K : AVal → Heap → Prop} {h h0 hb : Heap} {n : Nat} {r : Nat → Nat → Bool} {f : AVal}

/- ---------------- rows of truths ---------------- -/
def Bools (v : AVal) (l : List Bool) : Prop := SlOf 1 v (l.map .bool)
def Boolss (v : AVal) (ll : List (List Bool)) : Prop := ∃ l, SlOf 1 v l ∧ All2 Bools l ll
theorem Bools.len {v : AVal} {l : List Bool} (h : Bools v l) (K : Int → Prop) : lenN v K = K l.length := by rw [lenN_of h]; simp
theorem Bools.ix {v : AVal} {l : List Bool} (h : Bools v l) {i : Nat} (hi : i < l.length) (K : AVal → Prop) : ixS 1 v (i : Int) K = K (.lptr [.bool l[i]]) := by
  rw [ixS_nat h (e := .bool l[i]) (by simp [hi])]; rfl
theorem Boolss.len {v : AVal} {l : List (List Bool)} (h : Boolss v l) (K : Int → Prop) : lenN v K = K l.length := by
  obtain ⟨m, h1, h2⟩ := h
  rw [lenN_of h1, h2.length]
theorem Bools.notAgg {v : AVal} {l : List Bool} (h : Bools v l) : cellsOf v = [v] ∧ sc v = true := by
  rcases h with rfl | ⟨rfl, _⟩ <;> exact ⟨rfl, rfl⟩
theorem Boolss.ix {v : AVal} {l : List (List Bool)} (h : Boolss v l) {i : Nat} (hi : i < l.length) : ∃ e, Bools e l[i] ∧ ∀ K : AVal → Prop, ixS 1 v (i : Int) K = K (.lptr [e]) := by
  obtain ⟨m, h1, h2⟩ := h
  obtain ⟨e, he, hr⟩ := h2.get (i := i) (b := l[i]) (by simp [hi])
  refine ⟨e, hr, fun K => ?_⟩
  rw [ixS_nat h1 he, hr.notAgg.1]
/-- a square table -/
def Sq (L : List (List Bool)) : Prop := ∀ row ∈ L, row.length = L.length
theorem Boolss.rd {v : AVal} {L : List (List Bool)} (hv : Boolss v L) (hs : Sq L) {x : Nat} (hx : x < L.length) : ∃ e, (∀ (h : Heap) (K : AVal → Prop), (ixS 1 v (x : Int) fun p => ld1 h p K) = K e) ∧ (∀ K : Int → Prop, lenN e K = K L.length) ∧
    ∀ y, y < L.length → ∀ (h : Heap) (K : AVal → Prop), (ixS 1 e (y : Int) fun p => ld1 h p K) = K (.bool (at2 L x y)) := by
  obtain ⟨e, he, hix⟩ := hv.ix hx
  have hl := hs _ (List.getElem_mem hx)
  refine ⟨e, fun h K => ?_, fun K => ?_, fun y hy h K => ?_⟩
  · rw [hix, ld1_lptr]
  · rw [he.len, hl]
  · have hy' : y < L[x].length := by omega
    rw [he.ix hy', ld1_lptr]
    congr 2
    unfold at2
    simp [List.getD, hx, hy']
abbrev leqV (a : AVal) : AVal := .func (.func 69) [] [.lptr [a]]
theorem leqV_tells {a : AVal} {L : List (List Bool)} (hv : Boolss a L) (hs : Sq L) : T2 (leqV a) L.length (at2 L) := by
  intro x y h K hx hy hk
  show callG prog 69 ([] ++ [.int .i64 (x : Int), .int .i64 (y : Int)] ++ [.lptr [a]]) h K
  refine callG_of (s69_ok ?_)
  unfold s69
  obtain ⟨e, e1, _, e2⟩ := hv.rd hs hx
  simp only [addOff_lptr, List.drop_zero, ld1_lptr]
  rw [e1, e2 y hy, tBool_bool]
  exact retG_of hk

theorem idxFB_loop {v f : AVal} {l : List (List Bool)} {p : List Bool → Bool} (hv : Boolss v l) (hm : l.length ≤ 1073741824)
    (hf : ∀ s ∈ l, ∀ e, Bools e s → ∀ K : AVal → Heap → Prop, K (.bool (p s)) h → callV prog f [e] h K) (hk : ∀ n : Int, (0 ≤ n ↔ ∃ s ∈ l, p s = true) → K (.int .i64 n) h) : ∀ d i : Nat, i + d = l.length → (∀ s ∈ l.take i, p s = false) →
    s115l1 K (d + 1) v f (l.length : Int) (i : Int) h
  | 0, i, hd, hn => by
    unfold s115l1
    refine ifT_neg (by simp; omega) (retG_of (hk _ ?_))
    rw [List.take_of_length_le (by omega)] at hn
    constructor
    · intro h0; omega
    · rintro ⟨s, hs, hp⟩; rw [hn s hs] at hp; cases hp
  | d + 1, i, hd, hn => by
    have hi : i < l.length := by omega
    unfold s115l1
    refine ifT_pos (by simp; omega) ?_
    obtain ⟨e, he, hix⟩ := hv.ix hi
    rw [hix, ld1_lptr]
    refine hf _ (List.getElem_mem hi) e he _ ?_
    rw [tBool_bool]
    cases he : p l[i] with
    | true => exact ifT_pos rfl (retG_of (hk _ ⟨fun _ => ⟨_, List.getElem_mem hi, he⟩, fun _ => by omega⟩))
    | false =>
      refine ifT_neg rfl (rg_of (by omega) (by omega) (s115l1_go (idxFB_loop hv hm hf hk d (i + 1) (by omega) ?_)))
      rw [List.take_succ_eq_append_getElem hi]
      intro s hs
      rcases List.mem_append.1 hs with hs | hs
      · exact hn s hs
      · simp at hs; rw [hs, he]
theorem containsFB_ok {v f : AVal} {l : List (List Bool)} {p : List Bool → Bool} (hv : Boolss v l) (hm : l.length ≤ 1073741824)
    (hf : ∀ s ∈ l, ∀ e, Bools e s → ∀ K : AVal → Heap → Prop, K (.bool (p s)) h → callV prog f [e] h K) (hk : K (.bool (l.any p)) h) : ACalls prog 70 [v, f] h K := by
  refine s70_ok (callG_of (s115_ok ?_))
  unfold s115
  rw [hv.len]
  refine s115l1_in (l.length + 1) (idxFB_loop hv hm hf (fun n hn => ?_) l.length 0 (by omega) (by simp))
  rw [tInt_int]
  refine retG_of ?_
  rwa [show decide (0 ≤ n) = l.any p by rw [Bool.eq_iff_iff]; simpa using hn]

/- ---------------- tables of numbers that are read ---------------- -/
theorem tab_rd {v : AVal} {c : Nat → Nat → Nat} (hv : Intss v ((List.range n).map fun x => natI ((List.range n).map fun y => c x y))) {x : Nat} (hx : x < n) : ∃ e, (∀ (h : Heap) (K : AVal → Prop), (ixS 1 v (x : Int) fun p => ld1 h p K) = K e) ∧
    ∀ y, y < n → ∀ (h : Heap) (K : AVal → Prop), (ixS 1 e (y : Int) fun p => ld1 h p K) = K (.int .i64 ((c x y : Nat) : Int)) := by
  obtain ⟨e, he, hix⟩ := hv.ix (i := x) (by simpa using hx)
  refine ⟨e, fun h K => by rw [hix, ld1_lptr], fun y hy h K => ?_⟩
  simp only [List.getElem_map, List.getElem_range] at he
  rw [he.ix (i := y) (by simp [natI, hy]), ld1_lptr]
  simp [natI]

/- ---------------- the look ---------------- -/
def inE (n : Nat) (e : Int) : Bool := decide (0 ≤ e) && decide (e < n)
/-- the look's answer -/
def lookE (L : List (List Bool)) (els : List Int) : Int := if algP L then (if els.all (inE L.length) then 0 else 2) else 230
abbrev LM (h0 : Heap) (rt r1 r2 n : Nat) (f X Y : AVal) (h : Heap) : Prop := Own h0 [.cell rt (.row 2 [.agg [X, Y]]), .cell r1 (.row 1 [.int .i64 (n : Int)]), .cell r2 (.row 2 [.agg (latC n f)])] h

section
variable {rt r1 r2 : Nat} {X Y : AVal}
theorem look_end (W : LM h0 rt r1 r2 n f X Y h) {e : Int} (hk : K (.tuple [latV n f, .int .i64 e]) h0) :
    ldN 2 h (.ptr r2 0 0) fun l_1 => tCons l_1 fun v2 l_2 => tInt .i64 v2 fun v3 => tCons l_2 fun v4 l_3 => tNil l_3 (st false h (.ptr rt 0 0) [(.int .i64 v3), v4] fun h_5 => ldN 2 h_5 (.ptr rt 0 0) fun l_4 =>
      tCons l_4 fun v5 l_5 => tInt .i64 v5 fun v6 => tCons l_5 fun v7 l_6 => tNil l_6 (retG (.tuple [(.agg [(.int .i64 v6), v7]), (.int .i64 e)]) h_5 K)) := by
  rw [ldN2 (W.get 2 _ r2 rfl rfl), tCons_cons, tInt_int, tCons_cons, tNil_nil]
  refine st_all (W.get 0 _ rt rfl rfl) rfl ?_
  have W2 := W.put (i := 0) rfl (.row 2 [.agg (latC n f)])
  rw [ldN2 (W2.get 0 _ rt rfl rfl), tCons_cons, tInt_int, tCons_cons, tNil_nil]
  exact retG_drop W2.old hk

variable (hn : n ≤ 64) (h1 : 1 ≤ n)
section
variable {vm vj : AVal} (hm : Intss vm (mTab n r)) (hj : Intss vj (jTab n r)) (W : LM h0 rt r1 r2 n f X Y h)
include hm hj W hn h1
theorem look_l4 {x y : Nat} (hx : x < n) (hy : y < n) {L2 : s35l2_T} {L3 : s35l3_T} {ev : AVal} (no : ∀ z, z < n → distB n r x y z = false → K (.tuple [latV n f, .int .i64 230]) h0)
    (yes : (∀ z, z < n → distB n r x y z = true) → L3 ev (.ptr rt 0 0) (.ptr r1 0 0) (.ptr r2 0 0) vm vj (x : Int) n (x : Int) n ((y : Int) + 1) h) : ∀ d z : Nat, z + d = n → (∀ z', z' < z → distB n r x y z' = true) →
    s35l4 K L2 L3 (d + 1) ev (.ptr rt 0 0) (.ptr r1 0 0) (.ptr r2 0 0) vm vj (x : Int) (y : Int) n (x : Int) n (y : Int) n (z : Int) h
  | 0, z, hd, hb => by
    unfold s35l4
    exact ifT_neg (by simp; omega) (rg_of (by omega) (by omega) (yes fun z' hz' => hb z' (by omega)))
  | d + 1, z, hd, hb => by
    have hz : z < n := by omega
    obtain ⟨em, m1, m2⟩ := tab_rd (c := mt n r) hm hx
    obtain ⟨ej, j1, j2⟩ := tab_rd (c := jn n r) hj hy
    obtain ⟨ek, k1, k2⟩ := tab_rd (c := jn n r) hj (mt_lt (r := r) h1 x y)
    unfold s35l4
    refine ifT_pos (by simp; omega) ?_
    rw [m1, j1, j2 z hz, tInt_int, m2 _ (jn_lt h1 _ _), tInt_int, m1, m2 y hy, tInt_int, k1, m1, m2 z hz, tInt_int, k2 _ (mt_lt h1 _ _), tInt_int]
    cases e : distB n r x y z with
    | false =>
      refine ifT_pos ?_ (look_end W (no z hz e))
      unfold distB at e
      simp at e ⊢
      omega
    | true =>
      refine ifT_neg ?_ (rg_of (by omega) (by omega) (s35l4_go (look_l4 hx hy no yes d (z + 1) (by omega) fun z' hz' => ?_)))
      · unfold distB at e
        simp at e ⊢
        omega
      · by_cases e2 : z' = z
        · rw [e2]; exact e
        · exact hb z' (by omega)
theorem look_l3 {x : Nat} (hx : x < n) {L2 : s35l2_T} {ev : AVal} (no : ∀ y z, y < n → z < n → distB n r x y z = false → K (.tuple [latV n f, .int .i64 230]) h0)
    (yes : (∀ y z, y < n → z < n → distB n r x y z = true) → L2 ev (.ptr rt 0 0) (.ptr r1 0 0) (.ptr r2 0 0) vm vj n ((x : Int) + 1) h) : ∀ d y : Nat, y + d = n → (∀ y' z, y' < y → z < n → distB n r x y' z = true) →
    s35l3 K L2 (d + 1) ev (.ptr rt 0 0) (.ptr r1 0 0) (.ptr r2 0 0) vm vj (x : Int) n (x : Int) n (y : Int) h
  | 0, y, hd, hb => by
    unfold s35l3
    exact ifT_neg (by simp; omega) (rg_of (by omega) (by omega) (yes fun y' z' hy' hz' => hb y' z' (by omega) hz'))
  | d + 1, y, hd, hb => by
    unfold s35l3
    refine ifT_pos (by simp; omega) ?_
    rw [ld1_one (W.get 1 _ r1 rfl rfl) rfl, tInt_int]
    refine s35l4_in (n + 1) (look_l4 hn h1 hm hj W hx (by omega) (fun z hz e => no y z (by omega) hz e) (fun hall => ?_) n 0 (by omega) (fun z' hz' => by omega))
    refine s35l3_go (look_l3 hx no yes d (y + 1) (by omega) fun y' z hy' hz => ?_)
    by_cases e2 : y' = y
    · rw [e2]; exact hall z hz
    · exact hb y' z (by omega) hz
omit hm hj hn h1 in
theorem look_l5 {ev : AVal} {els : List Int} (he : Ints ev els) (hl : els.length ≤ 1048576) (no : els.all (inE n) = false → K (.tuple [latV n f, .int .i64 2]) h0) (yes : els.all (inE n) = true → K (.tuple [latV n f, .int .i64 0]) h0) :
    ∀ d i : Nat, i + d = els.length → (∀ x ∈ els.take i, inE n x = true) → s35l5 K (d + 1) (.ptr rt 0 0) (.ptr r1 0 0) (.ptr r2 0 0) ev els.length (i : Int) h
  | 0, i, hd, hb => by
    unfold s35l5
    refine ifT_neg (by simp; omega) (look_end W (yes ?_))
    rw [List.take_of_length_le (by omega)] at hb
    rw [List.all_eq_true]
    exact hb
  | d + 1, i, hd, hb => by
    have hi : i < els.length := by omega
    unfold s35l5
    refine ifT_pos (by simp; omega) ?_
    rw [he.ix hi, ld1_lptr, tInt_int]
    have bad : inE n els[i] = false → s35c6 K (s35l5_G (s35l5 K (d + 1))) (.ptr rt 0 0) (.ptr r1 0 0) (.ptr r2 0 0) ev els.length (i : Int) true h := fun e => by
      unfold s35c6
      refine ifT_pos rfl (look_end W (no ?_))
      rw [List.all_eq_false]
      exact ⟨_, List.getElem_mem hi, by simp [e]⟩
    by_cases e1 : els[i] < 0
    · exact ifT_pos (by simpa using e1) (bad (by unfold inE; simp; omega))
    · refine ifT_neg (by simpa using e1) ?_
      rw [ld1_one (W.get 1 _ r1 rfl rfl) rfl, tInt_int]
      by_cases e2 : (n : Int) ≤ els[i]
      · rw [decide_eq_true e2]
        exact bad (by unfold inE; simp; omega)
      · rw [decide_eq_false e2]
        unfold s35c6
        refine ifT_neg rfl (rg_of (by omega) (by omega) (s35l5_go (look_l5 he hl no yes d (i + 1) (by omega) ?_)))
        rw [List.take_succ_eq_append_getElem hi]
        intro s hs
        rcases List.mem_append.1 hs with hs | hs
        · exact hb s hs
        · simp at hs; rw [hs]; unfold inE; simp; omega
theorem look_l2 {ev : AVal} {els : List Int} (he : Ints ev els) (hl : els.length ≤ 1048576) (bad : distP n r = false → K (.tuple [latV n f, .int .i64 230]) h0) (no : distP n r = true → els.all (inE n) = false → K (.tuple [latV n f, .int .i64 2]) h0)
    (yes : distP n r = true → els.all (inE n) = true → K (.tuple [latV n f, .int .i64 0]) h0) : ∀ d x : Nat, x + d = n → (∀ x' y z, x' < x → y < n → z < n → distB n r x' y z = true) →
    s35l2 K (d + 1) ev (.ptr rt 0 0) (.ptr r1 0 0) (.ptr r2 0 0) vm vj n (x : Int) h
  | 0, x, hd, hb => by
    have ed : distP n r = true := by
      unfold distP
      exact all_of fun x' hx' => all_of fun y hy => all_of fun z hz => hb x' y z (by omega) hy hz
    unfold s35l2
    refine ifT_neg (by simp; omega) ?_
    rw [he.len]
    exact s35l5_in (els.length + 1) (look_l5 W he hl (no ed) (yes ed) els.length 0 (by omega) (by simp))
  | d + 1, x, hd, hb => by
    unfold s35l2
    refine ifT_pos (by simp; omega) ?_
    rw [ld1_one (W.get 1 _ r1 rfl rfl) rfl, tInt_int]
    refine s35l3_in (n + 1) (look_l3 hn h1 hm hj W (by omega) (fun y z hy hz e => bad ?_) (fun hall => ?_) n 0 (by omega) (fun y' z hy' => by omega))
    · unfold distP
      exact all_not (x := x) (by omega) (all_not hy (all_not hz e))
    · refine s35l2_go (look_l2 he hl bad no yes d (x + 1) (by omega) fun x' y z hx' hy hz => ?_)
      by_cases e2 : x' = x
      · rw [e2]; exact hall y z hy hz
      · exact hb x' y z (by omega) hy hz
end
end
theorem sq_any {L : List (List Bool)} : (L.any fun row => row.length != L.length) = false ↔ Sq L := by
  rw [List.any_eq_false]
  unfold Sq
  simp
theorem sq_all {L : List (List Bool)} : (L.all fun row => row.length == L.length) = true ↔ Sq L := by
  rw [List.all_eq_true]
  unfold Sq
  simp
theorem algP_sq {L : List (List Bool)} (h : algP L = true) : Sq L ∧ 1 ≤ L.length ∧ L.length ≤ 64 := by
  unfold algP at h
  simp only [Bool.and_eq_true, decide_eq_true_eq] at h
  obtain ⟨⟨⟨⟨⟨h1, h2⟩, h3⟩, _⟩, _⟩, _⟩ := h
  exact ⟨sq_all.1 h3, h1, h2⟩
theorem look_ok {a ev : AVal} {L : List (List Bool)} {els : List Int} (hv : Boolss a L) (hL : L.length ≤ 1048576) (hrl : ∀ row ∈ L, row.length ≤ 1048576) (he : Ints ev els) (hl : els.length ≤ 1048576)
    (hk : K (.tuple [latV L.length (leqV a), .int .i64 (lookE L els)]) h) : ACalls prog 35 [.agg [a], ev] h K := by
  refine s35_ok ?_
  unfold s35
  refine newRow_in fun rt hrt => ?_
  rw [hv.len]
  have W0 := (Own.start h).newC hrt (.row 2 [.agg [.int .i64 0, .nilfunc]])
  refine newRow_in fun r1 hr1 => ?_
  have W1 := W0.newC hr1 (.row 1 [.int .i64 0])
  refine st_elem (Heap.set_same _ _ _) rfl rfl ?_
  have W2 : Own h [.cell rt (.row 2 [.agg [.int .i64 0, .nilfunc]]), .cell r1 (.row 1 [.int .i64 (L.length : Int)])] _ := W1.put (i := 1) rfl (.row 1 ([.int .i64 0].set 0 (.int .i64 (L.length : Int))))
  rw [ld1_one (W2.get 1 _ r1 rfl rfl) rfl, tInt_int]
  refine newRow_in fun r2 hr2 => ?_
  have W3 := W2.newC hr2 (.row 2 [.agg [.int .i64 0, .nilfunc]])
  refine st_all (Heap.set_same _ _ _) rfl ?_
  have W4 : LM h rt r1 r2 L.length (leqV a) (.int .i64 0) .nilfunc _ := W3.put (i := 2) rfl (.row 2 [.agg (latC L.length (leqV a))])
  generalize hgen : Heap.set _ r2 _ = hh at W4 ⊢
  clear hgen
  rw [ld1_one (W4.get 1 _ r1 rfl rfl) rfl, tInt_int]
  have bad : algP L = false → s35c1 K ev (.ptr rt 0 0) (.ptr r1 0 0) (.ptr r2 0 0) true hh := fun e => by
    unfold lookE at hk
    rw [e] at hk
    unfold s35c1
    exact ifT_pos rfl (look_end W4 hk)
  by_cases c1 : (L.length : Int) < 1
  · exact ifT_pos (by simpa using c1) (bad (by unfold algP; rw [decide_eq_false (show ¬ 1 ≤ L.length by omega)]; rfl))
  refine ifT_neg (by simpa using c1) ?_
  rw [ld1_one (W4.get 1 _ r1 rfl rfl) rfl, tInt_int]
  by_cases c2 : (64 : Int) < L.length
  · exact ifT_pos (by simpa using c2) (bad (by unfold algP; rw [decide_eq_false (show ¬ L.length ≤ 64 by omega)]; simp))
  refine ifT_neg (by simpa using c2) ?_
  refine callG_of (containsFB_ok (p := fun row => row.length != L.length) hv (by omega) (fun s hs e hse K' hk' => ?_) ?_)
  · show callG prog 71 ([] ++ [e] ++ [.ptr r1 0 0]) hh K'
    refine callG_of (s71_ok ?_)
    unfold s71
    rw [hse.len, ld1_one (W4.get 1 _ r1 rfl rfl) rfl, tInt_int]
    refine retG_of ?_
    rwa [show ((s.length : Int) != (L.length : Int)) = (s.length != L.length) by rw [Bool.eq_iff_iff]; simp; omega]
  rw [tBool_bool]
  cases c3 : (L.any fun row => row.length != L.length) with
  | true =>
    refine ifT_pos rfl (bad ?_)
    have : ¬ Sq L := fun hs => by rw [sq_any.2 hs] at c3; cases c3
    have e : (L.all fun row => row.length == L.length) = false := by
      cases e : (L.all fun row => row.length == L.length) with
      | false => rfl
      | true => exact absurd (sq_all.1 e) this
    unfold algP
    rw [e]
    simp
  | false =>
    have hs := sq_any.1 c3
    refine ifT_neg rfl ?_
    rw [ldN2 (W4.get 2 _ r2 rfl rfl), tCons_cons, tInt_int, tCons_cons, tNil_nil]
    have hf := leqV_tells hv hs
    refine callG_of (orderedH_ok hf (by omega) ?_)
    rw [tBool_bool]
    cases c4 : ordP L.length (at2 L) with
    | false => exact bad (by unfold algP; rw [c4]; simp)
    | true =>
      unfold s35c1
      refine ifT_neg rfl ?_
      rw [ldN2 (W4.get 2 _ r2 rfl rfl), tCons_cons, tInt_int, tCons_cons, tNil_nil]
      refine callG_of (tables_ok hf (by omega) (fun c5 => ?_) fun c5 vm vj hm hj => ?_)
      · rw [tTup_tuple, tCons_cons, tCons_cons, tCons_cons, tBool_bool, tNil_nil]
        refine ifT_pos rfl (look_end W4 ?_)
        unfold lookE at hk
        rwa [if_neg (by unfold algP; rw [c5]; simp)] at hk
      · rw [tTup_tuple, tCons_cons, tCons_cons, tCons_cons, tBool_bool, tNil_nil]
        refine ifT_neg rfl ?_
        rw [ld1_one (W4.get 1 _ r1 rfl rfl) rfl, tInt_int]
        have alg : distP L.length (at2 L) = true → algP L = true := fun c6 => by
          unfold algP
          rw [sq_all.2 hs, c4, c5, c6, decide_eq_true (show 1 ≤ L.length by omega), decide_eq_true (show L.length ≤ 64 by omega)]
          rfl
        refine s35l2_in (L.length + 1) (look_l2 (by omega) (by omega) hm hj W4 he hl (fun c6 => ?_) (fun c6 c7 => ?_) (fun c6 c7 => ?_) L.length 0 (by omega) (fun x' y z hx' => by omega))
        · unfold lookE at hk
          rwa [if_neg (by unfold algP; rw [c6]; simp)] at hk
        · unfold lookE at hk
          rwa [if_pos (alg c6), c7] at hk
        · unfold lookE at hk
          rwa [if_pos (alg c6), c7] at hk

/- ---------------- what the package answers ---------------- -/
structure AlgV (a : AVal) (L : List (List Bool)) : Prop where
  v : Boolss a L
  len : L.length ≤ 1048576
  row : ∀ row ∈ L, row.length ≤ 1048576
theorem lookE_zero {L : List (List Bool)} {els : List Int} (h : lookE L els = 0) : algP L = true ∧ els.all (inE L.length) = true := by
  unfold lookE at h
  split at h
  · split at h
    · exact ⟨by assumption, by assumption⟩
    · cases h
  · cases h
section
variable {a : AVal} {L : List (List Bool)} (A : AlgV a L)
include A
theorem AlgV.alg (e : algP L = true) : T2 (leqV a) L.length (at2 L) ∧ L.length ≤ 1073741824 ∧ 1 ≤ L.length := by
  obtain ⟨hs, h1, h2⟩ := algP_sq e
  exact ⟨leqV_tells A.v hs, by omega, h1⟩
theorem checkH_ok (hk : K (.int .i64 (lookE L [])) h) : ACalls prog 45 [.agg [a]] h K := by
  refine s45_ok ?_
  unfold s45
  refine callG_of (look_ok A.v A.len A.row (els := []) (.inr ⟨rfl, rfl⟩) (by simp) ?_)
  rw [tTup_tuple, tCons_cons, tCons_cons, tInt_int, tNil_nil, tAgg_agg, tCons_cons, tInt_int, tCons_cons, tNil_nil]
  refine newRow_in fun q hq => st_all (Heap.set_same _ _ _) rfl ?_
  rw [Heap.set_set]
  exact retG_drop (Heap.set_sub hq) hk
/-- two elements' answer -/
def two (L : List (List Bool)) (R : Nat → Nat → Nat) (x y : Int) : AVal := .tuple [.int .i64 (if lookE L [x, y] = 0 then ((R x.toNat y.toNat : Nat) : Int) else 0), .int .i64 (lookE L [x, y])]
omit A in
theorem two_in {x y : Int} {n : Nat} (h : [x, y].all (inE n) = true) : (x.toNat < n ∧ (x.toNat : Int) = x) ∧ y.toNat < n ∧ (y.toNat : Int) = y := by
  simp only [List.all_cons, List.all_nil, Bool.and_true, Bool.and_eq_true, inE, decide_eq_true_eq] at h
  omega
theorem impP_ok {x y : Int} (hk : K (two L (im L.length (at2 L)) x y) h) : ACalls prog 43 [.agg [a], .int .i64 x, .int .i64 y] h K := by
  refine s43_ok ?_
  unfold s43
  refine callG_of (look_ok A.v A.len A.row (els := [x, y]) (.inl rfl) (by simp) ?_)
  rw [tTup_tuple, tCons_cons, tCons_cons, tInt_int, tNil_nil, tAgg_agg, tCons_cons, tInt_int, tCons_cons, tNil_nil]
  refine newRow_in fun q hq => st_all (Heap.set_same _ _ _) rfl ?_
  rw [Heap.set_set]
  unfold two at hk
  by_cases e : lookE L [x, y] = 0
  · obtain ⟨e1, e2⟩ := lookE_zero e
    obtain ⟨hf, hn, h1⟩ := A.alg e1
    obtain ⟨⟨hx, ex⟩, hy, ey⟩ := two_in e2
    rw [if_pos e] at hk
    refine ifT_neg (by simp [e]) ?_
    rw [ldN2 (Heap.set_same _ _ _), tCons_cons, tInt_int, tCons_cons, tNil_nil, ← ex, ← ey]
    refine callG_of (impH_ok hf hn hx hy ?_)
    rw [tInt_int]
    rw [e] at hk
    exact retG_drop (Heap.set_sub hq) hk
  · rw [if_neg e] at hk
    exact ifT_pos (by simpa using e) (retG_drop (Heap.set_sub hq) hk)
theorem boundsP_ok (no : algP L = false → K (.tuple [.int .i64 0, .int .i64 0, .int .i64 230]) h) (yes : algP L = true → K (.tuple [.int .i64 ((lowP L.length (at2 L) : Nat) : Int), .int .i64 ((highP L.length (at2 L) : Nat) : Int), .int .i64 0]) h) : ACalls prog 25 [.agg [a]] h K := by
  refine s25_ok ?_
  unfold s25
  refine callG_of (look_ok A.v A.len A.row (els := []) (.inr ⟨rfl, rfl⟩) (by simp) ?_)
  rw [tTup_tuple, tCons_cons, tCons_cons, tInt_int, tNil_nil, tAgg_agg, tCons_cons, tInt_int, tCons_cons, tNil_nil]
  refine newRow_in fun q hq => st_all (Heap.set_same _ _ _) rfl ?_
  rw [Heap.set_set]
  unfold lookE
  cases e : algP L with
  | false => exact ifT_pos rfl (retG_drop (Heap.set_sub hq) (no e))
  | true =>
    obtain ⟨hf, hn, h1⟩ := A.alg e
    refine ifT_neg rfl ?_
    rw [ldN2 (Heap.set_same _ _ _), tCons_cons, tInt_int, tCons_cons, tNil_nil]
    refine callG_of (boundsH_ok hf hn ?_)
    rw [tTup_tuple, tCons_cons, tInt_int, tCons_cons, tInt_int, tNil_nil]
    exact retG_drop (Heap.set_sub hq) (yes e)
/-- is it Boolean? -/
def boolX (n : Nat) (r : Nat → Nat → Bool) (x : Nat) : Bool := jn n r x (im n r x (lowP n r)) == highP n r
def boolP (n : Nat) (r : Nat → Nat → Bool) : Bool := (List.range n).all (boolX n r)
omit A in
theorem boolean_l1 {q n : Nat} {f : AVal} {r : Nat → Nat → Bool} (hf : T2 f n r) (hn : n ≤ 1073741824) (h1 : 1 ≤ n) {hh : Heap} (hq : hh q = some (.row 2 [.agg (latC n f)])) (old : ∀ q o, h q = some o → hh q = some o) (hk : K (.tuple [.bool (boolP n r), .int .i64 0]) h) :
    ∀ d x : Nat, x + d = n → (∀ x', x' < x → boolX n r x' = true) → s44l1 K (d + 1) (.ptr q 0 0) ((lowP n r : Nat) : Int) ((highP n r : Nat) : Int) n (x : Int) hh
  | 0, x, hd, hb => by
    unfold s44l1
    have e : boolP n r = true := all_of fun x' hx' => hb x' (by omega)
    rw [e] at hk
    exact ifT_neg (by simp; omega) (retG_drop old hk)
  | d + 1, x, hd, hb => by
    unfold s44l1
    refine ifT_pos (by simp; omega) ?_
    rw [ldN2 hq, tCons_cons, tInt_int, tCons_cons, tNil_nil, ldN2 hq, tCons_cons, tInt_int, tCons_cons, tNil_nil]
    refine callG_of (impH_ok hf hn (by omega) (low_lt h1) ?_)
    rw [tInt_int]
    refine ⟨by rw [ldN2 hq], callG_of (joinH_ok hf hn (by omega) (im_lt h1 _ _) ?_)⟩
    unfold bestV
    rw [tTup_tuple, tCons_cons, tInt_int, tCons_cons, tBool_bool, tNil_nil]
    cases e : boolX n r x with
    | false =>
      have e2 : boolP n r = false := all_not (x := x) (by omega) e
      rw [e2] at hk
      refine ifT_pos ?_ (retG_drop old hk)
      unfold boolX jn at e
      simp at e ⊢
      omega
    | true =>
      refine ifT_neg ?_ (rg_of (by omega) (by omega) (s44l1_go (boolean_l1 hf hn h1 hq old hk d (x + 1) (by omega) fun x' hx' => ?_)))
      · unfold boolX jn at e
        simp at e ⊢
        omega
      · by_cases e3 : x' = x
        · rw [e3]; exact e
        · exact hb x' (by omega)
theorem booleanP_ok (no : algP L = false → K (.tuple [.bool false, .int .i64 230]) h) (yes : algP L = true → K (.tuple [.bool (boolP L.length (at2 L)), .int .i64 0]) h) : ACalls prog 44 [.agg [a]] h K := by
  refine s44_ok ?_
  unfold s44
  refine callG_of (look_ok A.v A.len A.row (els := []) (.inr ⟨rfl, rfl⟩) (by simp) ?_)
  rw [tTup_tuple, tCons_cons, tCons_cons, tInt_int, tNil_nil, tAgg_agg, tCons_cons, tInt_int, tCons_cons, tNil_nil]
  refine newRow_in fun q hq => st_all (Heap.set_same _ _ _) rfl ?_
  rw [Heap.set_set]
  unfold lookE
  cases e : algP L with
  | false => exact ifT_pos rfl (retG_drop (Heap.set_sub hq) (no e))
  | true =>
    obtain ⟨hf, hn, h1⟩ := A.alg e
    refine ifT_neg rfl ?_
    rw [ldN2 (Heap.set_same _ _ _), tCons_cons, tInt_int, tCons_cons, tNil_nil]
    refine callG_of (boundsH_ok hf hn ?_)
    rw [tTup_tuple, tCons_cons, tInt_int, tCons_cons, tInt_int, tNil_nil, ld1_fld (Heap.set_same _ _ _) rfl, tInt_int]
    exact s44l1_in (L.length + 1) (boolean_l1 hf hn h1 (Heap.set_same _ _ _) (Heap.set_sub hq) (yes e) L.length 0 (by omega) fun x' hx' => by omega)
end
end Go.Proofs.YtljglglbfcgjpaaGreat

namespace Go.Proofs.YtljglglbfcgjpaaGreat
open Go Go.Sym Go.Proofs.Tryz

variable {K : AVal → Heap → Prop} {h h0 hb : Heap} {n : Nat} {r : Nat → Nat → Bool} {f : AVal}

/-- the last two things, slices that two others hold as their last elements, become plain data -/
theorem Own.settle2 {A : Ow} {e1 e2 s1 s2 : Nat} {v1 v2 w1 w2 : AVal} {l1 l2 L1 L2 : List AVal} (W : Own hb [A, .slc s1 w1 (L1 ++ [v1]), .slc s2 w2 (L2 ++ [v2]), .slc e1 v1 l1, .slc e2 v2 l2] h) :
    ∃ S h' v1' v2', SlOf e1 v1' l1 ∧ SlOf e2 v2' l2 ∧ Go.Sym.GStep h h' S ∧ Own hb [A, .slc s1 w1 (L1 ++ [v1']), .slc s2 w2 (L2 ++ [v2'])] h' := by
  let Sg : Nat → Prop := fun q => nameOf v1 q ∨ nameOf v2 q
  obtain ⟨v1', h1, x1⟩ := W.lit (i := 3) rfl (S := Sg) (fun _ h => .inl h) (Lits.refl l1)
  obtain ⟨v2', h2, x2⟩ := W.lit (i := 4) rfl (S := Sg) (fun _ h => .inr h) (Lits.refl l2)
  have no : ∀ (j : Nat) (y : Ow), j < 3 → [A, .slc s1 w1 (L1 ++ [v1]), .slc s2 w2 (L2 ++ [v2]), .slc e1 v1 l1, .slc e2 v2 l2][j]? = some y → ∀ q, y.nm q → ¬ Sg q := fun j y hj hy q hn hs => by
    rcases hs with hs | hs
    · have := W.one j 3 y _ q hy rfl hn hs; omega
    · have := W.one j 4 y _ q hy rfl hn hs; omega
  obtain ⟨h', g, W'⟩ := W.step Sg [A, .slc s1 w1 (L1 ++ [v1']), .slc s2 w2 (L2 ++ [v2'])] (fun q hq => by
    rcases hq with hq | hq
    · exact W.new 3 _ q rfl hq
    · exact W.new 4 _ q rfl hq) (fun j y' hj => by
    match j, hj with
    | 0, hj => cases hj; exact ⟨_, rfl, W.fit 0 _ rfl, fun q hq => ⟨hq, no 0 _ (by omega) rfl q hq⟩, .refl _⟩
    | 1, hj =>
      cases hj
      refine ⟨_, rfl, ?_, fun q hq => ⟨hq, no 1 _ (by omega) rfl q hq⟩, .row (Lits.snoc L1 h1)⟩
      have := W.fit 1 _ rfl
      simpa [Ow.fit] using this
    | 2, hj =>
      cases hj
      refine ⟨_, rfl, ?_, fun q hq => ⟨hq, no 2 _ (by omega) rfl q hq⟩, .row (Lits.snoc L2 h2)⟩
      have := W.fit 2 _ rfl
      simpa [Ow.fit] using this
    | j + 3, hj => simp at hj)
  exact ⟨Sg, h', v1', v2', x1, x2, g, W'⟩

/- ---------------- order ---------------- -/
def orderB (L : List (List Bool)) : Bool := decide (1 ≤ L.length) && decide (L.length ≤ 64) && L.all (fun row => row.length == L.length) && ordP L.length (at2 L)
def ordQ (n : Nat) (r : Nat → Nat → Bool) (x y : Nat) : Bool := (x != y || r x x) && ordY n r x y
theorem ordQ_no {x y : Nat} (hx : x < n) (hy : y < n) (h : ordQ n r x y = false) : ordP n r = false := by
  rw [ordP_eq]
  refine all_not hx ?_
  unfold ordX
  unfold ordQ at h
  cases e : ordY n r x y with
  | false => rw [all_not hy e, Bool.and_false]
  | true =>
    rw [e, Bool.and_true] at h
    simp at h
    rw [h.2, Bool.false_and]
theorem ordQ_yes (h : ∀ x y, x < n → y < n → ordQ n r x y = true) : ordP n r = true := by
  rw [ordP_eq]
  refine all_of fun x hx => ?_
  unfold ordX
  rw [Bool.and_eq_true]
  refine ⟨?_, all_of fun y hy => ?_⟩
  · have := h x x hx hx
    unfold ordQ at this
    rw [Bool.and_eq_true] at this
    simpa using this.1
  · have := h x y hx hy
    unfold ordQ at this
    rw [Bool.and_eq_true] at this
    exact this.2
section
variable {v : AVal} {L : List (List Bool)} (hv : Boolss v L) (hs : Sq L) (hn : L.length ≤ 64)
include hv hs hn
theorem orderD_l6 {x y : Nat} (hx : x < L.length) (hy : y < L.length) {L3 : s86l3_T} {L4 : s86l4_T} (no : ∀ z, z < L.length → ordZ (at2 L) x y z = false → K (.bool false) h)
    (yes : (∀ z, z < L.length → ordZ (at2 L) x y z = true) → L4 v L.length (x : Int) ((y : Int) + 1) h) : ∀ d z : Nat, z + d = L.length → (∀ z', z' < z → ordZ (at2 L) x y z' = true) →
    s86l6 K L3 L4 (d + 1) v L.length (x : Int) (y : Int) (z : Int) h
  | 0, z, hd, hb => by
    unfold s86l6
    exact ifT_neg (by simp; omega) (rg_of (by omega) (by omega) (yes fun z' hz' => hb z' (by omega)))
  | d + 1, z, hd, hb => by
    have next : ordZ (at2 L) x y z = true → s86c7 K L3 L4 (s86l6_G (s86l6 K L3 L4 (d + 1))) v L.length (x : Int) (y : Int) (z : Int) false h := fun e => by
      unfold s86c7
      refine ifT_neg rfl (rg_of (by omega) (by omega) (s86l6_go (orderD_l6 hx hy no yes d (z + 1) (by omega) fun z' hz' => ?_)))
      by_cases e2 : z' = z
      · rw [e2]; exact e
      · exact hb z' (by omega)
    obtain ⟨ex, a1, _, a2⟩ := hv.rd hs hx
    obtain ⟨ey, b1, _, b2⟩ := hv.rd hs hy
    unfold s86l6
    refine ifT_pos (by simp; omega) ?_
    rw [a1, a2 y hy, tBool_bool]
    cases e1 : at2 L x y with
    | false => exact ifT_neg rfl (next (by simp [ordZ, e1]))
    | true =>
      refine ifT_pos rfl ?_
      rw [b1, b2 z (by omega), tBool_bool]
      cases e2 : at2 L y z with
      | false => exact ifT_neg rfl (next (by simp [ordZ, e2]))
      | true =>
        refine ifT_pos rfl ?_
        rw [a1, a2 z (by omega), tBool_bool]
        cases e3 : at2 L x z with
        | true => exact next (by simp [ordZ, e3])
        | false =>
          unfold s86c7
          exact ifT_pos rfl (retG_of (no z (by omega) (by simp [ordZ, e1, e2, e3])))
theorem orderD_l4 {x : Nat} (hx : x < L.length) {L3 : s86l3_T} (no : ∀ y, y < L.length → ordQ L.length (at2 L) x y = false → K (.bool false) h)
    (yes : (∀ y, y < L.length → ordQ L.length (at2 L) x y = true) → L3 v L.length ((x : Int) + 1) h) : ∀ d y : Nat, y + d = L.length → (∀ y', y' < y → ordQ L.length (at2 L) x y' = true) →
    s86l4 K L3 (d + 1) v L.length (x : Int) (y : Int) h
  | 0, y, hd, hb => by
    unfold s86l4
    exact ifT_neg (by simp; omega) (rg_of (by omega) (by omega) (yes fun z' hz' => hb z' (by omega)))
  | d + 1, y, hd, hb => by
    have hy : y < L.length := by omega
    have bad : ordQ L.length (at2 L) x y = false → s86c5 K L3 (s86l4_G (s86l4 K L3 (d + 1))) v L.length (x : Int) (y : Int) true h := fun e => by
      unfold s86c5
      exact ifT_pos rfl (retG_of (no y hy e))
    have next : (x != y || at2 L x x) = true → ((x != y) && at2 L x y && at2 L y x) = false → s86c5 K L3 (s86l4_G (s86l4 K L3 (d + 1))) v L.length (x : Int) (y : Int) false h := fun e0 e => by
      unfold s86c5
      refine ifT_neg rfl (s86l6_in (L.length + 1) (orderD_l6 hv hs hn hx hy (fun z hz ez => no y hy ?_) (fun hall => ?_) L.length 0 (by omega) (fun z' hz' => by omega)))
      · unfold ordQ ordY; rw [all_not hz ez, Bool.and_false, Bool.and_false]
      · refine s86l4_go (orderD_l4 hx no yes d (y + 1) (by omega) fun y' hy' => ?_)
        by_cases e2 : y' = y
        · subst e2
          unfold ordQ ordY
          rw [e, e0, all_of hall]; rfl
        · exact hb y' (by omega)
    obtain ⟨ex, a1, _, a2⟩ := hv.rd hs hx
    obtain ⟨ey, b1, _, b2⟩ := hv.rd hs hy
    unfold s86l4
    refine ifT_pos (by simp; omega) ?_
    by_cases exy : x = y
    · subst exy
      refine ifT_pos (by simp) ?_
      rw [a1, a2 x hx, tBool_bool]
      cases e1 : at2 L x x with
      | false => exact ifT_pos rfl (bad (by unfold ordQ; simp [e1]))
      | true =>
        refine ifT_neg rfl (ifT_neg (by simp) (next (by simp [e1]) (by simp)))
    · refine ifT_neg (by simp; omega) (ifT_pos (by simp; omega) ?_)
      rw [a1, a2 y hy, tBool_bool]
      have e0 : (x != y || at2 L x x) = true := by simp [exy]
      cases e1 : at2 L x y with
      | false => exact ifT_neg rfl (next e0 (by simp [e1]))
      | true =>
        refine ifT_pos rfl ?_
        rw [b1, b2 x hx, tBool_bool]
        cases e2 : at2 L y x with
        | false => exact next e0 (by simp [e2])
        | true => exact bad (by unfold ordQ ordY; simp [exy, e1, e2])
theorem orderD_l3 (no : ordP L.length (at2 L) = false → K (.bool false) h) (yes : ordP L.length (at2 L) = true → K (.bool true) h) : ∀ d x : Nat, x + d = L.length → (∀ x' y, x' < x → y < L.length → ordQ L.length (at2 L) x' y = true) →
    s86l3 K (d + 1) v L.length (x : Int) h
  | 0, x, hd, hb => by
    unfold s86l3
    exact ifT_neg (by simp; omega) (retG_of (yes (ordQ_yes fun x' y hx' hy => hb x' y (by omega) hy)))
  | d + 1, x, hd, hb => by
    unfold s86l3
    refine ifT_pos (by simp; omega) (s86l4_in (L.length + 1) (orderD_l4 hv hs hn (by omega) (fun y hy e => no (ordQ_no (by omega) hy e)) (fun hall => ?_) L.length 0 (by omega) (fun y' hy' => by omega)))
    refine s86l3_go (orderD_l3 no yes d (x + 1) (by omega) fun x' y hx' hy => ?_)
    by_cases e2 : x' = x
    · rw [e2]; exact hall y hy
    · exact hb x' y (by omega) hy
end
theorem orderD_l2 {v : AVal} {L : List (List Bool)} (hv : Boolss v L) (hn : L.length ≤ 64) (no : (L.all fun row => row.length == L.length) = false → K (.bool false) h) (yes : Sq L → s86l3_E (s86l3 K) v L.length 0 h) :
    ∀ d x : Nat, x + d = L.length → (∀ row ∈ L.take x, row.length = L.length) → s86l2 K (d + 1) v L.length (x : Int) h
  | 0, x, hd, hb => by
    unfold s86l2
    rw [List.take_of_length_le (by omega)] at hb
    exact ifT_neg (by simp; omega) (yes hb)
  | d + 1, x, hd, hb => by
    have hx : x < L.length := by omega
    unfold s86l2
    refine ifT_pos (by simp; omega) ?_
    obtain ⟨e, he, hix⟩ := hv.ix hx
    rw [hix, ld1_lptr, he.len]
    by_cases el : L[x].length = L.length
    · refine ifT_neg (by simp [el]) (rg_of (by omega) (by omega) (s86l2_go (orderD_l2 hv hn no yes d (x + 1) (by omega) ?_)))
      rw [List.take_succ_eq_append_getElem hx]
      intro s hs
      rcases List.mem_append.1 hs with hs | hs
      · exact hb s hs
      · simp at hs; rw [hs, el]
    · refine ifT_pos (by simp; omega) (retG_of (no ?_))
      rw [List.all_eq_false]
      exact ⟨_, List.getElem_mem hx, by simpa using el⟩
theorem orderD_ok {v : AVal} {L : List (List Bool)} (hv : Boolss v L) (hk : K (.bool (orderB L)) h) : ACalls prog 86 [v] h K := by
  refine s86_ok ?_
  unfold s86
  rw [hv.len]
  unfold orderB at hk
  have bad : orderB L = false → s86c1 K v L.length true h := fun e => by
    unfold orderB at e
    rw [e] at hk
    unfold s86c1
    exact ifT_pos rfl (retG_of hk)
  by_cases c1 : (L.length : Int) < 1
  · exact ifT_pos (by simpa using c1) (bad (by unfold orderB; rw [decide_eq_false (show ¬ 1 ≤ L.length by omega)]; rfl))
  refine ifT_neg (by simpa using c1) ?_
  by_cases c2 : (64 : Int) < L.length
  · rw [decide_eq_true c2]
    exact bad (by unfold orderB; rw [decide_eq_false (show ¬ L.length ≤ 64 by omega)]; simp)
  rw [decide_eq_false c2]
  rw [decide_eq_true (show 1 ≤ L.length by omega), decide_eq_true (show L.length ≤ 64 by omega)] at hk
  simp only [Bool.true_and] at hk
  unfold s86c1
  refine ifT_neg rfl (s86l2_in (L.length + 1) (orderD_l2 hv (by omega) (fun e => ?_) (fun hs => s86l3_in (L.length + 1) (orderD_l3 hv hs (by omega) (fun e => ?_) (fun e => ?_) L.length 0 (by omega) fun x' y hx' => by omega)) L.length 0 (by omega) (by simp)))
  · rwa [e, Bool.false_and] at hk
  · rwa [e, Bool.and_false] at hk
  · rwa [e, sq_all.2 hs] at hk

/- ---------------- best ---------------- -/
def pD (r : Nat → Nat → Bool) (down : Bool) (x y z : Nat) : Bool := if down then r z x && r z y else r x z && r y z
def ovD (r : Nat → Nat → Bool) (down : Bool) (z w : Nat) : Bool := if down then r w z else r z w
def bestO (n : Nat) (r : Nat → Nat → Bool) (down : Bool) (x y : Nat) : Option Nat := if down then meetO n r x y else joinO n r x y
theorem bestO_eq (down : Bool) (x y : Nat) : bestO n r down x y = bestP n (pD r down x y) (ovD r down) := by
  unfold bestO meetO joinO pD ovD
  cases down <;> rfl
def optI (o : Option Nat) : Int := match o with
  | some z => (z : Int)
  | none => -1
section
variable {v : AVal} {L : List (List Bool)} (hv : Boolss v L) (hs : Sq L) (hn : L.length ≤ 64) {x y : Nat} (hx : x < L.length) (hy : y < L.length) {down : Bool}
include hv hs hx hy
theorem withinD_ok {z : Nat} (hz : z < L.length) (hk : K (.bool (pD (at2 L) down x y z)) h) : ACalls prog 118 [v, .int .i64 (z : Int), .int .i64 (x : Int), .int .i64 (y : Int), .bool down] h K := by
  refine s118_ok ?_
  unfold s118
  obtain ⟨ez, a1, _, a2⟩ := hv.rd hs hz
  obtain ⟨ex, b1, _, b2⟩ := hv.rd hs hx
  obtain ⟨ey, c1, _, c2⟩ := hv.rd hs hy
  unfold pD at hk
  cases down with
  | true =>
    rw [if_pos rfl] at hk
    refine ifT_pos rfl ?_
    rw [a1, a2 x hx, tBool_bool]
    cases e : at2 L z x with
    | false => exact ifT_neg rfl (retG_of (by rwa [e, Bool.false_and] at hk))
    | true =>
      refine ifT_pos rfl ?_
      rw [a1, a2 y hy, tBool_bool]
      exact retG_of (by rwa [e, Bool.true_and] at hk)
  | false =>
    rw [if_neg (by decide)] at hk
    refine ifT_neg rfl ?_
    rw [b1, b2 z hz, tBool_bool]
    cases e : at2 L x z with
    | false => exact ifT_neg rfl (retG_of (by rwa [e, Bool.false_and] at hk))
    | true =>
      refine ifT_pos rfl ?_
      rw [c1, c2 z hz, tBool_bool]
      exact retG_of (by rwa [e, Bool.true_and] at hk)
omit hv hs hx hy in
theorem topW_mono {p : Nat → Bool} {ov : Nat → Nat → Bool} {z w n : Nat} (hw : w ≤ n) (h : topW p ov z w = false) : topW p ov z n = false := by
  unfold topW at h ⊢
  rw [List.all_eq_false] at h ⊢
  obtain ⟨u, hu, h⟩ := h
  exact ⟨u, List.mem_range.2 (Nat.lt_of_lt_of_le (List.mem_range.1 hu) hw), h⟩
include hn
theorem bestD_l2 {z : Nat} (hz : z < L.length) {L1 : s87l1_T} (yes : topB L.length (pD (at2 L) down x y) (ovD (at2 L) down) z = true → K (.int .i64 (z : Int)) h) (no : topB L.length (pD (at2 L) down x y) (ovD (at2 L) down) z = false → L1 v (x : Int) (y : Int) down ((z : Int) + 1) h) :
    ∀ d w : Nat, w + d = L.length → s87l2 K L1 (d + 1) v (x : Int) (y : Int) down (z : Int) (pD (at2 L) down x y z && topW (pD (at2 L) down x y) (ovD (at2 L) down) z w) (w : Int) h
  | 0, w, hd => by
    obtain rfl : w = L.length := by omega
    unfold s87l2
    rw [hv.len]
    refine ifT_neg (by simp) ?_
    unfold s87c3
    refine ifT_neg rfl ?_
    cases e : (pD (at2 L) down x y z && topW (pD (at2 L) down x y) (ovD (at2 L) down) z L.length) with
    | true => exact ifT_pos rfl (retG_of (yes e))
    | false => exact ifT_neg rfl (rg_of (by omega) (by omega) (no e))
  | d + 1, w, hd => by
    unfold s87l2
    rw [hv.len]
    refine ifT_pos (by simp; omega) ?_
    unfold s87c3
    cases e : (pD (at2 L) down x y z && topW (pD (at2 L) down x y) (ovD (at2 L) down) z w) with
    | false =>
      refine ifT_neg rfl (ifT_neg rfl (rg_of (by omega) (by omega) (no ?_)))
      unfold topB
      rw [Bool.and_eq_false_iff] at e ⊢
      rcases e with e | e
      · exact .inl e
      · exact .inr (topW_mono (by omega) e)
    | true =>
      have next : s87c4 K L1 (s87l2_G (s87l2 K L1 (d + 1))) v (x : Int) (y : Int) down (z : Int) (pD (at2 L) down x y z && topW (pD (at2 L) down x y) (ovD (at2 L) down) z (w + 1)) (w : Int) h := by
        unfold s87c4
        exact rg_of (by omega) (by omega) (s87l2_go (bestD_l2 hz yes no d (w + 1) (by omega)))
      rw [topW_succ, ← Bool.and_assoc, e, Bool.true_and] at next
      refine ifT_pos rfl (callG_of (withinD_ok hv hs hx hy (z := w) (by omega) ?_))
      rw [tBool_bool]
      cases e1 : pD (at2 L) down x y w with
      | false =>
        rw [e1] at next
        exact ifT_neg rfl next
      | true =>
        rw [e1] at next
        refine ifT_pos rfl ?_
        obtain ⟨ez, a1, _, a2⟩ := hv.rd hs hz
        obtain ⟨ew, b1, _, b2⟩ := hv.rd hs (x := w) (by omega)
        unfold ovD at next
        cases down with
        | true =>
          refine ifT_pos rfl ?_
          rw [b1, b2 z hz, tBool_bool]
          simpa using next
        | false =>
          refine ifT_neg rfl ?_
          rw [a1, a2 w (by omega), tBool_bool]
          simpa using next
theorem bestD_l1 : ∀ d z : Nat, z + d = L.length → K (.int .i64 (optI (bestFrom (pD (at2 L) down x y) (ovD (at2 L) down) L.length z d))) h → s87l1 K (d + 1) v (x : Int) (y : Int) down (z : Int) h
  | 0, z, hd, hk => by
    unfold s87l1
    rw [hv.len]
    exact ifT_neg (by simp; omega) (retG_of hk)
  | d + 1, z, hd, hk => by
    unfold bestFrom at hk
    rw [List.range'_succ, List.find?_cons] at hk
    unfold s87l1
    rw [hv.len]
    refine ifT_pos (by simp; omega) (callG_of (withinD_ok hv hs hx hy (z := z) (by omega) ?_))
    rw [tBool_bool]
    have e0 : pD (at2 L) down x y z = (pD (at2 L) down x y z && topW (pD (at2 L) down x y) (ovD (at2 L) down) z 0) := by
      show _ = (_ && true)
      rw [Bool.and_true]
    refine s87l2_in (L.length + 1) ?_
    rw [e0]
    refine bestD_l2 hv hs hn hx hy (by omega) (fun e => ?_) (fun e => ?_) L.length 0 (by omega)
    · rw [e] at hk; exact hk
    · rw [e] at hk
      exact s87l1_go (bestD_l1 d (z + 1) (by omega) hk)
theorem bestD_ok (hk : K (.int .i64 (optI (bestO L.length (at2 L) down x y))) h) : ACalls prog 87 [v, .int .i64 (x : Int), .int .i64 (y : Int), .bool down] h K := by
  rw [bestO_eq, best_from] at hk
  refine s87_ok ?_
  unfold s87
  exact s87l1_in (L.length + 1) (bestD_l1 hv hs hn hx hy L.length 0 (by omega) hk)
end

/- ---------------- Of ---------------- -/
/-- the memory of an algebra that is made -/
abbrev HM (hb : Heap) (q : Nat) (a vM vJ : AVal) (LM LJ : List AVal) (os : List Ow) (h : Heap) : Prop := Own hb ([.cell q (.row 3 [.agg [a, vM, vJ]]), .slc 1 vM LM, .slc 1 vJ LJ] ++ os) h
theorem tabsP_eq : tabsP n r = (List.range n).all fun x => (List.range n).all fun y => tabB n r x y := rfl
section
variable {a : AVal} {L : List (List Bool)} (hv : Boolss a L) (hs : Sq L) (hn : L.length ≤ 64) (h1 : 1 ≤ L.length) (hsa : sc a = true) {q : Nat}
include hv hs hn h1
theorem of_l2 {x : Nat} (hx : x < L.length) {L1 : s39l1_T} {LM LJ : List AVal} (hLM : LM.length ≤ 64) (hLJ : LJ.length ≤ 64) {vM vJ : AVal} (no : ∀ y, y < L.length → tabB L.length (at2 L) x y = false → K (.tuple [.nilptr, .bool false]) hb)
    (yes : (∀ y, y < L.length → tabB L.length (at2 L) x y = true) → ∀ vM' vJ' em ej h', Ints em (natI (mRow L.length (at2 L) x)) → Ints ej (natI (jRow L.length (at2 L) x)) → HM hb q a vM' vJ' (LM ++ [em]) (LJ ++ [ej]) [] h' → L1 a L.length (.ptr q 0 0) ((x : Int) + 1) h') :
    ∀ d y : Nat, y + d = L.length → (∀ y', y' < y → tabB L.length (at2 L) x y' = true) → ∀ met join h, HM hb q a vM vJ LM LJ [.slc 1 met ((natI ((mRow L.length (at2 L) x).take y)).map (.int .i64)), .slc 1 join ((natI ((jRow L.length (at2 L) x).take y)).map (.int .i64))] h →
      s39l2 K (s39l1_G L1) (d + 1) a L.length (.ptr q 0 0) (x : Int) met join (y : Int) h
  | 0, y, hd, hb', met, join, h, W => by
    obtain rfl : y = L.length := by omega
    have lm : (mRow L.length (at2 L) x).length = L.length := by simp [mRow]
    have lj : (jRow L.length (at2 L) x).length = L.length := by simp [jRow]
    rw [List.take_of_length_le (by omega), List.take_of_length_le (by omega)] at W
    unfold s39l2
    refine ifT_neg (by simp) ?_
    rw [nilCheckA_ptr, addOff_ptr, ld1_fld (W.get 0 _ q rfl rfl) rfl]
    refine chk_iff.2 ⟨(W.sc (i := 3) rfl).1, W.app (i := 1) rfl (by omega) (by omega) fun v2 h2 W2 => ?_⟩
    rw [nilCheckA_ptr, addOff_ptr]
    refine chk_iff.2 ⟨(W2.sc (i := 1) rfl).1, st_fld (W2.get 0 _ q rfl rfl) (by simp) ?_⟩
    have W3 : HM hb q a v2 vJ (LM ++ [met]) LJ _ _ := W2.put (i := 0) rfl (.row 3 [.agg [a, v2, vJ]])
    show nilCheckA (.ptr q 0 0) fun p4 => addOff p4 2 fun p5 => ld1 (h2.set q (.row 3 [.agg [a, v2, vJ]])) p5 _
    rw [nilCheckA_ptr, addOff_ptr, ld1_fld (W3.get 0 _ q rfl rfl) rfl]
    refine chk_iff.2 ⟨(W3.sc (i := 4) rfl).1, W3.app (i := 2) rfl (by omega) (by omega) fun v3 h3 W4 => ?_⟩
    rw [nilCheckA_ptr, addOff_ptr]
    refine chk_iff.2 ⟨(W4.sc (i := 2) rfl).1, st_fld (W4.get 0 _ q rfl rfl) (by simp) (rg_of (by omega) (by omega) ?_)⟩
    have W5 : HM hb q a v2 v3 (LM ++ [met]) (LJ ++ [join]) _ _ := W4.put (i := 0) rfl (.row 3 [.agg [a, v2, v3]])
    obtain ⟨S, h', em, ej, x1, x2, g, W6⟩ := Own.settle2 W5
    exact ⟨S, _, h', Lits.refl _, g, rfl, yes (fun y' hy' => hb' y' hy') v2 v3 em ej h' x1 x2 W6⟩
  | d + 1, y, hd, hb', met, join, h, W => by
    have hy : y < L.length := by omega
    have lm : (mRow L.length (at2 L) x).length = L.length := by simp [mRow]
    have lj : (jRow L.length (at2 L) x).length = L.length := by simp [jRow]
    unfold s39l2
    refine ifT_pos (by simp; omega) (callG_of (bestD_ok hv hs hn hx hy (down := true) ?_))
    rw [tInt_int]
    refine callG_of (bestD_ok hv hs hn hx hy (down := false) ?_)
    rw [tInt_int]
    have bad : ∀ m j : Int, tabB L.length (at2 L) x y = false → s39c3 K (s39l1_G L1) (s39l2_G (s39l2 K (s39l1_G L1) (d + 1))) a L.length (.ptr q 0 0) (x : Int) met join (y : Int) m j true h := fun m j e => by
      unfold s39c3
      exact ifT_pos rfl (retG_drop W.old (no y hy e))
    show ifT (decide (optI (meetO L.length (at2 L) x y) < 0)) _ (s39c3 K _ _ a L.length (.ptr q 0 0) (x : Int) met join (y : Int) (optI (meetO L.length (at2 L) x y)) (optI (joinO L.length (at2 L) x y)) (decide (optI (joinO L.length (at2 L) x y) < 0)) h)
    cases e1 : meetO L.length (at2 L) x y with
    | none => exact ifT_pos rfl (bad _ _ (by unfold tabB; rw [e1]; rfl))
    | some m =>
      refine ifT_neg (decide_eq_false (show ¬ ((m : Int) < 0) by omega)) ?_
      cases e2 : joinO L.length (at2 L) x y with
      | none => exact bad _ _ (by unfold tabB; rw [e2]; simp)
      | some j =>
        have et : tabB L.length (at2 L) x y = true := by unfold tabB; rw [e1, e2]; rfl
        have em : (mRow L.length (at2 L) x)[y]? = some m := by unfold mRow; rw [range_get _ hy]; unfold mt; rw [e1]; rfl
        have ej : (jRow L.length (at2 L) x)[y]? = some j := by unfold jRow; rw [range_get _ hy]; unfold jn; rw [e2]; rfl
        rw [show decide (optI (some j) < 0) = false from decide_eq_false (show ¬ ((j : Int) < 0) by omega)]
        unfold s39c3
        refine ifT_neg rfl (W.app (i := 3) rfl (by simp [natI]; omega) (by simp [natI]; omega) fun v2 h2 W2 => W2.app (i := 4) rfl (by simp [natI]; omega) (by simp [natI]; omega) fun v3 h3 W3 => rg_of (by omega) (by omega) (s39l2_go ?_))
        refine of_l2 (vM := vM) (vJ := vJ) hx hLM hLJ no yes d (y + 1) (by omega) (fun y' hy' => ?_) v2 v3 h3 ?_
        · by_cases e3 : y' = y
          · rw [e3]; exact et
          · exact hb' y' (by omega)
        · rw [List.take_add_one, List.take_add_one, em, ej]
          have e4 : ∀ (l : List Nat) (m : Nat), (natI (l ++ (some m).toList)).map (AVal.int .i64) = (natI l).map (AVal.int .i64) ++ [AVal.int .i64 (m : Int)] := fun l m => by simp [natI]
          rw [e4, e4]
          exact W3
end
end Go.Proofs.YtljglglbfcgjpaaGreat

namespace Go.Proofs.YtljglglbfcgjpaaGreat
open Go Go.Sym Go.Proofs.Tryz

variable {K : AVal → Heap → Prop} {h h0 hb : Heap} {n : Nat} {r : Nat → Nat → Bool} {f : AVal}

theorem nilCk_lptr (l : List AVal) (X : AVal → Prop) : nilCheckA (.lptr l) X = X (.lptr l) := rfl
theorem eqQ_boolR {p q : Bool} {X : Bool → Prop} (hx : X (p == q)) : eqQ prog 4 (.bool p) (.bool q) X := by
  have e : eqT prog 8 4 (.bool p) (.bool q) = some (p == q) := by cases p <;> cases q <;> kernel_rfl
  refine ⟨trivial, ?_⟩
  rw [e]
  exact hx
/-- the document's algebra, as plain data -/
structure HP (v : AVal) (L : List (List Bool)) (a vM vJ : AVal) : Prop where
  e : v = .lptr [a, vM, vJ]
  a : Boolss a L
  m : Intss vM (mTab L.length (at2 L))
  j : Intss vJ (jTab L.length (at2 L))

section
variable {v a vM vJ : AVal} {L : List (List Bool)} (H : HP v L a vM vJ) (hs : Sq L) (hn : L.length ≤ 64) (h1 : 1 ≤ L.length)
include H hs hn h1
theorem of_l6 {x y : Nat} (hx : x < L.length) (hy : y < L.length) {L4 : s39l4_T} {L5 : s39l5_T} (no : ∀ z, z < L.length → distB L.length (at2 L) x y z = false → K (.tuple [.nilptr, .bool false]) h)
    (yes : (∀ z, z < L.length → distB L.length (at2 L) x y z = true) → L5 L.length v (x : Int) ((y : Int) + 1) h) : ∀ d z : Nat, z + d = L.length → (∀ z', z' < z → distB L.length (at2 L) x y z' = true) →
    s39l6 K L4 L5 (d + 1) L.length v (x : Int) (y : Int) (z : Int) h
  | 0, z, hd, hb => by
    unfold s39l6
    exact ifT_neg (by simp; omega) (rg_of (by omega) (by omega) (yes fun z' hz' => hb z' (by omega)))
  | d + 1, z, hd, hb => by
    have _ := hs
    have hz : z < L.length := by omega
    obtain ⟨em, m1, m2⟩ := tab_rd (c := mt L.length (at2 L)) H.m hx
    obtain ⟨ej, j1, j2⟩ := tab_rd (c := jn L.length (at2 L)) H.j hy
    obtain ⟨ek, k1, k2⟩ := tab_rd (c := jn L.length (at2 L)) H.j (mt_lt (r := at2 L) h1 x y)
    have next := fun e : distB L.length (at2 L) x y z = true => of_l6 hx hy (L4 := L4) no yes d (z + 1) (by omega) fun z' hz' => by
      by_cases e2 : z' = z
      · rw [e2]; exact e
      · exact hb z' (by omega)
    have hno := no z hz
    obtain ⟨rfl, _, _, _⟩ := H
    unfold s39l6
    refine ifT_pos (by simp; omega) ?_
    simp only [nilCk_lptr, addOff_lptr, List.drop_succ_cons, List.drop_zero, ld1_lptr]
    rw [m1, j1, j2 z hz, tInt_int, m2 _ (jn_lt h1 _ _), tInt_int, m1, m2 y hy, tInt_int, k1, m1, m2 z hz, tInt_int, k2 _ (mt_lt h1 _ _), tInt_int]
    cases e : distB L.length (at2 L) x y z with
    | false =>
      refine ifT_pos ?_ (retG_of (hno e))
      unfold distB at e
      simp at e ⊢
      omega
    | true =>
      refine ifT_neg ?_ (rg_of (by omega) (by omega) (s39l6_go (next e)))
      unfold distB at e
      simp at e ⊢
      omega
theorem of_l5 {x : Nat} (hx : x < L.length) {L4 : s39l4_T} (no : ∀ y z, y < L.length → z < L.length → distB L.length (at2 L) x y z = false → K (.tuple [.nilptr, .bool false]) h)
    (yes : (∀ y z, y < L.length → z < L.length → distB L.length (at2 L) x y z = true) → L4 L.length v ((x : Int) + 1) h) : ∀ d y : Nat, y + d = L.length → (∀ y' z, y' < y → z < L.length → distB L.length (at2 L) x y' z = true) →
    s39l5 K L4 (d + 1) L.length v (x : Int) (y : Int) h
  | 0, y, hd, hb => by
    unfold s39l5
    exact ifT_neg (by simp; omega) (rg_of (by omega) (by omega) (yes fun y' z' hy' hz' => hb y' z' (by omega) hz'))
  | d + 1, y, hd, hb => by
    unfold s39l5
    refine ifT_pos (by simp; omega) (s39l6_in (L.length + 1) (of_l6 H hs hn h1 hx (by omega) (fun z hz e => no y z (by omega) hz e) (fun hall => ?_) L.length 0 (by omega) (fun z' hz' => by omega)))
    refine s39l5_go (of_l5 hx no yes d (y + 1) (by omega) fun y' z hy' hz => ?_)
    by_cases e2 : y' = y
    · rw [e2]; exact hall z hz
    · exact hb y' z (by omega) hz
theorem of_l4 (no : distP L.length (at2 L) = false → K (.tuple [.nilptr, .bool false]) h) (yes : distP L.length (at2 L) = true → K (.tuple [v, .bool true]) h) : ∀ d x : Nat, x + d = L.length → (∀ x' y z, x' < x → y < L.length → z < L.length → distB L.length (at2 L) x' y z = true) →
    s39l4 K (d + 1) L.length v (x : Int) h
  | 0, x, hd, hb => by
    unfold s39l4
    refine ifT_neg (by simp; omega) (retG_of (yes ?_))
    unfold distP
    exact all_of fun x' hx' => all_of fun y hy => all_of fun z hz => hb x' y z (by omega) hy hz
  | d + 1, x, hd, hb => by
    unfold s39l4
    refine ifT_pos (by simp; omega) (s39l5_in (L.length + 1) (of_l5 H hs hn h1 (by omega) (fun y z hy hz e => no ?_) (fun hall => ?_) L.length 0 (by omega) (fun y' z hy' => by omega)))
    · unfold distP
      exact all_not (x := x) (by omega) (all_not hy (all_not hz e))
    · refine s39l4_go (of_l4 no yes d (x + 1) (by omega) fun x' y z hx' hy hz => ?_)
      by_cases e2 : x' = x
      · rw [e2]; exact hall y z hy hz
      · exact hb x' y z (by omega) hy hz
end
section
variable {a : AVal} {L : List (List Bool)} (hv : Boolss a L) (hs : Sq L) (hn : L.length ≤ 64) (h1 : 1 ≤ L.length) {q : Nat}
include hv hs hn h1
theorem of_l1 (bad : tabsP L.length (at2 L) = false → K (.tuple [.nilptr, .bool false]) hb) (no : distP L.length (at2 L) = false → K (.tuple [.nilptr, .bool false]) hb)
    (yes : tabsP L.length (at2 L) = true → distP L.length (at2 L) = true → ∀ v vM vJ, HP v L a vM vJ → K (.tuple [v, .bool true]) hb) : ∀ d x : Nat, x + d = L.length → (∀ x', x' < x → ∀ y, y < L.length → tabB L.length (at2 L) x' y = true) →
    ∀ vM vJ LM LJ h, All2 Ints LM ((mTab L.length (at2 L)).take x) → All2 Ints LJ ((jTab L.length (at2 L)).take x) → HM hb q a vM vJ LM LJ [] h → s39l1 K (d + 1) a L.length (.ptr q 0 0) (x : Int) h
  | 0, x, hd, hb', vM, vJ, LM, LJ, h, aM, aJ, W => by
    obtain rfl : x = L.length := by omega
    have et : tabsP L.length (at2 L) = true := all_of fun x' hx' => all_of fun y hy => hb' x' hx' y hy
    have lm : (mTab L.length (at2 L)).length = L.length := by simp [mTab]
    have lj : (jTab L.length (at2 L)).length = L.length := by simp [jTab]
    rw [List.take_of_length_le (by omega)] at aM aJ
    unfold s39l1
    refine ifT_neg (by simp) ?_
    let Sg : Nat → Prop := fun k => k = q ∨ nameOf vM k ∨ nameOf vJ k
    obtain ⟨m', l1, s1⟩ := W.lit (i := 1) rfl (S := Sg) (fun k hk => .inr (.inl hk)) (Lits.refl LM)
    obtain ⟨j', l2, s2⟩ := W.lit (i := 2) rfl (S := Sg) (fun k hk => .inr (.inr hk)) (Lits.refl LJ)
    have H : HP (.lptr [a, m', j']) L a m' j' := ⟨rfl, hv, ⟨_, s1, aM⟩, ⟨_, s2, aJ⟩⟩
    refine ⟨Sg, _, hb, .cons (.refl _) (.cons (.ptr (.inl rfl) (W.get 0 _ q rfl rfl) rfl (.cons (.refl _) (.cons l1 (.cons l2 .nil)))) (.cons (.refl _) .nil)), base_step W Sg (fun k hk => ?_), rfl, L.length + 1, ?_⟩
    · rcases hk with hk | hk | hk
      · exact W.new 0 _ k rfl hk
      · exact W.new 1 _ k rfl hk
      · exact W.new 2 _ k rfl hk
    · exact of_l4 H hs hn h1 no (fun e => yes et e _ _ _ H) L.length 0 (by omega) fun x' y z hx' => by omega
  | d + 1, x, hd, hb', vM, vJ, LM, LJ, h, aM, aJ, W => by
    have hx : x < L.length := by omega
    have lm : LM.length ≤ 64 := by have := aM.length; rw [List.length_take] at this; omega
    have lj : LJ.length ≤ 64 := by have := aJ.length; rw [List.length_take] at this; omega
    have gm : (mTab L.length (at2 L))[x]? = some (natI (mRow L.length (at2 L) x)) := range_get _ hx
    have gj : (jTab L.length (at2 L))[x]? = some (natI (jRow L.length (at2 L) x)) := range_get _ hx
    unfold s39l1
    refine ifT_pos (by simp; omega) (s39l2_in (L.length + 1) (of_l2 (vM := vM) (vJ := vJ) hv hs hn h1 hx lm lj (fun y hy e => bad (all_not hx (all_not hy e))) (fun hall vM' vJ' em ej h' x1 x2 W' => ?_) L.length 0 (by omega) (fun y' hy' => by omega) .nilsl .nilsl h ?_))
    · refine of_l1 bad no yes d (x + 1) (by omega) (fun x' hx' y hy => ?_) vM' vJ' _ _ h' ?_ ?_ W'
      · by_cases e3 : x' = x
        · rw [e3]; exact hall y hy
        · exact hb' x' (by omega) y hy
      · rw [List.take_add_one, gm]
        exact aM.append (.cons x1 .nil)
      · rw [List.take_add_one, gj]
        exact aJ.append (.cons x2 .nil)
    · have := (W.newN 1).newN 1
      unfold HM
      simpa [natI] using this
end
theorem algP_eq (L : List (List Bool)) : algP L = (orderB L && tabsP L.length (at2 L) && distP L.length (at2 L)) := rfl
theorem orderB_sq {L : List (List Bool)} (h : orderB L = true) : Sq L ∧ 1 ≤ L.length ∧ L.length ≤ 64 := by
  unfold orderB at h
  simp only [Bool.and_eq_true, decide_eq_true_eq] at h
  exact ⟨sq_all.1 h.1.2, h.1.1.1, h.1.1.2⟩
section
variable {a : AVal} {L : List (List Bool)} (hv : Boolss a L)
include hv
theorem ofD_ok (no : algP L = false → K (.tuple [.nilptr, .bool false]) h) (yes : algP L = true → ∀ v vM vJ, HP v L a vM vJ → K (.tuple [v, .bool true]) h) : ACalls prog 39 [.agg [a]] h K := by
  refine s39_ok ?_
  unfold s39
  refine callG_of (orderD_ok hv ?_)
  rw [tBool_bool]
  cases e : orderB L with
  | false => exact ifT_pos rfl (retG_of (no (by rw [algP_eq, e]; rfl)))
  | true =>
    obtain ⟨hs, h1, hn⟩ := orderB_sq e
    refine ifT_neg rfl ?_
    rw [hv.len]
    have hsc : sc a = true := by
      obtain ⟨l, h1, _⟩ := hv
      rcases h1 with rfl | ⟨rfl, _⟩ <;> rfl
    refine chk_iff.2 ⟨hsc, newRow_in fun q hq => ?_⟩
    have W := (((Own.start h).newC hq (.row 3 [.agg [a, .nilsl, .nilsl]])).newN 1).newN 1
    refine s39l1_in (L.length + 1) (of_l1 hv hs hn h1 (fun e2 => no ?_) (fun e2 => no ?_) (fun e2 e3 v vM vJ H => yes ?_ v vM vJ H) L.length 0 (by omega) (fun x' hx' => by omega) .nilsl .nilsl [] [] _ .nil .nil W)
    · rw [algP_eq, e, e2]; rfl
    · rw [algP_eq, e, e2]; simp
    · rw [algP_eq, e, e2, e3]; rfl
theorem checkD_ok (hk : K (.int .i64 (lookE L [])) h) : ACalls prog 23 [.agg [a]] h K := by
  refine s23_ok ?_
  unfold s23
  unfold lookE at hk
  refine callG_of (ofD_ok hv (fun e => ?_) fun e v vM vJ _ => ?_)
  · rw [tTup_tuple, tCons_cons, tCons_cons, tBool_bool, tNil_nil]
    rw [if_neg (by rw [e]; decide)] at hk
    exact ifT_pos rfl (retG_of hk)
  · rw [tTup_tuple, tCons_cons, tCons_cons, tBool_bool, tNil_nil]
    rw [if_pos e] at hk
    exact ifT_neg rfl (retG_of hk)
end
section
variable {v a vM vJ : AVal} {L : List (List Bool)} (H : HP v L a vM vJ) (hs : Sq L) (hn : L.length ≤ 64) (h1 : 1 ≤ L.length)
include H hs hn h1
theorem impD_l1 {x y : Nat} (hx : x < L.length) (hy : y < L.length) : ∀ d z : Nat, z + d = L.length → ∀ out : Option Nat, (∀ o, out = some o → o < L.length) → K (.int .i64 (optI ((List.range' z d).foldl (runB (fun z => at2 L (mt L.length (at2 L) z x) y) (at2 L)) out))) h →
    s54l1 K (d + 1) v (x : Int) (y : Int) (optI out) (z : Int) h
  | 0, z, hd, out, ho, hk => by
    obtain ⟨rfl, ha, _, _⟩ := H
    unfold s54l1
    simp only [nilCk_lptr, addOff_lptr, List.drop_succ_cons, List.drop_zero, ld1_lptr]
    rw [ha.len]
    exact ifT_neg (by simp; omega) (retG_of hk)
  | d + 1, z, hd, out, ho, hk => by
    have hz : z < L.length := by omega
    rw [List.range'_succ, List.foldl_cons] at hk
    have next := fun o' ho' hk' => impD_l1 hx hy d (z + 1) (by omega) o' ho' hk'
    have c2 : ∀ o', runB (fun z => at2 L (mt L.length (at2 L) z x) y) (at2 L) out z = o' → s54c2 K (s54l1_G (s54l1 K (d + 1))) v (x : Int) (y : Int) (optI o') (z : Int) h := fun o' e => by
      rw [e] at hk
      unfold s54c2
      refine rg_of (by omega) (by omega) (s54l1_go (next o' (fun o eo => ?_) hk))
      subst e
      unfold runB at eo
      split at eo
      · cases eo; exact hz
      · exact ho o eo
    have c3 : ∀ b, (at2 L (mt L.length (at2 L) z x) y && ovr (at2 L) out z) = b → s54c3 K (s54l1_G (s54l1 K (d + 1))) v (x : Int) (y : Int) (optI out) (z : Int) b h := fun b e => by
      unfold s54c3
      cases b with
      | true => exact ifT_pos rfl (c2 (some z) (by unfold runB; rw [if_pos e]))
      | false => exact ifT_neg rfl (c2 out (by unfold runB; rw [if_neg (by rw [e]; decide)]))
    obtain ⟨em, m1, m2⟩ := tab_rd (c := mt L.length (at2 L)) H.m hz
    obtain ⟨rfl, ha, _, _⟩ := H
    obtain ⟨ek, k1, _, k2⟩ := ha.rd hs (mt_lt (r := at2 L) h1 z x)
    unfold s54l1
    simp only [nilCk_lptr, addOff_lptr, List.drop_succ_cons, List.drop_zero, ld1_lptr]
    rw [ha.len]
    refine ifT_pos (by simp; omega) ?_
    rw [m1, m2 x hx, tInt_int, k1, k2 y hy, tBool_bool]
    cases e1 : at2 L (mt L.length (at2 L) z x) y with
    | false => exact ifT_neg rfl (c3 false (by rw [e1]; rfl))
    | true =>
      refine ifT_pos rfl ?_
      cases out with
      | none => exact ifT_pos rfl (c3 true (by rw [e1]; rfl))
      | some o =>
        have hol := ho o rfl
        refine ifT_neg (decide_eq_false (show ¬ ((o : Int) < 0) by omega)) ?_
        obtain ⟨eo, o1, _, o2⟩ := ha.rd hs hol
        show ixS 1 a (o : Int) _
        rw [o1, o2 z hz, tBool_bool]
        exact c3 _ (by rw [e1, Bool.true_and]; rfl)
theorem impD_ok (A : Lat L.length (at2 L)) {x y : Nat} (hx : x < L.length) (hy : y < L.length) (hk : K (.int .i64 ((im L.length (at2 L) x y : Nat) : Int)) h) : ACalls prog 54 [v, .int .i64 (x : Int), .int .i64 (y : Int)] h K := by
  refine s54_ok ?_
  unfold s54
  obtain ⟨g, _, _, _, g4, g5⟩ := A.imp hx hy
  have e : im L.length (at2 L) x y = g := by unfold im; rw [g4]; rfl
  refine s54l1_in (L.length + 1) (impD_l1 H hs hn h1 hx hy L.length 0 (by omega) none (fun o e => by cases e) ?_)
  rw [← List.range_eq_range', g5]
  rwa [e] at hk
theorem boundsD_l1 : ∀ d x : Nat, x + d = L.length → ∀ low high : Nat, low < L.length → high < L.length → (∀ lo hi, (List.range' x d).foldl (runB (fun _ => true) fun x y => at2 L y x) (some low) = some lo → (List.range' x d).foldl (runB (fun _ => true) (at2 L)) (some high) = some hi → K (.tuple [.int .i64 (lo : Int), .int .i64 (hi : Int)]) h) →
    s40l1 K (d + 1) v (low : Int) (high : Int) (x : Int) h
  | 0, x, hd, low, high, hl, hh, hk => by
    obtain ⟨rfl, ha, _, _⟩ := H
    unfold s40l1
    simp only [nilCk_lptr, addOff_lptr, List.drop_zero, ld1_lptr]
    rw [ha.len]
    exact ifT_neg (by simp; omega) (retG_of (hk low high rfl rfl))
  | d + 1, x, hd, low, high, hl, hh, hk => by
    have hx : x < L.length := by omega
    simp only [List.range'_succ, List.foldl_cons] at hk
    have next := fun lo' hi' h1' h2' hk' => boundsD_l1 d (x + 1) (by omega) lo' hi' h1' h2' hk'
    have stp : ∀ (r : Nat → Nat → Bool) (o : Nat), runB (fun _ => true) r (some o) x = some (if r o x then x else o) := fun r o => by
      unfold runB
      simp only [Bool.true_and, ovr]
      split <;> rfl
    rw [stp, stp] at hk
    have c2 : ∀ lo' hi', (if at2 L x low then x else low) = lo' → (if at2 L high x then x else high) = hi' → s40c2 K (s40l1_G (s40l1 K (d + 1))) v (lo' : Int) (hi' : Int) (x : Int) h := fun lo' hi' e1 e2 => by
      rw [e1, e2] at hk
      unfold s40c2
      refine rg_of (by omega) (by omega) (s40l1_go (next lo' hi' ?_ ?_ hk))
      · rw [← e1]; split <;> omega
      · rw [← e2]; split <;> omega
    obtain ⟨rfl, ha, _, _⟩ := H
    obtain ⟨ex, a1, _, a2⟩ := ha.rd hs hx
    obtain ⟨eh, b1, _, b2⟩ := ha.rd hs hh
    have c3 : ∀ lo', (if at2 L x low then x else low) = lo' → s40c3 K (s40l1_G (s40l1 K (d + 1))) (.lptr [a, vM, vJ]) (lo' : Int) (high : Int) (x : Int) h := fun lo' e1 => by
      unfold s40c3
      simp only [nilCk_lptr, addOff_lptr, List.drop_succ_cons, List.drop_zero, ld1_lptr]
      rw [b1, b2 x hx, tBool_bool]
      cases e : at2 L high x with
      | true => exact ifT_pos rfl (c2 lo' x e1 (by rw [e]; rfl))
      | false => exact ifT_neg rfl (c2 lo' high e1 (by rw [e]; rfl))
    unfold s40l1
    simp only [nilCk_lptr, addOff_lptr, List.drop_succ_cons, List.drop_zero, ld1_lptr]
    rw [ha.len]
    refine ifT_pos (by simp; omega) ?_
    rw [a1, a2 low hl, tBool_bool]
    cases e : at2 L x low with
    | true => exact ifT_pos rfl (c3 x (by rw [e]; rfl))
    | false => exact ifT_neg rfl (c3 low (by rw [e]; rfl))
theorem boundsD_ok (A : Lat L.length (at2 L)) (hk : K (.tuple [.int .i64 ((lowP L.length (at2 L) : Nat) : Int), .int .i64 ((highP L.length (at2 L) : Nat) : Int)]) h) : ACalls prog 40 [v] h K := by
  refine s40_ok ?_
  unfold s40
  refine s40l1_in (L.length + 1) (boundsD_l1 H hs hn h1 L.length 0 (by omega) 0 0 (by omega) (by omega) fun lo hi e1 e2 => ?_)
  rw [← List.range_eq_range'] at e1 e2
  rw [A.low 0 (by omega)] at e1
  rw [A.high 0 (by omega)] at e2
  cases e1
  cases e2
  exact hk
end

/- ---------------- copies; the same ---------------- -/
theorem Own.ofGrow {os : List Ow} {es : Nat} {v : AVal} {l : List AVal} {h' : Heap} (W : Own hb os h) (g : Grow es h v l h') : Own hb (os ++ [.slc es v l]) h' := by
  cases g with
  | nil => exact W.newN es
  | own hr => exact W.newS hr l
theorem ldN1_lptr (h : Heap) (a : AVal) (K : List AVal → Prop) : ldN 1 h (.lptr [a]) K = K [a] := rfl
theorem sameA_l2 {a b : AVal} {L : List (List Bool)} (A : AlgV a L) (B : AlgV b L) {x : Nat} (hx : x < L.length) {L1 : s8l1_T} (hL : L1 (.lptr [a]) (.lptr [b]) ((x : Int) + 1) h) :
    ∀ d y : Nat, y + d = L[x].length → s8l2 K L1 (d + 1) (.lptr [a]) (.lptr [b]) (x : Int) (y : Int) h
  | 0, y, hd => by
    obtain ⟨e, he, hix⟩ := A.v.ix hx
    have hl := A.len
    unfold s8l2
    simp only [addOff_lptr, List.drop_zero, ld1_lptr]
    rw [hix, ld1_lptr, he.len]
    exact ifT_neg (by simp; omega) (rg_of (by omega) (by omega) hL)
  | d + 1, y, hd => by
    obtain ⟨e, he, hix⟩ := A.v.ix hx
    obtain ⟨e', he', hix'⟩ := B.v.ix hx
    have hy : y < L[x].length := by omega
    have hr := A.row _ (List.getElem_mem hx)
    unfold s8l2
    simp only [addOff_lptr, List.drop_zero, ld1_lptr]
    rw [hix, ld1_lptr, he.len]
    refine ifT_pos (by simp; omega) ?_
    rw [hix, ld1_lptr, he.ix hy, ld1_lptr, tBool_bool, hix', ld1_lptr, he'.ix hy, ld1_lptr, tBool_bool]
    refine eqQ_boolR ?_
    refine ifT_neg (by simp) (rg_of (by omega) (by omega) (s8l2_go (sameA_l2 A B hx hL d (y + 1) (by omega))))
theorem sameA_l1 {a b : AVal} {L : List (List Bool)} (A : AlgV a L) (B : AlgV b L) (hk : K (.bool true) h) : ∀ d x : Nat, x + d = L.length → s8l1 K (d + 1) (.lptr [a]) (.lptr [b]) (x : Int) h
  | 0, x, hd => by
    unfold s8l1
    simp only [addOff_lptr, List.drop_zero, ld1_lptr]
    rw [A.v.len]
    exact ifT_neg (by simp; omega) (retG_of hk)
  | d + 1, x, hd => by
    have hx : x < L.length := by omega
    obtain ⟨e, he, hix⟩ := A.v.ix hx
    obtain ⟨e', he', hix'⟩ := B.v.ix hx
    unfold s8l1
    simp only [addOff_lptr, List.drop_zero, ld1_lptr]
    rw [A.v.len]
    refine ifT_pos (by simp; omega) ?_
    rw [hix, ld1_lptr, he.len, hix', ld1_lptr, he'.len]
    exact ifT_neg (by simp) (s8l2_in (L[x].length + 1) (sameA_l2 A B hx (s8l1_go (sameA_l1 A B hk d (x + 1) (by omega))) L[x].length 0 (by omega)))
theorem sameA_ok {a b : AVal} {L : List (List Bool)} (A : AlgV a L) (B : AlgV b L) (hk : K (.bool true) h) : ACalls prog 8 [.agg [a], .agg [b]] h K := by
  refine s8_ok ?_
  unfold s8
  rw [A.v.len, B.v.len]
  exact ifT_neg (by simp) (s8l1_in (L.length + 1) (sameA_l1 A B hk L.length 0 (by omega)))
end Go.Proofs.YtljglglbfcgjpaaGreat

namespace Go.Proofs.YtljglglbfcgjpaaGreat
open Go Go.Sym Go.Proofs.Tryz

variable {K : AVal → Heap → Prop} {h h0 hb : Heap}

def Heads23 : Prop := ∀ {h' : Heap} {K : AVal → Heap → Prop}, K (.bool true) h' → ACalls prog 19 [] h' K
theorem headsRet (H : Heads23) (hk : ∀ h', K (.bool true) h') : callG prog 19 [] h fun v h' => tBool v fun b => retG (.bool b) h' K :=
  callG_of (H (by rw [tBool_bool]; exact retG_of (hk _)))
theorem ldN1 {h : Heap} {q : Nat} {a : AVal} (hq : h q = some (.row 1 [.agg [a]])) (X : List AVal → Prop) : ldN 1 h (.ptr q 0 0) X = X [a] := ldN_fld (n := 1) hq rfl X
end Go.Proofs.YtljglglbfcgjpaaGreat

/- Plain: an order given by a table: meetings, joinings, what implies; the answer by search and the answer by a running best are one. No condition. Plain: BIRKHOFF: an element of an algebra is known by the primes below it; each set of primes that is closed downwards is such. No condition. Contracts: the program's best element, meeting, joining, implying, bounds, order. No condition. Contracts: the program's tables of an algebra, its look, and what it answers of elements. No condition. Contracts: the program's look at an algebra; Check, Meet, Join, Imp, Bounds, Boolean. No condition. Contracts: the document's algebra: order, best, Of, Check, Imp, Bounds, Two, Boolean. No condition. Contracts: the document's algebra: Of, Check, Imp, Bounds, Two, Boolean, Copy, Same. No condition. HeytingTells and HeytingResiduates over their inputs: what the program answers of an algebra is what the document answers; residuation. No condition. -/
import Derived.Test.YtljglglbfcgjpaaM5
import Derived.Test.YtljglglbfcgjpaaRWor
import Derived.KernelRfl

set_option linter.unusedVariables false
set_option linter.unusedSimpArgs false

namespace Go.Proofs.Ytljglglbfcgjpaa
open Go Go.Sym

/-- the table's entry -/
def at2 (L : List (List Bool)) (x y : Nat) : Bool := (L.getD x []).getD y false
/-- the first of which it holds that is over all others of which it does -/
def topB (n : Nat) (p : Nat → Bool) (ov : Nat → Nat → Bool) (z : Nat) : Bool := p z && (List.range n).all fun w => !p w || ov z w
def bestP (n : Nat) (p : Nat → Bool) (ov : Nat → Nat → Bool) : Option Nat := (List.range n).find? (topB n p ov)
def meetO (n : Nat) (r : Nat → Nat → Bool) (x y : Nat) : Option Nat := bestP n (fun z => r z x && r z y) (fun z w => r w z)
def joinO (n : Nat) (r : Nat → Nat → Bool) (x y : Nat) : Option Nat := bestP n (fun z => r x z && r y z) (fun z w => r z w)
def mt (n : Nat) (r : Nat → Nat → Bool) (x y : Nat) : Nat := (meetO n r x y).getD 0
def jn (n : Nat) (r : Nat → Nat → Bool) (x y : Nat) : Nat := (joinO n r x y).getD 0
def imO (n : Nat) (r : Nat → Nat → Bool) (x y : Nat) : Option Nat := bestP n (fun z => r (mt n r z x) y) (fun z w => r w z)
def im (n : Nat) (r : Nat → Nat → Bool) (x y : Nat) : Nat := (imO n r x y).getD 0
def lowP (n : Nat) (r : Nat → Nat → Bool) : Nat := (bestP n (fun _ => true) (fun z w => r z w)).getD 0
def highP (n : Nat) (r : Nat → Nat → Bool) : Nat := (bestP n (fun _ => true) (fun z w => r w z)).getD 0
def ordP (n : Nat) (r : Nat → Nat → Bool) : Bool :=
  (List.range n).all fun x => r x x && (List.range n).all fun y => !((x != y) && r x y && r y x) && (List.range n).all fun z => !(r x y && r y z && !r x z)
def tabB (n : Nat) (r : Nat → Nat → Bool) (x y : Nat) : Bool := (meetO n r x y).isSome && (joinO n r x y).isSome
def tabsP (n : Nat) (r : Nat → Nat → Bool) : Bool := (List.range n).all fun x => (List.range n).all fun y => tabB n r x y
def distB (n : Nat) (r : Nat → Nat → Bool) (x y z : Nat) : Bool := mt n r x (jn n r y z) == jn n r (mt n r x y) (mt n r x z)
def distP (n : Nat) (r : Nat → Nat → Bool) : Bool := (List.range n).all fun x => (List.range n).all fun y => (List.range n).all fun z => distB n r x y z
/-- a Heyting algebra of 1 to 64 elements? -/
def algP (L : List (List Bool)) : Bool :=
  decide (1 ≤ L.length) && decide (L.length ≤ 64) && L.all (fun row => row.length == L.length) && ordP L.length (at2 L) && tabsP L.length (at2 L) && distP L.length (at2 L)

theorem bestP_some {n : Nat} {p : Nat → Bool} {ov : Nat → Nat → Bool} {z : Nat} (h : bestP n p ov = some z) : z < n ∧ p z = true ∧ ∀ w, w < n → p w = true → ov z w = true := by
  have h1 := List.find?_some h
  have h2 := List.mem_of_find?_eq_some h
  unfold topB at h1
  rw [Bool.and_eq_true, List.all_eq_true] at h1
  refine ⟨List.mem_range.1 h2, h1.1, fun w hw hp => ?_⟩
  have := h1.2 w (List.mem_range.2 hw)
  simpa [hp] using this
theorem bestP_lt {n : Nat} {p : Nat → Bool} {ov : Nat → Nat → Bool} (hn : 1 ≤ n) : (bestP n p ov).getD 0 < n := by
  cases e : bestP n p ov with
  | none => exact hn
  | some z => exact (bestP_some e).1
theorem mt_lt {n : Nat} {r : Nat → Nat → Bool} (hn : 1 ≤ n) (x y : Nat) : mt n r x y < n := bestP_lt hn
theorem jn_lt {n : Nat} {r : Nat → Nat → Bool} (hn : 1 ≤ n) (x y : Nat) : jn n r x y < n := bestP_lt hn
theorem im_lt {n : Nat} {r : Nat → Nat → Bool} (hn : 1 ≤ n) (x y : Nat) : im n r x y < n := bestP_lt hn
theorem low_lt {n : Nat} {r : Nat → Nat → Bool} (hn : 1 ≤ n) : lowP n r < n := bestP_lt hn
theorem high_lt {n : Nat} {r : Nat → Nat → Bool} (hn : 1 ≤ n) : highP n r < n := bestP_lt hn

/-- a partial order -/
structure PO (n : Nat) (r : Nat → Nat → Bool) : Prop where
  refl : ∀ x, x < n → r x x = true
  anti : ∀ x y, x < n → y < n → r x y = true → r y x = true → x = y
  trans : ∀ x y z, x < n → y < n → z < n → r x y = true → r y z = true → r x z = true
theorem PO.flip {n : Nat} {r : Nat → Nat → Bool} (h : PO n r) : PO n fun x y => r y x :=
  ⟨h.refl, fun x y hx hy a b => h.anti x y hx hy b a, fun x y z hx hy hz a b => h.trans z y x hz hy hx b a⟩
theorem po_of {n : Nat} {r : Nat → Nat → Bool} (h : ordP n r = true) : PO n r := by
  unfold ordP at h
  rw [List.all_eq_true] at h
  have h1 : ∀ x, x < n → r x x = true ∧ ∀ y, y < n → ((x != y) && r x y && r y x) = false ∧ ∀ z, z < n → (r x y && r y z && !r x z) = false := fun x hx => by
    have := h x (List.mem_range.2 hx)
    rw [Bool.and_eq_true, List.all_eq_true] at this
    refine ⟨this.1, fun y hy => ?_⟩
    have := this.2 y (List.mem_range.2 hy)
    rw [Bool.and_eq_true, List.all_eq_true] at this
    refine ⟨by rw [← Bool.not_eq_true']; exact this.1, fun z hz => ?_⟩
    have := this.2 z (List.mem_range.2 hz)
    rw [← Bool.not_eq_true']
    exact this
  refine ⟨fun x hx => (h1 x hx).1, fun x y hx hy a b => ?_, fun x y z hx hy hz a b => ?_⟩
  · have := ((h1 x hx).2 y hy).1
    rw [a, b] at this
    simpa using this
  · have := ((h1 x hx).2 y hy).2 z hz
    rw [a, b] at this
    simpa using this
/-- the search finds the greatest -/
theorem bestP_is {n : Nat} {r : Nat → Nat → Bool} (h : PO n r) {p : Nat → Bool} {g : Nat} (hg : g < n) (hp : p g = true) (hall : ∀ w, w < n → p w = true → r w g = true) : bestP n p (fun z w => r w z) = some g := by
  have hex : topB n p (fun z w => r w z) g = true := by
    unfold topB
    rw [hp, Bool.true_and, List.all_eq_true]
    intro w hw
    cases e : p w with
    | false => rfl
    | true => exact hall w (List.mem_range.1 hw) e
  cases e : bestP n p (fun z w => r w z) with
  | none =>
    unfold bestP at e
    rw [List.find?_eq_none] at e
    exact absurd hex (by simpa using e g (List.mem_range.2 hg))
  | some z =>
    obtain ⟨h1, h2, h3⟩ := bestP_some e
    congr 1
    exact h.anti z g h1 hg (hall z h1 h2) (h3 g hg hp)
def ovr (r : Nat → Nat → Bool) : Option Nat → Nat → Bool
  | none, _ => true
  | some o, z => r o z
/-- a running best -/
def runB (p : Nat → Bool) (r : Nat → Nat → Bool) (out : Option Nat) (z : Nat) : Option Nat := if p z && ovr r out z then some z else out
theorem run_keep {n : Nat} {r : Nat → Nat → Bool} (h : PO n r) {p : Nat → Bool} {g : Nat} (hg : g < n) (hall : ∀ w, w < n → p w = true → r w g = true) : ∀ l : List Nat, (∀ w ∈ l, w < n) → l.foldl (runB p r) (some g) = some g
  | [], _ => rfl
  | w :: l, hl => by
    have hw := hl w List.mem_cons_self
    rw [List.foldl_cons]
    have : runB p r (some g) w = some g := by
      unfold runB
      split
      · rename_i e
        rw [Bool.and_eq_true] at e
        rw [h.anti w g hw hg (hall w hw e.1) e.2]
      · rfl
    rw [this]
    exact run_keep h hg hall l fun w' hw' => hl w' (List.mem_cons_of_mem _ hw')
theorem run_is {n : Nat} {r : Nat → Nat → Bool} (h : PO n r) {p : Nat → Bool} {g : Nat} (hg : g < n) (hp : p g = true) (hall : ∀ w, w < n → p w = true → r w g = true) :
    ∀ (l : List Nat) (out : Option Nat), (∀ w ∈ l, w < n) → g ∈ l → (∀ o, out = some o → o < n ∧ p o = true) → l.foldl (runB p r) out = some g
  | [], _, _, hm, _ => by cases hm
  | w :: l, out, hl, hm, ho => by
    have hw := hl w List.mem_cons_self
    have hl' : ∀ w' ∈ l, w' < n := fun w' hw' => hl w' (List.mem_cons_of_mem _ hw')
    rw [List.foldl_cons]
    by_cases e : w = g
    · subst e
      have : runB p r out w = some w := by
        unfold runB
        rw [hp, Bool.true_and]
        cases out with
        | none => rfl
        | some o => simp [ovr, hall o (ho o rfl).1 (ho o rfl).2]
      rw [this]
      exact run_keep h hw hall l hl'
    · refine run_is h hg hp hall l _ hl' ?_ fun o eo => ?_
      · rcases List.mem_cons.1 hm with h1 | h1
        · exact absurd h1.symm e
        · exact h1
      · unfold runB at eo
        split at eo
        · rename_i e2
          cases eo
          exact ⟨hw, by rw [Bool.and_eq_true] at e2; exact e2.1⟩
        · exact ho o eo

/-- an order with meetings and joinings that distribute -/
structure Lat (n : Nat) (r : Nat → Nat → Bool) : Prop where
  pos : 1 ≤ n
  po : PO n r
  meet : ∀ x y, x < n → y < n → r (mt n r x y) x = true ∧ r (mt n r x y) y = true ∧ ∀ w, w < n → r w x = true → r w y = true → r w (mt n r x y) = true
  join : ∀ x y, x < n → y < n → r x (jn n r x y) = true ∧ r y (jn n r x y) = true ∧ ∀ w, w < n → r x w = true → r y w = true → r (jn n r x y) w = true
  dist : ∀ x y z, x < n → y < n → z < n → mt n r x (jn n r y z) = jn n r (mt n r x y) (mt n r x z)
theorem lat_of {L : List (List Bool)} (h : algP L = true) : Lat L.length (at2 L) := by
  unfold algP at h
  simp only [Bool.and_eq_true, decide_eq_true_eq] at h
  obtain ⟨⟨⟨⟨⟨h1, h2⟩, h3⟩, h4⟩, h5⟩, h6⟩ := h
  have ht : ∀ x y, x < L.length → y < L.length → tabB L.length (at2 L) x y = true := fun x y hx hy => by
    unfold tabsP at h5
    rw [List.all_eq_true] at h5
    have := h5 x (List.mem_range.2 hx)
    rw [List.all_eq_true] at this
    exact this y (List.mem_range.2 hy)
  refine ⟨h1, po_of h4, fun x y hx hy => ?_, fun x y hx hy => ?_, fun x y z hx hy hz => ?_⟩
  · have := ht x y hx hy
    unfold tabB at this
    rw [Bool.and_eq_true] at this
    obtain ⟨z, e⟩ := Option.isSome_iff_exists.1 this.1
    have e' : mt L.length (at2 L) x y = z := by unfold mt; rw [e]; rfl
    unfold meetO at e
    obtain ⟨a, b, c⟩ := bestP_some e
    simp only [Bool.and_eq_true] at b c
    rw [e']
    exact ⟨b.1, b.2, fun w hw h1 h2 => c w hw ⟨h1, h2⟩⟩
  · have := ht x y hx hy
    unfold tabB at this
    rw [Bool.and_eq_true] at this
    obtain ⟨z, e⟩ := Option.isSome_iff_exists.1 this.2
    have e' : jn L.length (at2 L) x y = z := by unfold jn; rw [e]; rfl
    unfold joinO at e
    obtain ⟨a, b, c⟩ := bestP_some e
    simp only [Bool.and_eq_true] at b c
    rw [e']
    exact ⟨b.1, b.2, fun w hw h1 h2 => c w hw ⟨h1, h2⟩⟩
  · unfold distP at h6
    rw [List.all_eq_true] at h6
    have := h6 x (List.mem_range.2 hx)
    rw [List.all_eq_true] at this
    have := this y (List.mem_range.2 hy)
    rw [List.all_eq_true] at this
    have := this z (List.mem_range.2 hz)
    unfold distB at this
    simpa using this

section
variable {n : Nat} {r : Nat → Nat → Bool} (A : Lat n r)
include A
theorem Lat.comm {x y : Nat} (hx : x < n) (hy : y < n) : mt n r x y = mt n r y x := by
  have l1 := mt_lt (r := r) A.pos x y
  have l2 := mt_lt (r := r) A.pos y x
  obtain ⟨a, b, c⟩ := A.meet x y hx hy
  obtain ⟨a', b', c'⟩ := A.meet y x hy hx
  exact A.po.anti _ _ l1 l2 (c' _ l1 b a) (c _ l2 b' a')
/-- a set that has an element and, with two, their joining, has a greatest -/
theorem Lat.great {p : Nat → Bool} {s : Nat} (hs : s < n) (hp : p s = true) (hj : ∀ x y, x < n → y < n → p x = true → p y = true → p (jn n r x y) = true) : ∃ g, g < n ∧ p g = true ∧ ∀ w, w < n → p w = true → r w g = true := by
  have : ∀ l : List Nat, (∀ w ∈ l, w < n) → ∃ g, g < n ∧ p g = true ∧ ∀ w ∈ l, p w = true → r w g = true := by
    intro l
    induction l with
    | nil => exact fun _ => ⟨s, hs, hp, fun w hw => by cases hw⟩
    | cons w l ih =>
      intro hl
      obtain ⟨g, g1, g2, g3⟩ := ih fun w' hw' => hl w' (List.mem_cons_of_mem _ hw')
      have hw := hl w List.mem_cons_self
      cases e : p w with
      | false =>
        refine ⟨g, g1, g2, fun w' hw' hp' => ?_⟩
        rcases List.mem_cons.1 hw' with rfl | h1
        · rw [e] at hp'; cases hp'
        · exact g3 w' h1 hp'
      | true =>
        obtain ⟨j1, j2, j3⟩ := A.join w g hw g1
        refine ⟨jn n r w g, jn_lt A.pos _ _, hj w g hw g1 e g2, fun w' hw' hp' => ?_⟩
        rcases List.mem_cons.1 hw' with rfl | h1
        · exact j1
        · exact A.po.trans _ _ _ (hl w' hw') g1 (jn_lt A.pos _ _) (g3 w' h1 hp') j2
  obtain ⟨g, g1, g2, g3⟩ := this (List.range n) fun w hw => List.mem_range.1 hw
  exact ⟨g, g1, g2, fun w hw hp => g3 w (List.mem_range.2 hw) hp⟩
theorem Lat.least {p : Nat → Bool} {s : Nat} (hs : s < n) (hp : p s = true) (hj : ∀ x y, x < n → y < n → p x = true → p y = true → p (mt n r x y) = true) : ∃ g, g < n ∧ p g = true ∧ ∀ w, w < n → p w = true → r g w = true := by
  have : ∀ l : List Nat, (∀ w ∈ l, w < n) → ∃ g, g < n ∧ p g = true ∧ ∀ w ∈ l, p w = true → r g w = true := by
    intro l
    induction l with
    | nil => exact fun _ => ⟨s, hs, hp, fun w hw => by cases hw⟩
    | cons w l ih =>
      intro hl
      obtain ⟨g, g1, g2, g3⟩ := ih fun w' hw' => hl w' (List.mem_cons_of_mem _ hw')
      have hw := hl w List.mem_cons_self
      cases e : p w with
      | false =>
        refine ⟨g, g1, g2, fun w' hw' hp' => ?_⟩
        rcases List.mem_cons.1 hw' with rfl | h1
        · rw [e] at hp'; cases hp'
        · exact g3 w' h1 hp'
      | true =>
        obtain ⟨j1, j2, j3⟩ := A.meet w g hw g1
        refine ⟨mt n r w g, mt_lt A.pos _ _, hj w g hw g1 e g2, fun w' hw' hp' => ?_⟩
        rcases List.mem_cons.1 hw' with rfl | h1
        · exact j1
        · exact A.po.trans _ _ _ (mt_lt A.pos _ _) g1 (hl w' hw') j2 (g3 w' h1 hp')
  obtain ⟨g, g1, g2, g3⟩ := this (List.range n) fun w hw => List.mem_range.1 hw
  exact ⟨g, g1, g2, fun w hw hp => g3 w (List.mem_range.2 hw) hp⟩
theorem Lat.mono {a b c d : Nat} (ha : a < n) (hb : b < n) (hc : c < n) (hd : d < n) (h1 : r a c = true) (h2 : r b d = true) : r (mt n r a b) (mt n r c d) = true := by
  obtain ⟨m1, m2, m3⟩ := A.meet a b ha hb
  obtain ⟨k1, k2, k3⟩ := A.meet c d hc hd
  have l := mt_lt (r := r) A.pos a b
  exact k3 _ l (A.po.trans _ _ _ l ha hc m1 h1) (A.po.trans _ _ _ l hb hd m2 h2)
/-- what implies: the greatest that meets x below y -/
theorem Lat.imp {x y : Nat} (hx : x < n) (hy : y < n) : ∃ g, g < n ∧ r (mt n r g x) y = true ∧ (∀ w, w < n → r (mt n r w x) y = true → r w g = true) ∧ imO n r x y = some g ∧
    (List.range n).foldl (runB (fun z => r (mt n r z x) y) r) none = some g := by
  obtain ⟨g, g1, g2, g3⟩ := A.great (p := fun z => r (mt n r z x) y) (s := y) hy (A.meet y x hy hx).1 fun z w hz hw h1 h2 => by
    have l1 := jn_lt (r := r) A.pos z w
    have m1 := mt_lt (r := r) A.pos x z
    have m2 := mt_lt (r := r) A.pos x w
    show r (mt n r (jn n r z w) x) y = true
    rw [A.comm l1 hx, A.dist x z w hx hz hw]
    have h1' : r (mt n r x z) y = true := by rw [A.comm hx hz]; exact h1
    have h2' : r (mt n r x w) y = true := by rw [A.comm hx hw]; exact h2
    exact (A.join _ _ m1 m2).2.2 y hy h1' h2'
  exact ⟨g, g1, g2, g3, bestP_is A.po g1 g2 g3, run_is A.po g1 g2 g3 _ none (fun w hw => List.mem_range.1 hw) (List.mem_range.2 g1) fun o e => by cases e⟩
theorem Lat.resid {x y z : Nat} (hx : x < n) (hy : y < n) (hz : z < n) : r (mt n r z x) y = r z (im n r x y) := by
  obtain ⟨g, g1, g2, g3, g4, _⟩ := A.imp hx hy
  have e : im n r x y = g := by unfold im; rw [g4]; rfl
  rw [e, Bool.eq_iff_iff]
  refine ⟨g3 z hz, fun h => ?_⟩
  exact A.po.trans _ _ _ (mt_lt A.pos _ _) (mt_lt A.pos _ _) hy (A.mono hz hx g1 hx h (A.po.refl x hx)) g2
theorem Lat.high : ∀ o, o < n → (List.range n).foldl (runB (fun _ => true) r) (some o) = some (highP n r) := by
  obtain ⟨g, g1, g2, g3⟩ := A.great (p := fun _ => true) (s := 0) A.pos rfl fun _ _ _ _ _ _ => rfl
  have e : highP n r = g := by unfold highP; rw [bestP_is A.po g1 g2 g3]; rfl
  intro o ho
  rw [e]
  exact run_is A.po g1 g2 g3 _ _ (fun w hw => List.mem_range.1 hw) (List.mem_range.2 g1) fun o' e' => by cases e'; exact ⟨ho, rfl⟩
theorem Lat.low : ∀ o, o < n → (List.range n).foldl (runB (fun _ => true) fun x y => r y x) (some o) = some (lowP n r) := by
  obtain ⟨g, g1, g2, g3⟩ := A.least (p := fun _ => true) (s := 0) A.pos rfl fun _ _ _ _ _ _ => rfl
  have e : lowP n r = g := by
    unfold lowP
    have := bestP_is (r := fun x y => r y x) A.po.flip g1 g2 g3
    rw [this]; rfl
  intro o ho
  rw [e]
  exact run_is (r := fun x y => r y x) A.po.flip g1 g2 g3 _ _ (fun w hw => List.mem_range.1 hw) (List.mem_range.2 g1) fun o' e' => by cases e'; exact ⟨ho, rfl⟩
end
end Go.Proofs.Ytljglglbfcgjpaa

namespace Go.Proofs.Ytljglglbfcgjpaa
open Go Go.Sym

/-- x is the joining of two others -/
def splitB (n : Nat) (r : Nat → Nat → Bool) (x : Nat) : Bool := (List.range n).any fun y => (List.range n).any fun z => jn n r y z == x && (y != x && z != x)
def primeB (n : Nat) (r : Nat → Nat → Bool) (x : Nat) : Bool := (x != lowP n r) && !splitB n r x
def primesL (n : Nat) (r : Nat → Nat → Bool) : List Nat := (List.range n).filter (primeB n r)

section
variable {n : Nat} {r : Nat → Nat → Bool} (A : Lat n r)
include A
theorem Lat.low_le {x : Nat} (hx : x < n) : r (lowP n r) x = true := by
  obtain ⟨g, g1, g2, g3⟩ := A.least (p := fun _ => true) (s := 0) A.pos rfl fun _ _ _ _ _ _ => rfl
  have e : lowP n r = g := by
    unfold lowP
    rw [bestP_is (r := fun x y => r y x) A.po.flip g1 g2 g3]; rfl
  rw [e]; exact g3 x hx rfl
theorem Lat.le_high {x : Nat} (hx : x < n) : r x (highP n r) = true := by
  obtain ⟨g, g1, g2, g3⟩ := A.great (p := fun _ => true) (s := 0) A.pos rfl fun _ _ _ _ _ _ => rfl
  have e : highP n r = g := by unfold highP; rw [bestP_is A.po g1 g2 g3]; rfl
  rw [e]; exact g3 x hx rfl
omit A in
theorem lat_split {x : Nat} (h : splitB n r x = true) : ∃ y z, y < n ∧ z < n ∧ jn n r y z = x ∧ y ≠ x ∧ z ≠ x := by
  unfold splitB at h
  rw [List.any_eq_true] at h
  obtain ⟨y, hy, h⟩ := h
  rw [List.any_eq_true] at h
  obtain ⟨z, hz, h⟩ := h
  simp only [Bool.and_eq_true, beq_iff_eq, bne_iff_ne] at h
  exact ⟨y, z, List.mem_range.1 hy, List.mem_range.1 hz, h.1, h.2.1, h.2.2⟩
omit A in
theorem lat_nosplit {x y z : Nat} (h : splitB n r x = false) (hy : y < n) (hz : z < n) (e : jn n r y z = x) : y = x ∨ z = x := by
  unfold splitB at h
  rw [List.any_eq_false] at h
  have h1 := h y (List.mem_range.2 hy)
  rw [Bool.not_eq_true, List.any_eq_false] at h1
  have h2 := h1 z (List.mem_range.2 hz)
  simp only [Bool.and_eq_true, beq_iff_eq, bne_iff_ne, ne_eq, not_and] at h2
  by_cases h3 : y = x
  · exact .inl h3
  · exact .inr (Classical.byContradiction fun h4 => h2 e h3 h4)
/-- how many are below -/
def below (n : Nat) (r : Nat → Nat → Bool) (x : Nat) : Nat := ((List.range n).filter fun w => r w x).length
omit A in
theorem filter_ltB {p q : Nat → Bool} : ∀ {l : List Nat} {x : Nat}, (∀ w ∈ l, p w = true → q w = true) → x ∈ l → p x = false → q x = true → (l.filter p).length < (l.filter q).length
  | [], _, _, h, _, _ => by cases h
  | a :: l, x, hpq, hx, h1, h2 => by
    have le : ∀ l' : List Nat, (∀ w ∈ l', p w = true → q w = true) → (l'.filter p).length ≤ (l'.filter q).length := fun l' h => by
      rw [← List.countP_eq_length_filter, ← List.countP_eq_length_filter]
      exact List.countP_mono_left h
    have hl := fun w hw => hpq w (List.mem_cons_of_mem a hw)
    by_cases e : a = x
    · subst e
      rw [List.filter_cons_of_neg (by simp [h1]), List.filter_cons_of_pos h2, List.length_cons]
      have := le l hl
      omega
    · have hm : x ∈ l := by
        rcases List.mem_cons.1 hx with h | h
        · exact absurd h.symm e
        · exact h
      have ih := filter_ltB (l := l) hl hm h1 h2
      cases e1 : p a with
      | true =>
        rw [List.filter_cons_of_pos e1, List.filter_cons_of_pos (hpq a List.mem_cons_self e1), List.length_cons, List.length_cons]
        omega
      | false =>
        rw [List.filter_cons_of_neg (by simp [e1])]
        cases e2 : q a with
        | true => rw [List.filter_cons_of_pos e2, List.length_cons]; omega
        | false => rw [List.filter_cons_of_neg (by simp [e2])]; exact ih
theorem Lat.below_lt {a x : Nat} (ha : a < n) (hx : x < n) (h : r a x = true) (hne : a ≠ x) : below n r a < below n r x := by
  unfold below
  refine filter_ltB (fun w hw h1 => A.po.trans w a x (List.mem_range.1 hw) ha hx h1 h) (List.mem_range.2 hx) ?_ (A.po.refl x hx)
  cases e : r x a with
  | false => rfl
  | true => exact absurd (A.po.anti a x ha hx h e) hne
/-- what has fewer primes below it is below -/
theorem Lat.le_of : ∀ (d : Nat) {x y : Nat}, below n r x < d → x < n → y < n → (∀ p, p < n → primeB n r p = true → r p x = true → r p y = true) → r x y = true
  | 0, _, _, hd, _, _, _ => absurd hd (Nat.not_lt_zero _)
  | d + 1, x, y, hd, hx, hy, hp => by
    by_cases e : x = lowP n r
    · rw [e]; exact A.low_le hy
    · cases hs : splitB n r x with
      | false => exact hp x hx (by unfold primeB; simp [hs, e]) (A.po.refl x hx)
      | true =>
        obtain ⟨a, b, ha, hb, hj, ha', hb'⟩ := lat_split hs
        obtain ⟨j1, j2, j3⟩ := A.join a b ha hb
        have h1 : r a x = true := hj ▸ j1
        have h2 : r b x = true := hj ▸ j2
        have l1 := A.below_lt ha hx h1 ha'
        have l2 := A.below_lt hb hx h2 hb'
        have i1 := Lat.le_of d (x := a) (y := y) (by omega) ha hy fun p hpn hpp h => hp p hpn hpp (A.po.trans p a x hpn ha hx h h1)
        have i2 := Lat.le_of d (x := b) (y := y) (by omega) hb hy fun p hpn hpp h => hp p hpn hpp (A.po.trans p b x hpn hb hx h h2)
        have := j3 y hy i1 i2
        rwa [hj] at this
theorem Lat.le_iff {x y : Nat} (hx : x < n) (hy : y < n) : r x y = true ↔ ∀ p, p < n → primeB n r p = true → r p x = true → r p y = true :=
  ⟨fun h p hp _ h1 => A.po.trans p x y hp hx hy h1 h, fun h => A.le_of _ (Nat.lt_succ_self _) hx hy h⟩
theorem Lat.prime_join {p a b : Nat} (hp : p < n) (hP : primeB n r p = true) (ha : a < n) (hb : b < n) (h : r p (jn n r a b) = true) : r p a = true ∨ r p b = true := by
  unfold primeB at hP
  rw [Bool.and_eq_true, Bool.not_eq_true'] at hP
  have l := jn_lt (r := r) A.pos a b
  have m1 := mt_lt (r := r) A.pos p a
  have m2 := mt_lt (r := r) A.pos p b
  have e : mt n r p (jn n r a b) = p := by
    obtain ⟨k1, k2, k3⟩ := A.meet p _ hp l
    exact A.po.anti _ _ (mt_lt A.pos _ _) hp k1 (k3 p hp (A.po.refl p hp) h)
  have d := A.dist p a b hp ha hb
  rw [e] at d
  rcases lat_nosplit hP.2 m1 m2 d.symm with h1 | h1
  · exact .inl (by have := (A.meet p a hp ha).2.1; rwa [h1] at this)
  · exact .inr (by have := (A.meet p b hp hb).2.1; rwa [h1] at this)
/-- a set of primes that is closed downwards is what lies below an element -/
theorem Lat.of_set {D : Nat → Bool} (hD : ∀ p q, p < n → q < n → primeB n r p = true → primeB n r q = true → r p q = true → D q = true → D p = true) :
    ∃ s, s < n ∧ ∀ p, p < n → primeB n r p = true → (r p s = true ↔ D p = true) := by
  have key : ∀ l : List Nat, (∀ q ∈ l, q < n ∧ primeB n r q = true ∧ D q = true) → ∃ s, s < n ∧ (∀ q ∈ l, r q s = true) ∧ ∀ p, p < n → primeB n r p = true → r p s = true → D p = true := by
    intro l
    induction l with
    | nil =>
      refine fun _ => ⟨lowP n r, low_lt A.pos, (fun q hq => by cases hq), fun p hp hP h => ?_⟩
      have := A.po.anti p _ hp (low_lt A.pos) h (A.low_le hp)
      unfold primeB at hP
      rw [Bool.and_eq_true, bne_iff_ne] at hP
      exact absurd this hP.1
    | cons q l ih =>
      intro hl
      obtain ⟨s, s1, s2, s3⟩ := ih fun q' hq' => hl q' (List.mem_cons_of_mem _ hq')
      obtain ⟨q1, q2, q3⟩ := hl q List.mem_cons_self
      obtain ⟨j1, j2, j3⟩ := A.join q s q1 s1
      refine ⟨jn n r q s, jn_lt A.pos _ _, fun q' hq' => ?_, fun p hp hP h => ?_⟩
      · rcases List.mem_cons.1 hq' with rfl | h
        · exact j1
        · exact A.po.trans _ _ _ (hl q' hq').1 s1 (jn_lt A.pos _ _) (s2 q' h) j2
      · rcases A.prime_join hp hP q1 s1 h with h | h
        · exact hD p q hp q1 hP q2 h q3
        · exact s3 p hp hP h
  obtain ⟨s, s1, s2, s3⟩ := key ((List.range n).filter fun q => primeB n r q && D q) fun q hq => by
    rw [List.mem_filter, Bool.and_eq_true] at hq
    exact ⟨List.mem_range.1 hq.1, hq.2⟩
  exact ⟨s, s1, fun p hp hP => ⟨s3 p hp hP, fun h => s2 p (by rw [List.mem_filter, Bool.and_eq_true]; exact ⟨List.mem_range.2 hp, hP, h⟩)⟩⟩

/-- the worlds of an element: the primes below it, as a row of truths -/
def phi (n : Nat) (r : Nat → Nat → Bool) (x : Nat) : List Bool := (primesL n r).map fun p => r p x
omit A in
theorem phi_len {x : Nat} : (phi n r x).length = (primesL n r).length := by simp [phi]
omit A in
theorem phi_get {x w : Nat} (hw : w < (primesL n r).length) : (phi n r x).getD w false = r (primesL n r)[w] x := by
  unfold phi
  rw [List.getD_eq_getElem?_getD, List.getElem?_map, List.getElem?_eq_getElem hw]; rfl
omit A in
theorem prime_at {w : Nat} (hw : w < (primesL n r).length) : (primesL n r)[w] < n ∧ primeB n r (primesL n r)[w] = true := by
  have := List.getElem_mem hw
  unfold primesL at this
  rw [List.mem_filter] at this
  exact ⟨List.mem_range.1 this.1, this.2⟩
omit A in
theorem prime_idx {p : Nat} (hp : p < n) (hP : primeB n r p = true) : ∃ w, ∃ hw : w < (primesL n r).length, (primesL n r)[w] = p :=
  List.mem_iff_getElem.1 (List.mem_filter.2 ⟨List.mem_range.2 hp, hP⟩)
theorem Lat.phi_le {x y : Nat} (hx : x < n) (hy : y < n) : r x y = true ↔ ∀ w, w < (primesL n r).length → (phi n r x).getD w false = true → (phi n r y).getD w false = true := by
  rw [A.le_iff hx hy]
  refine ⟨fun h w hw => ?_, fun h p hp hP => ?_⟩
  · rw [phi_get hw, phi_get hw]
    exact h _ (prime_at hw).1 (prime_at hw).2
  · obtain ⟨w, hw, rfl⟩ := prime_idx hp hP
    have := h w hw
    rwa [phi_get hw, phi_get hw] at this
theorem Lat.phi_inj {x y : Nat} (hx : x < n) (hy : y < n) (h : phi n r x = phi n r y) : x = y :=
  A.po.anti x y hx hy ((A.phi_le hx hy).2 fun w _ => by rw [h]; exact id) ((A.phi_le hy hx).2 fun w _ => by rw [h]; exact id)
/-- closed upwards in the model of the primes: with a prime those below it -/
def closedS (n : Nat) (r : Nat → Nat → Bool) (l : List Bool) : Prop := l.length = (primesL n r).length ∧
  ∀ w v, w < (primesL n r).length → v < (primesL n r).length → r ((primesL n r).getD v 0) ((primesL n r).getD w 0) = true → l.getD w false = true → l.getD v false = true
theorem Lat.phi_closed {x : Nat} (hx : x < n) : closedS n r (phi n r x) := by
  refine ⟨phi_len, fun w v hw hv h => ?_⟩
  rw [List.getD_eq_getElem?_getD, List.getD_eq_getElem?_getD, List.getElem?_eq_getElem hv, List.getElem?_eq_getElem hw] at h
  rw [phi_get hw, phi_get hv]
  exact fun h1 => A.po.trans _ _ _ (prime_at hv).1 (prime_at hw).1 hx h h1
theorem Lat.phi_onto {l : List Bool} (h : closedS n r l) : ∃ x, x < n ∧ phi n r x = l := by
  obtain ⟨s, s1, s2⟩ := A.of_set (D := fun p => (List.range (primesL n r).length).any fun w => (primesL n r).getD w 0 == p && l.getD w false) fun p q hp hq hP hQ hpq hd => by
    rw [List.any_eq_true] at hd ⊢
    obtain ⟨w, hw, hd⟩ := hd
    obtain ⟨v, hv, rfl⟩ := prime_idx hp hP
    rw [Bool.and_eq_true, beq_iff_eq] at hd
    refine ⟨v, List.mem_range.2 hv, ?_⟩
    have e : (primesL n r).getD v 0 = (primesL n r)[v] := by rw [List.getD_eq_getElem?_getD, List.getElem?_eq_getElem hv]; rfl
    rw [Bool.and_eq_true, beq_iff_eq]
    exact ⟨e, h.2 w v (List.mem_range.1 hw) hv (by rw [e, hd.1]; exact hpq) hd.2⟩
  refine ⟨s, s1, List.ext_getElem (by rw [phi_len, h.1]) fun w h1 h2 => ?_⟩
  have hw : w < (primesL n r).length := by rw [← h.1]; exact h2
  have a := s2 _ (prime_at hw).1 (prime_at hw).2
  have e : (phi n r s)[w] = r (primesL n r)[w] s := by simp [phi]
  rw [e, Bool.eq_iff_iff, a, List.any_eq_true]
  have eg : ∀ v (hv : v < (primesL n r).length), (primesL n r).getD v 0 = (primesL n r)[v] := fun v hv => by rw [List.getD_eq_getElem?_getD, List.getElem?_eq_getElem hv]; rfl
  have el : l.getD w false = l[w] := by rw [List.getD_eq_getElem?_getD, List.getElem?_eq_getElem h2]; rfl
  constructor
  · rintro ⟨v, hv, hd⟩
    rw [Bool.and_eq_true, beq_iff_eq] at hd
    have hv' := List.mem_range.1 hv
    have := h.2 v w hv' hw (by rw [hd.1, eg w hw]; exact A.po.refl _ (prime_at hw).1) hd.2
    rwa [el] at this
  · intro hl
    exact ⟨w, List.mem_range.2 hw, by rw [Bool.and_eq_true, beq_iff_eq]; exact ⟨eg w hw, by rw [el]; exact hl⟩⟩
end
end Go.Proofs.Ytljglglbfcgjpaa

namespace Go.Proofs.Ytljglglbfcgjpaa
open Go Go.Sym Go.Proofs.Try

variable {K : AVal → Heap → Prop} {h : Heap} {n : Nat} {r : Nat → Nat → Bool} {f : AVal}

/-- a function value tells of a number, of two -/
def T1 (f : AVal) (n : Nat) (p : Nat → Bool) : Prop := ∀ (x : Nat) (h : Heap) (K : AVal → Heap → Prop), x < n → K (.bool (p x)) h → callV prog f [.int .i64 (x : Int)] h K
def T2 (f : AVal) (n : Nat) (p : Nat → Nat → Bool) : Prop := ∀ (x y : Nat) (h : Heap) (K : AVal → Heap → Prop), x < n → y < n → K (.bool (p x y)) h → callV prog f [.int .i64 (x : Int), .int .i64 (y : Int)] h K

def topW (p : Nat → Bool) (ov : Nat → Nat → Bool) (z w : Nat) : Bool := (List.range w).all fun w => !p w || ov z w
theorem topW_succ (p : Nat → Bool) (ov : Nat → Nat → Bool) (z w : Nat) : topW p ov z (w + 1) = (topW p ov z w && (!p w || ov z w)) := by
  unfold topW
  rw [List.range_succ, List.all_append]
  simp
def bestFrom (p : Nat → Bool) (ov : Nat → Nat → Bool) (n z d : Nat) : Option Nat := (List.range' z d).find? (topB n p ov)
theorem best_from (p : Nat → Bool) (ov : Nat → Nat → Bool) : bestP n p ov = bestFrom p ov n 0 n := by
  unfold bestP bestFrom
  rw [List.range_eq_range']
def bestV (o : Option Nat) : AVal := .tuple [.int .i64 ((o.getD 0 : Nat) : Int), .bool o.isSome]

section
variable {fi fo : AVal} {p : Nat → Bool} {ov : Nat → Nat → Bool} (hi : T1 fi n p) (ho : T2 fo n ov) (hn : n ≤ 1073741824)
include hi ho hn
theorem best_l3 {z : Nat} (hz : z < n) {L1 : s41l1_T} (yes : topW p ov z n = true → K (bestV (some z)) h) (no : topW p ov z n = false → L1 n fi fo (n : Int) ((z : Int) + 1) h) :
    ∀ d w : Nat, w + d = n → s41l3 K L1 (d + 1) n fi fo (z : Int) (topW p ov z w) (n : Int) (z : Int) (n : Int) (w : Int) h
  | 0, w, hd => by
    obtain rfl : w = n := by omega
    unfold s41l3
    refine ifT_neg (by simp) ?_
    cases e : topW p ov z w with
    | true => exact ifT_pos rfl (retG_of (yes e))
    | false =>
      refine ifT_neg rfl ?_
      unfold s41c2
      exact rg_of (by omega) (by omega) (no e)
  | d + 1, w, hd => by
    have next : s41c4 K L1 (s41l3_G (s41l3 K L1 (d + 1))) n fi fo (z : Int) (topW p ov z (w + 1)) (n : Int) (z : Int) (n : Int) (w : Int) h := by
      unfold s41c4
      exact rg_of (by omega) (by omega) (s41l3_go (best_l3 hz yes no d (w + 1) (by omega)))
    rw [topW_succ] at next
    unfold s41l3
    refine ifT_pos (by simp; omega) ?_
    cases e : topW p ov z w with
    | false =>
      rw [e, Bool.false_and] at next
      exact ifT_neg rfl next
    | true =>
      rw [e, Bool.true_and] at next
      refine ifT_pos rfl (hi w h _ (by omega) ?_)
      rw [tBool_bool]
      cases e1 : p w with
      | false =>
        rw [e1] at next
        exact ifT_pos rfl next
      | true =>
        rw [e1] at next
        refine ifT_neg rfl (ho z w h _ hz (by omega) ?_)
        rw [tBool_bool]
        exact next
theorem best_l1 : ∀ d z : Nat, z + d = n → K (bestV (bestFrom p ov n z d)) h → s41l1 K (d + 1) n fi fo (n : Int) (z : Int) h
  | 0, z, hd, hk => by
    unfold s41l1
    exact ifT_neg (by simp; omega) (retG_of hk)
  | d + 1, z, hd, hk => by
    unfold bestFrom at hk
    rw [List.range'_succ, List.find?_cons] at hk
    unfold s41l1
    refine ifT_pos (by simp; omega) (hi z h _ (by omega) ?_)
    rw [tBool_bool]
    cases e : p z with
    | false =>
      have e2 : topB n p ov z = false := by unfold topB; rw [e, Bool.false_and]
      rw [e2] at hk
      refine ifT_pos rfl ?_
      unfold s41c2
      exact rg_of (by omega) (by omega) (s41l1_go (best_l1 d (z + 1) (by omega) hk))
    | true =>
      have e2 : topB n p ov z = topW p ov z n := by unfold topB topW; rw [e, Bool.true_and]
      rw [e2] at hk
      refine ifT_neg rfl (s41l3_in (n + 1) ?_)
      have h0 : topW p ov z 0 = true := rfl
      rw [← h0]
      refine best_l3 hi ho hn (by omega) (fun e3 => ?_) (fun e3 => ?_) n 0 (by omega)
      · rw [e3] at hk; exact hk
      · rw [e3] at hk
        exact s41l1_go (best_l1 d (z + 1) (by omega) hk)
theorem best_ok (hk : K (bestV (bestP n p ov)) h) : ACalls prog 41 [.int .i64 (n : Int), fi, fo] h K := by
  rw [best_from] at hk
  refine s41_ok ?_
  unfold s41
  exact s41l1_in (n + 1) (best_l1 hi ho hn n 0 (by omega) hk)
end

/-- an algebra that was looked at -/
abbrev latC (n : Nat) (f : AVal) : List AVal := [.int .i64 (n : Int), f]
abbrev latV (n : Nat) (f : AVal) : AVal := .agg (latC n f)

section
variable (hf : T2 f n r)
include hf
theorem up_tells : T2 (.func (.func 43) [latV n f] []) n fun z w => r w z := by
  intro z w h K hz hw hk
  show callG prog 43 ([latV n f] ++ [.int .i64 (z : Int), .int .i64 (w : Int)] ++ []) h K
  refine callG_of (s43_ok ?_)
  unfold s43
  refine hf w z h _ hw hz ?_
  rw [tBool_bool]
  exact retG_of hk
theorem down_tells : T2 (.func (.func 42) [latV n f] []) n fun z w => r z w := by
  intro z w h K hz hw hk
  show callG prog 42 ([latV n f] ++ [.int .i64 (z : Int), .int .i64 (w : Int)] ++ []) h K
  refine callG_of (s42_ok ?_)
  unfold s42
  refine hf z w h _ hz hw ?_
  rw [tBool_bool]
  exact retG_of hk
theorem meet1_tells {x y : Nat} (hx : x < n) (hy : y < n) : T1 (.func (.func 56) [] [.lptr (latC n f), .lptr [.int .i64 (x : Int)], .lptr [.int .i64 (y : Int)]]) n fun z => r z x && r z y := by
  intro z h K hz hk
  show callG prog 56 ([] ++ [.int .i64 (z : Int)] ++ [.lptr (latC n f), .lptr [.int .i64 (x : Int)], .lptr [.int .i64 (y : Int)]]) h K
  refine callG_of (s56_ok ?_)
  unfold s56
  simp only [addOff_lptr, List.drop_succ_cons, List.drop_zero, ld1_lptr, tInt_int]
  refine hf z x h _ hz hx ?_
  rw [tBool_bool]
  cases e : r z x with
  | false => exact ifT_neg rfl (retG_of (by simpa [e] using hk))
  | true =>
    refine ifT_pos rfl (hf z y h _ hz hy ?_)
    rw [tBool_bool]
    exact retG_of (by simpa [e] using hk)
theorem join1_tells {x y : Nat} (hx : x < n) (hy : y < n) : T1 (.func (.func 44) [] [.lptr (latC n f), .lptr [.int .i64 (x : Int)], .lptr [.int .i64 (y : Int)]]) n fun z => r x z && r y z := by
  intro z h K hz hk
  show callG prog 44 ([] ++ [.int .i64 (z : Int)] ++ [.lptr (latC n f), .lptr [.int .i64 (x : Int)], .lptr [.int .i64 (y : Int)]]) h K
  refine callG_of (s44_ok ?_)
  unfold s44
  simp only [addOff_lptr, List.drop_succ_cons, List.drop_zero, ld1_lptr, tInt_int]
  refine hf x z h _ hx hz ?_
  rw [tBool_bool]
  cases e : r x z with
  | false => exact ifT_neg rfl (retG_of (by simpa [e] using hk))
  | true =>
    refine ifT_pos rfl (hf y z h _ hy hz ?_)
    rw [tBool_bool]
    exact retG_of (by simpa [e] using hk)
variable (hn : n ≤ 1073741824)
include hn
theorem meetH_ok {x y : Nat} (hx : x < n) (hy : y < n) (hk : K (bestV (meetO n r x y)) h) : ACalls prog 30 [latV n f, .int .i64 (x : Int), .int .i64 (y : Int)] h K := by
  refine s30_ok ?_
  unfold s30
  refine callG_of (best_ok (meet1_tells hf hx hy) (up_tells hf) hn ?_)
  unfold bestV
  rw [tTup_tuple, tCons_cons, tInt_int, tCons_cons, tBool_bool, tNil_nil]
  exact retG_of hk
theorem joinH_ok {x y : Nat} (hx : x < n) (hy : y < n) (hk : K (bestV (joinO n r x y)) h) : ACalls prog 25 [latV n f, .int .i64 (x : Int), .int .i64 (y : Int)] h K := by
  refine s25_ok ?_
  unfold s25
  refine callG_of (best_ok (join1_tells hf hx hy) (down_tells hf) hn ?_)
  unfold bestV
  rw [tTup_tuple, tCons_cons, tInt_int, tCons_cons, tBool_bool, tNil_nil]
  exact retG_of hk
theorem imp1_tells {x y : Nat} (hx : x < n) (hy : y < n) : T1 (.func (.func 57) [] [.lptr (latC n f), .lptr [.int .i64 (x : Int)], .lptr [.int .i64 (y : Int)]]) n fun z => r (mt n r z x) y := by
  intro z h K hz hk
  show callG prog 57 ([] ++ [.int .i64 (z : Int)] ++ [.lptr (latC n f), .lptr [.int .i64 (x : Int)], .lptr [.int .i64 (y : Int)]]) h K
  refine callG_of (s57_ok ?_)
  unfold s57
  rw [ldN_agg2, tCons_cons, tInt_int, tCons_cons, tNil_nil, ld1_lptr, tInt_int]
  refine callG_of (meetH_ok hf hn hz hx ?_)
  unfold bestV
  rw [tTup_tuple, tCons_cons, tInt_int, tCons_cons, tBool_bool, tNil_nil]
  simp only [addOff_lptr, List.drop_succ_cons, List.drop_zero, ld1_lptr, tInt_int]
  refine hf (mt n r z x) y h _ (mt_lt (by omega) _ _) hy ?_
  rw [tBool_bool]
  exact retG_of hk
theorem impH_ok {x y : Nat} (hx : x < n) (hy : y < n) (hk : K (.int .i64 ((im n r x y : Nat) : Int)) h) : ACalls prog 31 [latV n f, .int .i64 (x : Int), .int .i64 (y : Int)] h K := by
  refine s31_ok ?_
  unfold s31
  refine callG_of (best_ok (imp1_tells hf hn hx hy) (up_tells hf) hn ?_)
  unfold bestV
  rw [tTup_tuple, tCons_cons, tInt_int, tCons_cons, tBool_bool, tNil_nil]
  exact retG_of hk
omit hf hn in
theorem all1_tells : T1 (.func (.func 40) [] []) n fun _ => true := by
  intro z h K _ hk
  show callG prog 40 ([] ++ [.int .i64 (z : Int)] ++ []) h K
  refine callG_of (s40_ok ?_)
  unfold s40
  exact retG_of hk
theorem boundsH_ok (hk : K (.tuple [.int .i64 ((lowP n r : Nat) : Int), .int .i64 ((highP n r : Nat) : Int)]) h) : ACalls prog 24 [latV n f] h K := by
  refine s24_ok ?_
  unfold s24
  refine callG_of (best_ok all1_tells (down_tells hf) hn ?_)
  unfold bestV
  rw [tTup_tuple, tCons_cons, tInt_int, tCons_cons, tBool_bool, tNil_nil]
  refine callG_of (best_ok all1_tells (up_tells hf) hn ?_)
  unfold bestV
  rw [tTup_tuple, tCons_cons, tInt_int, tCons_cons, tBool_bool, tNil_nil]
  exact retG_of hk
end

/- ---------------- is it a partial order? ---------------- -/
def ordZ (r : Nat → Nat → Bool) (x y z : Nat) : Bool := !(r x y && r y z && !r x z)
def ordY (n : Nat) (r : Nat → Nat → Bool) (x y : Nat) : Bool := !((x != y) && r x y && r y x) && (List.range n).all (ordZ r x y)
def ordX (n : Nat) (r : Nat → Nat → Bool) (x : Nat) : Bool := r x x && (List.range n).all (ordY n r x)
theorem ordP_eq : ordP n r = (List.range n).all (ordX n r) := rfl
theorem all_of {p : Nat → Bool} (h : ∀ x, x < n → p x = true) : (List.range n).all p = true := List.all_eq_true.2 fun x hx => h x (List.mem_range.1 hx)
theorem all_not {p : Nat → Bool} {x : Nat} (hx : x < n) (h : p x = false) : (List.range n).all p = false := by
  rw [List.all_eq_false]
  exact ⟨x, List.mem_range.2 hx, by simp [h]⟩

section
variable (hf : T2 f n r) (hn : n ≤ 1073741824)
include hf hn
theorem ordered_l4 {x y : Nat} (hx : x < n) (hy : y < n) {L1 : s38l1_T} {L2 : s38l2_T} (no : ∀ z, z < n → ordZ r x y z = false → K (.bool false) h)
    (yes : (∀ z, z < n → ordZ r x y z = true) → L2 (.lptr (latC n f)) (x : Int) n (x : Int) n ((y : Int) + 1) h) : ∀ d z : Nat, z + d = n → (∀ z', z' < z → ordZ r x y z' = true) →
    s38l4 K L1 L2 (d + 1) (.lptr (latC n f)) (x : Int) (y : Int) n (x : Int) n (y : Int) (n : Int) (z : Int) h
  | 0, z, hd, hb => by
    unfold s38l4
    exact ifT_neg (by simp; omega) (rg_of (by omega) (by omega) (yes fun z' hz' => hb z' (by omega)))
  | d + 1, z, hd, hb => by
    have next : ordZ r x y z = true → s38c5 K L1 L2 (s38l4_G (s38l4 K L1 L2 (d + 1))) (.lptr (latC n f)) (x : Int) (y : Int) n (x : Int) n (y : Int) (n : Int) (z : Int) false h := fun e => by
      unfold s38c5
      refine ifT_neg rfl (rg_of (by omega) (by omega) (s38l4_go (ordered_l4 hx hy no yes d (z + 1) (by omega) fun z' hz' => ?_)))
      by_cases e2 : z' = z
      · rw [e2]; exact e
      · exact hb z' (by omega)
    unfold s38l4
    refine ifT_pos (by simp; omega) ?_
    simp only [addOff_lptr, List.drop_succ_cons, List.drop_zero, ld1_lptr]
    refine hf x y h _ hx hy ?_
    rw [tBool_bool]
    cases e1 : r x y with
    | false => exact ifT_neg rfl (next (by simp [ordZ, e1]))
    | true =>
      refine ifT_pos rfl (hf y z h _ hy (by omega) ?_)
      rw [tBool_bool]
      cases e2 : r y z with
      | false => exact ifT_neg rfl (next (by simp [ordZ, e2]))
      | true =>
        refine ifT_pos rfl (hf x z h _ hx (by omega) ?_)
        rw [tBool_bool]
        cases e3 : r x z with
        | true => exact next (by simp [ordZ, e3])
        | false =>
          unfold s38c5
          exact ifT_pos rfl (retG_of (no z (by omega) (by simp [ordZ, e1, e2, e3])))
theorem ordered_l2 {x : Nat} (hx : x < n) {L1 : s38l1_T} (no : ∀ y, y < n → ordY n r x y = false → K (.bool false) h)
    (yes : (∀ y, y < n → ordY n r x y = true) → L1 (.lptr (latC n f)) n ((x : Int) + 1) h) : ∀ d y : Nat, y + d = n → (∀ y', y' < y → ordY n r x y' = true) →
    s38l2 K L1 (d + 1) (.lptr (latC n f)) (x : Int) n (x : Int) (n : Int) (y : Int) h
  | 0, y, hd, hb => by
    unfold s38l2
    exact ifT_neg (by simp; omega) (rg_of (by omega) (by omega) (yes fun z' hz' => hb z' (by omega)))
  | d + 1, y, hd, hb => by
    have next : ((x != y) && r x y && r y x) = false → s38c3 K L1 (s38l2_G (s38l2 K L1 (d + 1))) (.lptr (latC n f)) (x : Int) (y : Int) n (x : Int) n (y : Int) false h := fun e => by
      unfold s38c3
      refine ifT_neg rfl ?_
      simp only [addOff_lptr, List.drop_zero, ld1_lptr, tInt_int]
      refine s38l4_in (n + 1) (ordered_l4 hf hn hx (by omega) (fun z hz ez => no y (by omega) ?_) (fun hall => ?_) n 0 (by omega) (fun z' hz' => by omega))
      · unfold ordY; rw [all_not hz ez, Bool.and_false]
      · refine s38l2_go (ordered_l2 hx no yes d (y + 1) (by omega) fun y' hy' => ?_)
        by_cases e2 : y' = y
        · subst e2
          unfold ordY
          rw [e, all_of hall]; rfl
        · exact hb y' (by omega)
    unfold s38l2
    refine ifT_pos (by simp; omega) ?_
    by_cases exy : x = y
    · exact ifT_neg (by simp [exy]) (next (by simp [exy]))
    · refine ifT_pos (by simp; omega) ?_
      simp only [addOff_lptr, List.drop_succ_cons, List.drop_zero, ld1_lptr]
      refine hf x y h _ hx (by omega) ?_
      rw [tBool_bool]
      cases e1 : r x y with
      | false => exact ifT_neg rfl (next (by simp [e1]))
      | true =>
        refine ifT_pos rfl (hf y x h _ (by omega) hx ?_)
        rw [tBool_bool]
        cases e2 : r y x with
        | false => exact next (by simp [e2])
        | true =>
          unfold s38c3
          refine ifT_pos rfl (retG_of (no y (by omega) ?_))
          unfold ordY
          simp [exy, e1, e2]
theorem ordered_l1 (hk : K (.bool (ordP n r)) h) : ∀ d x : Nat, x + d = n → (∀ x', x' < x → ordX n r x' = true) → s38l1 K (d + 1) (.lptr (latC n f)) (n : Int) (x : Int) h
  | 0, x, hd, hb => by
    have e : ordP n r = true := by rw [ordP_eq]; exact all_of fun x' hx' => hb x' (by omega)
    rw [e] at hk
    unfold s38l1
    exact ifT_neg (by simp; omega) (retG_of hk)
  | d + 1, x, hd, hb => by
    have no : ordX n r x = false → K (.bool false) h := fun e => by
      have e2 : ordP n r = false := by rw [ordP_eq]; exact all_not (by omega) e
      rwa [e2] at hk
    unfold s38l1
    refine ifT_pos (by simp; omega) ?_
    simp only [addOff_lptr, List.drop_succ_cons, List.drop_zero, ld1_lptr]
    refine hf x x h _ (by omega) (by omega) ?_
    rw [tBool_bool]
    cases e1 : r x x with
    | false => exact ifT_pos rfl (retG_of (no (by simp [ordX, e1])))
    | true =>
      refine ifT_neg rfl ?_
      rw [tInt_int]
      refine s38l2_in (n + 1) (ordered_l2 hf hn (by omega) (fun y hy ey => no ?_) (fun hall => ?_) n 0 (by omega) (fun y' hy' => by omega))
      · unfold ordX; rw [all_not hy ey, Bool.and_false]
      · refine s38l1_go (ordered_l1 hk d (x + 1) (by omega) fun x' hx' => ?_)
        by_cases e2 : x' = x
        · subst e2
          unfold ordX
          rw [e1, all_of hall]; rfl
        · exact hb x' (by omega)
theorem orderedH_ok (hk : K (.bool (ordP n r)) h) : ACalls prog 38 [latV n f] h K := by
  refine s38_ok ?_
  unfold s38
  exact s38l1_in (n + 1) (ordered_l1 hf hn hk n 0 (by omega) fun x' hx' => by omega)
end
end Go.Proofs.Ytljglglbfcgjpaa

namespace Go.Proofs.Ytljglglbfcgjpaa
open Go Go.Sym Go.Proofs.Try

variable {K : AVal → Heap → Prop} {h h0 hb : Heap} {n : Nat} {r : Nat → Nat → Bool} {f : AVal}

/- ---------------- two groups of rows that grow ---------------- -/
theorem rowsO_at {q k : Nat} {f : Nat → AVal} {g : Nat → List Nat} (A B : List Ow) (hk : k < q) : (A ++ (rowsO q f g ++ B))[A.length + k]? = some (.slc 1 (f k) ((natI (g k)).map (.int .i64))) := by
  rw [List.getElem?_append_right (by omega), show A.length + k - A.length = k by omega, List.getElem?_append_left (by simp [rowsO, hk])]
  unfold rowsO
  exact range_get _ hk
theorem rowsO_put {q k x : Nat} {f : Nat → AVal} {g : Nat → List Nat} {v : AVal} (A B : List Ow) (hk : k < q) :
    (A ++ (rowsO q f g ++ B)).set (A.length + k) (.slc 1 v ((natI (g k)).map (.int .i64) ++ [.int .i64 (x : Int)])) = A ++ (rowsO q (upd f k v) (upd g k (g k ++ [x])) ++ B) := by
  rw [List.set_append_right _ _ (by omega), show A.length + k - A.length = k by omega, List.set_append_left _ _ (by simp [rowsO, hk])]
  congr 2
  unfold rowsO
  rw [map_set]
  refine List.map_congr_left fun y _ => ?_
  unfold upd
  split
  · simp [natI]
  · rfl
/-- rows that are full, one that grows, rows that are empty -/
structure GT (R : Nat → List Nat) (x y : Nat) (g : Nat → List Nat) : Prop where
  lo : ∀ k, k < x → g k = R k
  at_ : g x = (R x).take y
  hi : ∀ k, x < k → g k = []
theorem GT.put {R : Nat → List Nat} {x y a : Nat} {g : Nat → List Nat} (G : GT R x y g) (ha : (R x)[y]? = some a) : GT R x (y + 1) (upd g x (g x ++ [a])) where
  lo k hk := by unfold upd; rw [if_neg (by omega)]; exact G.lo k hk
  at_ := by unfold upd; rw [if_pos rfl, G.at_, List.take_add_one, ha]; rfl
  hi k hk := by unfold upd; rw [if_neg (by omega)]; exact G.hi k hk
theorem GT.next {R : Nat → List Nat} {x y : Nat} {g : Nat → List Nat} (G : GT R x y g) (hy : (R x).length ≤ y) : GT R (x + 1) 0 g where
  lo k hk := by
    rcases Nat.lt_or_ge k x with e | e
    · exact G.lo k e
    · obtain rfl : k = x := by omega
      rw [G.at_, List.take_of_length_le hy]
  at_ := by rw [G.hi _ (by omega)]; simp
  hi k hk := G.hi k (by omega)

def mRow (n : Nat) (r : Nat → Nat → Bool) (x : Nat) : List Nat := (List.range n).map fun y => mt n r x y
def jRow (n : Nat) (r : Nat → Nat → Bool) (x : Nat) : List Nat := (List.range n).map fun y => jn n r x y
def mTab (n : Nat) (r : Nat → Nat → Bool) : List (List Int) := (List.range n).map fun x => natI (mRow n r x)
def jTab (n : Nat) (r : Nat → Nat → Bool) : List (List Int) := (List.range n).map fun x => natI (jRow n r x)

section
/-- an element of a row that a slice holds -/
theorem row_app {rm x a i : Nat} {F : Nat → AVal} {G : Nat → List Nat} (A B : List Ow) (hn : n ≤ 64) (hx : x < n) (hA : A[i]? = some (.slc 1 (.sl rm 1 0 n) ((List.range n).map F))) (W : Own hb (A ++ (rowsO n F G ++ B)) h) (hl : (G x).length ≤ 64)
    {X : Heap → Prop} (hX : ∀ v h', Own hb (A.set i (.slc 1 (.sl rm 1 0 n) ((List.range n).map (upd F x v))) ++ (rowsO n (upd F x v) (upd G x (G x ++ [a])) ++ B)) h' → X h') :
    ixS 1 (.sl rm 1 0 n) (x : Int) fun p1 => ld1 h p1 fun v20 => appC 1 8 h v20 (.lsl 1 [(.int .i64 (a : Int))]) fun v21 h_4 => ixS 1 (.sl rm 1 0 n) (x : Int) fun p2 => chk (sc v21) (st true h_4 p2 [v21] X) := by
  have hi := rowsO_at (f := F) (g := G) A B hx
  have hil := (List.getElem?_eq_some_iff.1 hA).1
  have hA' : ∀ Z : List Ow, (A ++ Z)[i]? = some (.slc 1 (.sl rm 1 0 n) ((List.range n).map F)) := fun Z => by rw [List.getElem?_append_left hil]; exact hA
  have hget : ((List.range n).map F)[x]? = some (F x) := range_get _ hx
  have hag := (W.sc hi).2.2
  have rU := W.get i _ rm (hA' _) rfl
  refine ixS_sl0 hx ?_
  rw [ld1_ptr rU hget hag]
  refine W.app hi (by simp [natI]; omega) (by simp [natI]; omega) fun v2 h2 W2 => ?_
  rw [rowsO_put _ _ hx] at W2
  refine ixS_sl0 hx ?_
  have hi2 := rowsO_at (f := upd F x v2) (g := upd G x (G x ++ [a])) A B hx
  have hsc : sc v2 = true := by
    have := (W2.sc hi2).1
    unfold upd at this
    rwa [if_pos rfl] at this
  refine chk_iff.2 ⟨hsc, st_elem (W2.get i _ rm (hA' _) rfl) hget hag ?_⟩
  have hlen : ((List.range n).map F).length = n := by simp
  have hi1 := hA' (rowsO n (upd F x v2) (upd G x (G x ++ [a])) ++ B)
  have hi1' : (A ++ (rowsO n (upd F x v2) (upd G x (G x ++ [a])) ++ B))[i]? = some (.slc 1 (.sl rm 1 0 ((List.range n).map F).length) ((List.range n).map F)) := by rw [hlen]; exact hi1
  have W3 := W2.putS hi1' (l' := ((List.range n).map F).set x v2) (by simp)
  rw [hlen, map_set, List.set_append_left _ _ hil] at W3
  rw [map_set]
  exact hX v2 _ W3
end

/-- the memory of two tables that grow -/
abbrev TB2 (hb : Heap) (rm rj n : Nat) (f f' : Nat → AVal) (g g' : Nat → List Nat) (h : Heap) : Prop :=
  Own hb ([.slc 1 (.sl rm 1 0 n) ((List.range n).map f), .slc 1 (.sl rj 1 0 n) ((List.range n).map f')] ++ (rowsO n f g ++ rowsO n f' g')) h

section
variable {rm rj : Nat} {F F' : Nat → AVal} {G G' : Nat → List Nat}
theorem TB2.app1 (hn : n ≤ 64) {x a : Nat} (hx : x < n) (W : TB2 hb rm rj n F F' G G' h) (hl : (G x).length ≤ 64) {X : Heap → Prop} (hX : ∀ v h', TB2 hb rm rj n (upd F x v) F' (upd G x (G x ++ [a])) G' h' → X h') :
    ixS 1 (.sl rm 1 0 n) (x : Int) fun p1 => ld1 h p1 fun v20 => appC 1 8 h v20 (.lsl 1 [(.int .i64 (a : Int))]) fun v21 h_4 => ixS 1 (.sl rm 1 0 n) (x : Int) fun p2 => chk (sc v21) (st true h_4 p2 [v21] X) :=
  row_app (i := 0) _ _ hn hx rfl W hl fun v h' W' => hX v h' W'
theorem TB2.app2 (hn : n ≤ 64) {x a : Nat} (hx : x < n) (W : TB2 hb rm rj n F F' G G' h) (hl : (G' x).length ≤ 64) {X : Heap → Prop} (hX : ∀ v h', TB2 hb rm rj n F (upd F' x v) G (upd G' x (G' x ++ [a])) h' → X h') :
    ixS 1 (.sl rj 1 0 n) (x : Int) fun p1 => ld1 h p1 fun v20 => appC 1 8 h v20 (.lsl 1 [(.int .i64 (a : Int))]) fun v21 h_4 => ixS 1 (.sl rj 1 0 n) (x : Int) fun p2 => chk (sc v21) (st true h_4 p2 [v21] X) := by
  have e : ∀ (m j : Ow) (R R' : List Ow), [m, j] ++ (R ++ R') = ([m, j] ++ R) ++ (R' ++ []) := fun m j R R' => by simp
  have W1 : Own hb (([.slc 1 (.sl rm 1 0 n) ((List.range n).map F), .slc 1 (.sl rj 1 0 n) ((List.range n).map F')] ++ rowsO n F G) ++ (rowsO n F' G' ++ [])) h := by rw [← e]; exact W
  refine row_app (i := 1) _ _ hn hx rfl W1 hl fun v h' W' => hX v h' ?_
  have W2 : Own hb (([.slc 1 (.sl rm 1 0 n) ((List.range n).map F), .slc 1 (.sl rj 1 0 n) ((List.range n).map (upd F' x v))] ++ rowsO n F G) ++ (rowsO n (upd F' x v) (upd G' x (G' x ++ [a])) ++ [])) h' := W'
  rw [← e] at W2
  exact W2
end

section
variable (hf : T2 f n r) (hn : n ≤ 64) {rm rj : Nat}
include hf hn
theorem tables_l2 {x : Nat} (hx : x < n) {L1 : s39l1_T} {b0 : AVal × AVal} (hb0 : b0 = (.sl rm 1 0 n, .sl rj 1 0 n)) (no : ∀ y, y < n → tabB n r x y = false → K (.tuple [.nilsl, .nilsl, .bool false]) hb)
    (yes : (∀ y, y < n → tabB n r x y = true) → ∀ F F' G G' h', GT (mRow n r) x n G → GT (jRow n r) x n G' → TB2 hb rm rj n F F' G G' h' → L1 (.lptr (latC n f)) b0.1 b0.2 n ((x : Int) + 1) h') :
    ∀ d y : Nat, y + d = n → (∀ y', y' < y → tabB n r x y' = true) → ∀ F F' G G' h, GT (mRow n r) x y G → GT (jRow n r) x y G' → TB2 hb rm rj n F F' G G' h →
      s39l2 K L1 (d + 1) (.lptr (latC n f)) b0.1 b0.2 (x : Int) n (x : Int) n (y : Int) h
  | 0, y, hd, hb', F, F', G, G', h, g1, g2, W => by
    obtain rfl : y = n := by omega
    unfold s39l2
    exact ifT_neg (by simp) (rg_of (by omega) (by omega) (yes (fun z' hz' => hb' z' hz') F F' G G' h g1 g2 W))
  | d + 1, y, hd, hb', F, F', G, G', h, g1, g2, W => by
    have hy : y < n := by omega
    unfold s39l2
    refine ifT_pos (by simp; omega) ?_
    rw [ldN_agg2, tCons_cons, tInt_int, tCons_cons, tNil_nil]
    refine callG_of (meetH_ok hf (by omega) hx hy ?_)
    unfold bestV
    rw [tTup_tuple, tCons_cons, tInt_int, tCons_cons, tBool_bool, tNil_nil, ldN_agg2, tCons_cons, tInt_int, tCons_cons, tNil_nil]
    refine callG_of (joinH_ok hf (by omega) hx hy ?_)
    unfold bestV
    rw [tTup_tuple, tCons_cons, tInt_int, tCons_cons, tBool_bool, tNil_nil]
    have bad : tabB n r x y = false → s39c3 K L1 (s39l2_G (s39l2 K L1 (d + 1))) (.lptr (latC n f)) b0.1 b0.2 (x : Int) (((meetO n r x y).getD 0 : Nat) : Int) (((joinO n r x y).getD 0 : Nat) : Int) n (x : Int) n (y : Int) true h := fun e => by
      unfold s39c3
      exact ifT_pos rfl (retG_drop W.old (no y hy e))
    cases e1 : (meetO n r x y).isSome with
    | false => exact ifT_pos rfl (bad (by unfold tabB; rw [e1, Bool.false_and]))
    | true =>
      refine ifT_neg rfl ?_
      cases e2 : (joinO n r x y).isSome with
      | false => exact bad (by unfold tabB; rw [e2, Bool.and_false])
      | true =>
        have et : tabB n r x y = true := by unfold tabB; rw [e1, e2]; rfl
        show s39c3 K L1 (s39l2_G (s39l2 K L1 (d + 1))) (.lptr (latC n f)) b0.1 b0.2 (x : Int) ((mt n r x y : Nat) : Int) ((jn n r x y : Nat) : Int) n (x : Int) n (y : Int) false h
        unfold s39c3
        refine ifT_neg rfl ?_
        subst hb0
        have lm : (mRow n r x).length = n := by simp [mRow]
        have lj : (jRow n r x).length = n := by simp [jRow]
        refine W.app1 hn hx (by rw [g1.at_, List.length_take]; omega) fun v h2 W2 => ?_
        refine W2.app2 hn hx (by rw [g2.at_, List.length_take]; omega) fun v' h3 W3 => ?_
        refine rg_of (by omega) (by omega) (s39l2_go (tables_l2 hx rfl no yes d (y + 1) (by omega) (fun y' hy' => ?_) _ _ _ _ _ (g1.put (range_get _ hy)) (g2.put (range_get _ hy)) W3))
        by_cases e3 : y' = y
        · rw [e3]; exact et
        · exact hb' y' (by omega)
theorem tables_l1 (no : tabsP n r = false → K (.tuple [.nilsl, .nilsl, .bool false]) hb) (yes : tabsP n r = true → ∀ vm vj, Intss vm (mTab n r) → Intss vj (jTab n r) → K (.tuple [vm, vj, .bool true]) hb)
    {b0 : AVal × AVal} (hb0 : b0 = (.sl rm 1 0 n, .sl rj 1 0 n)) : ∀ d x : Nat, x + d = n → (∀ x', x' < x → ∀ y, y < n → tabB n r x' y = true) → ∀ F F' G G' h, GT (mRow n r) x 0 G → GT (jRow n r) x 0 G' → TB2 hb rm rj n F F' G G' h →
      s39l1 K (d + 1) (.lptr (latC n f)) b0.1 b0.2 n (x : Int) h
  | 0, x, hd, hb', F, F', G, G', h, g1, g2, W => by
    obtain rfl : x = n := by omega
    unfold s39l1
    refine ifT_neg (by simp) ?_
    have et : tabsP x r = true := by
      unfold tabsP
      exact all_of fun x' hx' => all_of fun y hy => hb' x' hx' y hy
    subst hb0
    let Sg : Nat → Prop := fun q => nameOf (.sl rm 1 0 x) q ∨ nameOf (.sl rj 1 0 x) q ∨ (∃ k, k < x ∧ nameOf (F k) q) ∨ ∃ k, k < x ∧ nameOf (F' k) q
    have e : ∀ (m j : Ow) (R R' : List Ow), [m, j] ++ (R ++ R') = ([m, j] ++ R) ++ (R' ++ []) := fun m j R R' => by simp
    have i1 := fun k (hk : k < x) => rowsO_at (f := F) (g := G) [.slc 1 (.sl rm 1 0 x) ((List.range x).map F), .slc 1 (.sl rj 1 0 x) ((List.range x).map F')] (rowsO x F' G') hk
    have i2 := fun k (hk : k < x) => rowsO_at (f := F') (g := G') ([.slc 1 (.sl rm 1 0 x) ((List.range x).map F), .slc 1 (.sl rj 1 0 x) ((List.range x).map F')] ++ rowsO x F G) [] hk
    simp only [← e] at i2
    obtain ⟨l1, hl1, hR1⟩ := lits_rows (g := G) W (S := Sg) (List.range x) (fun k hk => ⟨_, i1 k (List.mem_range.1 hk)⟩) (fun k hk q hq => .inr (.inr (.inl ⟨k, List.mem_range.1 hk, hq⟩)))
    obtain ⟨l2, hl2, hR2⟩ := lits_rows (g := G') W (S := Sg) (List.range x) (fun k hk => ⟨_, i2 k (List.mem_range.1 hk)⟩) (fun k hk q hq => .inr (.inr (.inr ⟨k, List.mem_range.1 hk, hq⟩)))
    obtain ⟨m', lm, sm⟩ := W.lit (i := 0) rfl (S := Sg) (fun q hq => .inl hq) hl1
    obtain ⟨j', lj, sj⟩ := W.lit (i := 1) rfl (S := Sg) (fun q hq => .inr (.inl hq)) hl2
    have r1 : (List.range x).map (fun k => natI (G k)) = mTab x r := List.map_congr_left fun k hk => by rw [g1.lo k (List.mem_range.1 hk)]
    have r2 : (List.range x).map (fun k => natI (G' k)) = jTab x r := List.map_congr_left fun k hk => by rw [g2.lo k (List.mem_range.1 hk)]
    rw [r1] at hR1
    rw [r2] at hR2
    refine ⟨Sg, .tuple [m', j', .bool true], hb, .tuple (.cons lm (.cons lj (.cons (.refl _) .nil))), base_step W Sg fun q hs => ?_, yes et m' j' ⟨_, sm, hR1⟩ ⟨_, sj, hR2⟩⟩
    rcases hs with hs | hs | ⟨k, hk, hs⟩ | ⟨k, hk, hs⟩
    · exact W.new 0 _ q rfl hs
    · exact W.new 1 _ q rfl hs
    · exact W.new _ _ q (i1 k hk) hs
    · exact W.new _ _ q (i2 k hk) hs
  | d + 1, x, hd, hb', F, F', G, G', h, g1, g2, W => by
    unfold s39l1
    refine ifT_pos (by simp; omega) ?_
    simp only [addOff_lptr, List.drop_zero, ld1_lptr, tInt_int]
    refine s39l2_in (n + 1) (tables_l2 hf hn (by omega) hb0 (fun y hy ey => no ?_) (fun hall F1 F1' G1 G1' h1 k1 k2 W1 => ?_) n 0 (by omega) (fun y' hy' => by omega) F F' G G' h g1 g2 W)
    · unfold tabsP
      exact all_not (x := x) (by omega) (all_not hy ey)
    · have lm : (mRow n r x).length = n := by simp [mRow]
      have lj : (jRow n r x).length = n := by simp [jRow]
      refine s39l1_go (tables_l1 no yes hb0 d (x + 1) (by omega) (fun x' hx' y hy => ?_) F1 F1' G1 G1' h1 (k1.next (by omega)) (k2.next (by omega)) W1)
      by_cases e3 : x' = x
      · rw [e3]; exact hall y hy
      · exact hb' x' (by omega) y hy
omit hf hn in
theorem rowsO_nil (q : Nat) : rowsO q (fun _ => .nilsl) (fun _ => []) = (List.range q).map fun _ => .slc 1 .nilsl [] := rfl
omit hf hn in
theorem map_nil_rep (n : Nat) : (List.range n).map (fun _ => AVal.nilsl) = List.replicate n .nilsl := by
  refine List.ext_getElem (by simp) fun i h1 h2 => ?_
  simp
omit hf hn in
theorem gt_start (R : Nat → List Nat) : GT R 0 0 fun _ => [] := ⟨fun k hk => by omega, rfl, fun _ _ => rfl⟩
theorem tables_ok (no : tabsP n r = false → K (.tuple [.nilsl, .nilsl, .bool false]) h) (yes : tabsP n r = true → ∀ vm vj, Intss vm (mTab n r) → Intss vj (jTab n r) → K (.tuple [vm, vj, .bool true]) h) : ACalls prog 39 [latV n f] h K := by
  refine s39_ok ?_
  unfold s39
  refine ⟨mkS_own (by omega) (by omega) fun ra hra => ⟨rfl, mkS_own (by omega) (by omega) fun rb hrb => ?_⟩, mkS_own (by omega) (by omega) fun ra hra => ⟨rfl, mkS_own (by omega) (by omega) fun rb hrb => ?_⟩⟩
  · have W0 := (Own.start h).newS hra (es := 1) (List.replicate n .nilsl)
    have W1 := W0.newS hrb (es := 1) (List.replicate n .nilsl)
    rw [List.length_replicate] at W1
    have W2 := newNs (newNs W1 n) n
    rw [List.append_assoc, ← rowsO_nil, ← map_nil_rep] at W2
    rw [← map_nil_rep]
    exact s39l1_in (n + 1) (tables_l1 hf hn no yes (rm := ra) (rj := rb) (b0 := (.sl ra 1 0 n, .sl rb 1 0 n)) rfl n 0 (by omega) (fun x' hx' => by omega) _ _ _ _ _ (gt_start _) (gt_start _) W2)
  · have W0 := (Own.start h).newS hra (es := 1) (List.replicate n .nilsl)
    have W1 := W0.newS hrb (es := 1) (List.replicate n .nilsl)
    rw [List.length_replicate] at W1
    have W1' := W1.renum [.slc 1 (.sl rb 1 0 n) (List.replicate n .nilsl), .slc 1 (.sl ra 1 0 n) (List.replicate n .nilsl)] (fun j => 1 - j) (fun j y hj => by
      match j, hj with
      | 0, hj => exact hj
      | 1, hj => exact hj
      | j + 2, hj => simp at hj) (show ∀ j, j < 2 → ∀ k, k < 2 → _ = _ → j = k by omega)
    have W2 := newNs (newNs W1' n) n
    rw [List.append_assoc, ← rowsO_nil, ← map_nil_rep] at W2
    rw [← map_nil_rep]
    exact s39l1_in (n + 1) (tables_l1 hf hn no yes (rm := rb) (rj := ra) (b0 := (.sl rb 1 0 n, .sl ra 1 0 n)) rfl n 0 (by omega) (fun x' hx' => by omega) _ _ _ _ _ (gt_start _) (gt_start _) W2)
end
end Go.Proofs.Ytljglglbfcgjpaa

namespace Go.Proofs.Ytljglglbfcgjpaa
open Go Go.Sym Go.Proofs.Try

variable {K : AVal → Heap → Prop} {h h0 hb : Heap} {n : Nat} {r : Nat → Nat → Bool} {f : AVal}

/- ---------------- rows of truths ---------------- -/
def Bools (v : AVal) (l : List Bool) : Prop := SlOf 1 v (l.map .bool)
def Boolss (v : AVal) (ll : List (List Bool)) : Prop := ∃ l, SlOf 1 v l ∧ All2 Bools l ll
theorem Bools.len {v : AVal} {l : List Bool} (h : Bools v l) (K : Int → Prop) : lenN v K = K l.length := by rw [lenN_of h]; simp
theorem Bools.ix {v : AVal} {l : List Bool} (h : Bools v l) {i : Nat} (hi : i < l.length) (K : AVal → Prop) : ixS 1 v (i : Int) K = K (.lptr [.bool l[i]]) := by
  rw [ixS_nat h (e := .bool l[i]) (by simp [hi])]; rfl
theorem Boolss.len {v : AVal} {l : List (List Bool)} (h : Boolss v l) (K : Int → Prop) : lenN v K = K l.length := by
  obtain ⟨m, h1, h2⟩ := h
  rw [lenN_of h1, h2.length]
theorem Bools.notAgg {v : AVal} {l : List Bool} (h : Bools v l) : cellsOf v = [v] ∧ sc v = true := by
  rcases h with rfl | ⟨rfl, _⟩ <;> exact ⟨rfl, rfl⟩
theorem Boolss.ix {v : AVal} {l : List (List Bool)} (h : Boolss v l) {i : Nat} (hi : i < l.length) : ∃ e, Bools e l[i] ∧ ∀ K : AVal → Prop, ixS 1 v (i : Int) K = K (.lptr [e]) := by
  obtain ⟨m, h1, h2⟩ := h
  obtain ⟨e, he, hr⟩ := h2.get (i := i) (b := l[i]) (by simp [hi])
  refine ⟨e, hr, fun K => ?_⟩
  rw [ixS_nat h1 he, hr.notAgg.1]
/-- a square table -/
def Sq (L : List (List Bool)) : Prop := ∀ row ∈ L, row.length = L.length
theorem Boolss.rd {v : AVal} {L : List (List Bool)} (hv : Boolss v L) (hs : Sq L) {x : Nat} (hx : x < L.length) : ∃ e, (∀ (h : Heap) (K : AVal → Prop), (ixS 1 v (x : Int) fun p => ld1 h p K) = K e) ∧ (∀ K : Int → Prop, lenN e K = K L.length) ∧
    ∀ y, y < L.length → ∀ (h : Heap) (K : AVal → Prop), (ixS 1 e (y : Int) fun p => ld1 h p K) = K (.bool (at2 L x y)) := by
  obtain ⟨e, he, hix⟩ := hv.ix hx
  have hl := hs _ (List.getElem_mem hx)
  refine ⟨e, fun h K => ?_, fun K => ?_, fun y hy h K => ?_⟩
  · rw [hix, ld1_lptr]
  · rw [he.len, hl]
  · have hy' : y < L[x].length := by omega
    rw [he.ix hy', ld1_lptr]
    congr 2
    unfold at2
    simp [List.getD, hx, hy']
abbrev leqV (a : AVal) : AVal := .func (.func 35) [] [.lptr [a]]
theorem leqV_tells {a : AVal} {L : List (List Bool)} (hv : Boolss a L) (hs : Sq L) : T2 (leqV a) L.length (at2 L) := by
  intro x y h K hx hy hk
  show callG prog 35 ([] ++ [.int .i64 (x : Int), .int .i64 (y : Int)] ++ [.lptr [a]]) h K
  refine callG_of (s35_ok ?_)
  unfold s35
  obtain ⟨e, e1, _, e2⟩ := hv.rd hs hx
  simp only [addOff_lptr, List.drop_zero, ld1_lptr]
  rw [e1, e2 y hy, tBool_bool]
  exact retG_of hk

theorem idxFB_loop {v f : AVal} {l : List (List Bool)} {p : List Bool → Bool} (hv : Boolss v l) (hm : l.length ≤ 1073741824)
    (hf : ∀ s ∈ l, ∀ e, Bools e s → ∀ K : AVal → Heap → Prop, K (.bool (p s)) h → callV prog f [e] h K) (hk : ∀ n : Int, (0 ≤ n ↔ ∃ s ∈ l, p s = true) → K (.int .i64 n) h) : ∀ d i : Nat, i + d = l.length → (∀ s ∈ l.take i, p s = false) →
    s59l1 K (d + 1) v f (l.length : Int) (i : Int) h
  | 0, i, hd, hn => by
    unfold s59l1
    refine ifT_neg (by simp; omega) (retG_of (hk _ ?_))
    rw [List.take_of_length_le (by omega)] at hn
    constructor
    · intro h0; omega
    · rintro ⟨s, hs, hp⟩; rw [hn s hs] at hp; cases hp
  | d + 1, i, hd, hn => by
    have hi : i < l.length := by omega
    unfold s59l1
    refine ifT_pos (by simp; omega) ?_
    obtain ⟨e, he, hix⟩ := hv.ix hi
    rw [hix, ld1_lptr]
    refine hf _ (List.getElem_mem hi) e he _ ?_
    rw [tBool_bool]
    cases he : p l[i] with
    | true => exact ifT_pos rfl (retG_of (hk _ ⟨fun _ => ⟨_, List.getElem_mem hi, he⟩, fun _ => by omega⟩))
    | false =>
      refine ifT_neg rfl (rg_of (by omega) (by omega) (s59l1_go (idxFB_loop hv hm hf hk d (i + 1) (by omega) ?_)))
      rw [List.take_succ_eq_append_getElem hi]
      intro s hs
      rcases List.mem_append.1 hs with hs | hs
      · exact hn s hs
      · simp at hs; rw [hs, he]
theorem containsFB_ok {v f : AVal} {l : List (List Bool)} {p : List Bool → Bool} (hv : Boolss v l) (hm : l.length ≤ 1073741824)
    (hf : ∀ s ∈ l, ∀ e, Bools e s → ∀ K : AVal → Heap → Prop, K (.bool (p s)) h → callV prog f [e] h K) (hk : K (.bool (l.any p)) h) : ACalls prog 36 [v, f] h K := by
  refine s36_ok (callG_of (s59_ok ?_))
  unfold s59
  rw [hv.len]
  refine s59l1_in (l.length + 1) (idxFB_loop hv hm hf (fun n hn => ?_) l.length 0 (by omega) (by simp))
  rw [tInt_int]
  refine retG_of ?_
  rwa [show decide (0 ≤ n) = l.any p by rw [Bool.eq_iff_iff]; simpa using hn]

/- ---------------- tables of numbers that are read ---------------- -/
theorem tab_rd {v : AVal} {c : Nat → Nat → Nat} (hv : Intss v ((List.range n).map fun x => natI ((List.range n).map fun y => c x y))) {x : Nat} (hx : x < n) : ∃ e, (∀ (h : Heap) (K : AVal → Prop), (ixS 1 v (x : Int) fun p => ld1 h p K) = K e) ∧
    ∀ y, y < n → ∀ (h : Heap) (K : AVal → Prop), (ixS 1 e (y : Int) fun p => ld1 h p K) = K (.int .i64 ((c x y : Nat) : Int)) := by
  obtain ⟨e, he, hix⟩ := hv.ix (i := x) (by simpa using hx)
  refine ⟨e, fun h K => by rw [hix, ld1_lptr], fun y hy h K => ?_⟩
  simp only [List.getElem_map, List.getElem_range] at he
  rw [he.ix (i := y) (by simp [natI, hy]), ld1_lptr]
  simp [natI]

/- ---------------- the look ---------------- -/
def inE (n : Nat) (e : Int) : Bool := decide (0 ≤ e) && decide (e < n)
/-- the look's answer -/
def lookE (L : List (List Bool)) (els : List Int) : Int := if algP L then (if els.all (inE L.length) then 0 else 2) else 230
abbrev LM (h0 : Heap) (rt r1 r2 n : Nat) (f X Y : AVal) (h : Heap) : Prop := Own h0 [.cell rt (.row 2 [.agg [X, Y]]), .cell r1 (.row 1 [.int .i64 (n : Int)]), .cell r2 (.row 2 [.agg (latC n f)])] h

section
variable {rt r1 r2 : Nat} {X Y : AVal}
theorem look_end (W : LM h0 rt r1 r2 n f X Y h) {e : Int} (hk : K (.tuple [latV n f, .int .i64 e]) h0) :
    ldN 2 h (.ptr r2 0 0) fun l_1 => tCons l_1 fun v2 l_2 => tInt .i64 v2 fun v3 => tCons l_2 fun v4 l_3 => tNil l_3 (st false h (.ptr rt 0 0) [(.int .i64 v3), v4] fun h_5 => ldN 2 h_5 (.ptr rt 0 0) fun l_4 =>
      tCons l_4 fun v5 l_5 => tInt .i64 v5 fun v6 => tCons l_5 fun v7 l_6 => tNil l_6 (retG (.tuple [(.agg [(.int .i64 v6), v7]), (.int .i64 e)]) h_5 K)) := by
  rw [ldN2 (W.get 2 _ r2 rfl rfl), tCons_cons, tInt_int, tCons_cons, tNil_nil]
  refine st_all (W.get 0 _ rt rfl rfl) rfl ?_
  have W2 := W.put (i := 0) rfl (.row 2 [.agg (latC n f)])
  rw [ldN2 (W2.get 0 _ rt rfl rfl), tCons_cons, tInt_int, tCons_cons, tNil_nil]
  exact retG_drop W2.old hk

variable (hn : n ≤ 64) (h1 : 1 ≤ n)
section
variable {vm vj : AVal} (hm : Intss vm (mTab n r)) (hj : Intss vj (jTab n r)) (W : LM h0 rt r1 r2 n f X Y h)
include hm hj W hn h1
theorem look_l4 {x y : Nat} (hx : x < n) (hy : y < n) {L2 : s23l2_T} {L3 : s23l3_T} {ev : AVal} (no : ∀ z, z < n → distB n r x y z = false → K (.tuple [latV n f, .int .i64 230]) h0)
    (yes : (∀ z, z < n → distB n r x y z = true) → L3 ev (.ptr rt 0 0) (.ptr r1 0 0) (.ptr r2 0 0) vm vj (x : Int) n (x : Int) n ((y : Int) + 1) h) : ∀ d z : Nat, z + d = n → (∀ z', z' < z → distB n r x y z' = true) →
    s23l4 K L2 L3 (d + 1) ev (.ptr rt 0 0) (.ptr r1 0 0) (.ptr r2 0 0) vm vj (x : Int) (y : Int) n (x : Int) n (y : Int) n (z : Int) h
  | 0, z, hd, hb => by
    unfold s23l4
    exact ifT_neg (by simp; omega) (rg_of (by omega) (by omega) (yes fun z' hz' => hb z' (by omega)))
  | d + 1, z, hd, hb => by
    have hz : z < n := by omega
    obtain ⟨em, m1, m2⟩ := tab_rd (c := mt n r) hm hx
    obtain ⟨ej, j1, j2⟩ := tab_rd (c := jn n r) hj hy
    obtain ⟨ek, k1, k2⟩ := tab_rd (c := jn n r) hj (mt_lt (r := r) h1 x y)
    unfold s23l4
    refine ifT_pos (by simp; omega) ?_
    rw [m1, j1, j2 z hz, tInt_int, m2 _ (jn_lt h1 _ _), tInt_int, m1, m2 y hy, tInt_int, k1, m1, m2 z hz, tInt_int, k2 _ (mt_lt h1 _ _), tInt_int]
    cases e : distB n r x y z with
    | false =>
      refine ifT_pos ?_ (look_end W (no z hz e))
      unfold distB at e
      simp at e ⊢
      omega
    | true =>
      refine ifT_neg ?_ (rg_of (by omega) (by omega) (s23l4_go (look_l4 hx hy no yes d (z + 1) (by omega) fun z' hz' => ?_)))
      · unfold distB at e
        simp at e ⊢
        omega
      · by_cases e2 : z' = z
        · rw [e2]; exact e
        · exact hb z' (by omega)
theorem look_l3 {x : Nat} (hx : x < n) {L2 : s23l2_T} {ev : AVal} (no : ∀ y z, y < n → z < n → distB n r x y z = false → K (.tuple [latV n f, .int .i64 230]) h0)
    (yes : (∀ y z, y < n → z < n → distB n r x y z = true) → L2 ev (.ptr rt 0 0) (.ptr r1 0 0) (.ptr r2 0 0) vm vj n ((x : Int) + 1) h) : ∀ d y : Nat, y + d = n → (∀ y' z, y' < y → z < n → distB n r x y' z = true) →
    s23l3 K L2 (d + 1) ev (.ptr rt 0 0) (.ptr r1 0 0) (.ptr r2 0 0) vm vj (x : Int) n (x : Int) n (y : Int) h
  | 0, y, hd, hb => by
    unfold s23l3
    exact ifT_neg (by simp; omega) (rg_of (by omega) (by omega) (yes fun y' z' hy' hz' => hb y' z' (by omega) hz'))
  | d + 1, y, hd, hb => by
    unfold s23l3
    refine ifT_pos (by simp; omega) ?_
    rw [ld1_one (W.get 1 _ r1 rfl rfl) rfl, tInt_int]
    refine s23l4_in (n + 1) (look_l4 hn h1 hm hj W hx (by omega) (fun z hz e => no y z (by omega) hz e) (fun hall => ?_) n 0 (by omega) (fun z' hz' => by omega))
    refine s23l3_go (look_l3 hx no yes d (y + 1) (by omega) fun y' z hy' hz => ?_)
    by_cases e2 : y' = y
    · rw [e2]; exact hall z hz
    · exact hb y' z (by omega) hz
omit hm hj hn h1 in
theorem look_l5 {ev : AVal} {els : List Int} (he : Ints ev els) (hl : els.length ≤ 1048576) (no : els.all (inE n) = false → K (.tuple [latV n f, .int .i64 2]) h0) (yes : els.all (inE n) = true → K (.tuple [latV n f, .int .i64 0]) h0) :
    ∀ d i : Nat, i + d = els.length → (∀ x ∈ els.take i, inE n x = true) → s23l5 K (d + 1) (.ptr rt 0 0) (.ptr r1 0 0) (.ptr r2 0 0) ev els.length (i : Int) h
  | 0, i, hd, hb => by
    unfold s23l5
    refine ifT_neg (by simp; omega) (look_end W (yes ?_))
    rw [List.take_of_length_le (by omega)] at hb
    rw [List.all_eq_true]
    exact hb
  | d + 1, i, hd, hb => by
    have hi : i < els.length := by omega
    unfold s23l5
    refine ifT_pos (by simp; omega) ?_
    rw [he.ix hi, ld1_lptr, tInt_int]
    have bad : inE n els[i] = false → s23c6 K (s23l5_G (s23l5 K (d + 1))) (.ptr rt 0 0) (.ptr r1 0 0) (.ptr r2 0 0) ev els.length (i : Int) true h := fun e => by
      unfold s23c6
      refine ifT_pos rfl (look_end W (no ?_))
      rw [List.all_eq_false]
      exact ⟨_, List.getElem_mem hi, by simp [e]⟩
    by_cases e1 : els[i] < 0
    · exact ifT_pos (by simpa using e1) (bad (by unfold inE; simp; omega))
    · refine ifT_neg (by simpa using e1) ?_
      rw [ld1_one (W.get 1 _ r1 rfl rfl) rfl, tInt_int]
      by_cases e2 : (n : Int) ≤ els[i]
      · rw [decide_eq_true e2]
        exact bad (by unfold inE; simp; omega)
      · rw [decide_eq_false e2]
        unfold s23c6
        refine ifT_neg rfl (rg_of (by omega) (by omega) (s23l5_go (look_l5 he hl no yes d (i + 1) (by omega) ?_)))
        rw [List.take_succ_eq_append_getElem hi]
        intro s hs
        rcases List.mem_append.1 hs with hs | hs
        · exact hb s hs
        · simp at hs; rw [hs]; unfold inE; simp; omega
theorem look_l2 {ev : AVal} {els : List Int} (he : Ints ev els) (hl : els.length ≤ 1048576) (bad : distP n r = false → K (.tuple [latV n f, .int .i64 230]) h0) (no : distP n r = true → els.all (inE n) = false → K (.tuple [latV n f, .int .i64 2]) h0)
    (yes : distP n r = true → els.all (inE n) = true → K (.tuple [latV n f, .int .i64 0]) h0) : ∀ d x : Nat, x + d = n → (∀ x' y z, x' < x → y < n → z < n → distB n r x' y z = true) →
    s23l2 K (d + 1) ev (.ptr rt 0 0) (.ptr r1 0 0) (.ptr r2 0 0) vm vj n (x : Int) h
  | 0, x, hd, hb => by
    have ed : distP n r = true := by
      unfold distP
      exact all_of fun x' hx' => all_of fun y hy => all_of fun z hz => hb x' y z (by omega) hy hz
    unfold s23l2
    refine ifT_neg (by simp; omega) ?_
    rw [he.len]
    exact s23l5_in (els.length + 1) (look_l5 W he hl (no ed) (yes ed) els.length 0 (by omega) (by simp))
  | d + 1, x, hd, hb => by
    unfold s23l2
    refine ifT_pos (by simp; omega) ?_
    rw [ld1_one (W.get 1 _ r1 rfl rfl) rfl, tInt_int]
    refine s23l3_in (n + 1) (look_l3 hn h1 hm hj W (by omega) (fun y z hy hz e => bad ?_) (fun hall => ?_) n 0 (by omega) (fun y' z hy' => by omega))
    · unfold distP
      exact all_not (x := x) (by omega) (all_not hy (all_not hz e))
    · refine s23l2_go (look_l2 he hl bad no yes d (x + 1) (by omega) fun x' y z hx' hy hz => ?_)
      by_cases e2 : x' = x
      · rw [e2]; exact hall y z hy hz
      · exact hb x' y z (by omega) hy hz
end
end
theorem sq_any {L : List (List Bool)} : (L.any fun row => row.length != L.length) = false ↔ Sq L := by
  rw [List.any_eq_false]
  unfold Sq
  simp
theorem sq_all {L : List (List Bool)} : (L.all fun row => row.length == L.length) = true ↔ Sq L := by
  rw [List.all_eq_true]
  unfold Sq
  simp
theorem algP_sq {L : List (List Bool)} (h : algP L = true) : Sq L ∧ 1 ≤ L.length ∧ L.length ≤ 64 := by
  unfold algP at h
  simp only [Bool.and_eq_true, decide_eq_true_eq] at h
  obtain ⟨⟨⟨⟨⟨h1, h2⟩, h3⟩, _⟩, _⟩, _⟩ := h
  exact ⟨sq_all.1 h3, h1, h2⟩
theorem look_ok {a ev : AVal} {L : List (List Bool)} {els : List Int} (hv : Boolss a L) (hL : L.length ≤ 1048576) (hrl : ∀ row ∈ L, row.length ≤ 1048576) (he : Ints ev els) (hl : els.length ≤ 1048576)
    (hk : K (.tuple [latV L.length (leqV a), .int .i64 (lookE L els)]) h) : ACalls prog 23 [.agg [a], ev] h K := by
  refine s23_ok ?_
  unfold s23
  refine newRow_in fun rt hrt => ?_
  rw [hv.len]
  have W0 := (Own.start h).newC hrt (.row 2 [.agg [.int .i64 0, .nilfunc]])
  refine newRow_in fun r1 hr1 => ?_
  have W1 := W0.newC hr1 (.row 1 [.int .i64 0])
  refine st_elem (Heap.set_same _ _ _) rfl rfl ?_
  have W2 : Own h [.cell rt (.row 2 [.agg [.int .i64 0, .nilfunc]]), .cell r1 (.row 1 [.int .i64 (L.length : Int)])] _ := W1.put (i := 1) rfl (.row 1 ([.int .i64 0].set 0 (.int .i64 (L.length : Int))))
  rw [ld1_one (W2.get 1 _ r1 rfl rfl) rfl, tInt_int]
  refine newRow_in fun r2 hr2 => ?_
  have W3 := W2.newC hr2 (.row 2 [.agg [.int .i64 0, .nilfunc]])
  refine st_all (Heap.set_same _ _ _) rfl ?_
  have W4 : LM h rt r1 r2 L.length (leqV a) (.int .i64 0) .nilfunc _ := W3.put (i := 2) rfl (.row 2 [.agg (latC L.length (leqV a))])
  generalize hgen : Heap.set _ r2 _ = hh at W4 ⊢
  clear hgen
  rw [ld1_one (W4.get 1 _ r1 rfl rfl) rfl, tInt_int]
  have bad : algP L = false → s23c1 K ev (.ptr rt 0 0) (.ptr r1 0 0) (.ptr r2 0 0) true hh := fun e => by
    unfold lookE at hk
    rw [e] at hk
    unfold s23c1
    exact ifT_pos rfl (look_end W4 hk)
  by_cases c1 : (L.length : Int) < 1
  · exact ifT_pos (by simpa using c1) (bad (by unfold algP; rw [decide_eq_false (show ¬ 1 ≤ L.length by omega)]; rfl))
  refine ifT_neg (by simpa using c1) ?_
  rw [ld1_one (W4.get 1 _ r1 rfl rfl) rfl, tInt_int]
  by_cases c2 : (64 : Int) < L.length
  · exact ifT_pos (by simpa using c2) (bad (by unfold algP; rw [decide_eq_false (show ¬ L.length ≤ 64 by omega)]; simp))
  refine ifT_neg (by simpa using c2) ?_
  refine callG_of (containsFB_ok (p := fun row => row.length != L.length) hv (by omega) (fun s hs e hse K' hk' => ?_) ?_)
  · show callG prog 37 ([] ++ [e] ++ [.ptr r1 0 0]) hh K'
    refine callG_of (s37_ok ?_)
    unfold s37
    rw [hse.len, ld1_one (W4.get 1 _ r1 rfl rfl) rfl, tInt_int]
    refine retG_of ?_
    rwa [show ((s.length : Int) != (L.length : Int)) = (s.length != L.length) by rw [Bool.eq_iff_iff]; simp; omega]
  rw [tBool_bool]
  cases c3 : (L.any fun row => row.length != L.length) with
  | true =>
    refine ifT_pos rfl (bad ?_)
    have : ¬ Sq L := fun hs => by rw [sq_any.2 hs] at c3; cases c3
    have e : (L.all fun row => row.length == L.length) = false := by
      cases e : (L.all fun row => row.length == L.length) with
      | false => rfl
      | true => exact absurd (sq_all.1 e) this
    unfold algP
    rw [e]
    simp
  | false =>
    have hs := sq_any.1 c3
    refine ifT_neg rfl ?_
    rw [ldN2 (W4.get 2 _ r2 rfl rfl), tCons_cons, tInt_int, tCons_cons, tNil_nil]
    have hf := leqV_tells hv hs
    refine callG_of (orderedH_ok hf (by omega) ?_)
    rw [tBool_bool]
    cases c4 : ordP L.length (at2 L) with
    | false => exact bad (by unfold algP; rw [c4]; simp)
    | true =>
      unfold s23c1
      refine ifT_neg rfl ?_
      rw [ldN2 (W4.get 2 _ r2 rfl rfl), tCons_cons, tInt_int, tCons_cons, tNil_nil]
      refine callG_of (tables_ok hf (by omega) (fun c5 => ?_) fun c5 vm vj hm hj => ?_)
      · rw [tTup_tuple, tCons_cons, tCons_cons, tCons_cons, tBool_bool, tNil_nil]
        refine ifT_pos rfl (look_end W4 ?_)
        unfold lookE at hk
        rwa [if_neg (by unfold algP; rw [c5]; simp)] at hk
      · rw [tTup_tuple, tCons_cons, tCons_cons, tCons_cons, tBool_bool, tNil_nil]
        refine ifT_neg rfl ?_
        rw [ld1_one (W4.get 1 _ r1 rfl rfl) rfl, tInt_int]
        have alg : distP L.length (at2 L) = true → algP L = true := fun c6 => by
          unfold algP
          rw [sq_all.2 hs, c4, c5, c6, decide_eq_true (show 1 ≤ L.length by omega), decide_eq_true (show L.length ≤ 64 by omega)]
          rfl
        refine s23l2_in (L.length + 1) (look_l2 (by omega) (by omega) hm hj W4 he hl (fun c6 => ?_) (fun c6 c7 => ?_) (fun c6 c7 => ?_) L.length 0 (by omega) (fun x' y z hx' => by omega))
        · unfold lookE at hk
          rwa [if_neg (by unfold algP; rw [c6]; simp)] at hk
        · unfold lookE at hk
          rwa [if_pos (alg c6), c7] at hk
        · unfold lookE at hk
          rwa [if_pos (alg c6), c7] at hk

/- ---------------- what the package answers ---------------- -/
structure AlgV (a : AVal) (L : List (List Bool)) : Prop where
  v : Boolss a L
  len : L.length ≤ 1048576
  row : ∀ row ∈ L, row.length ≤ 1048576
theorem lookE_zero {L : List (List Bool)} {els : List Int} (h : lookE L els = 0) : algP L = true ∧ els.all (inE L.length) = true := by
  unfold lookE at h
  split at h
  · split at h
    · exact ⟨by assumption, by assumption⟩
    · cases h
  · cases h
section
variable {a : AVal} {L : List (List Bool)} (A : AlgV a L)
include A
theorem AlgV.alg (e : algP L = true) : T2 (leqV a) L.length (at2 L) ∧ L.length ≤ 1073741824 ∧ 1 ≤ L.length := by
  obtain ⟨hs, h1, h2⟩ := algP_sq e
  exact ⟨leqV_tells A.v hs, by omega, h1⟩
theorem checkH_ok (hk : K (.int .i64 (lookE L [])) h) : ACalls prog 10 [.agg [a]] h K := by
  refine s10_ok ?_
  unfold s10
  refine callG_of (look_ok A.v A.len A.row (els := []) (.inr ⟨rfl, rfl⟩) (by simp) ?_)
  rw [tTup_tuple, tCons_cons, tCons_cons, tInt_int, tNil_nil, tAgg_agg, tCons_cons, tInt_int, tCons_cons, tNil_nil]
  refine newRow_in fun q hq => st_all (Heap.set_same _ _ _) rfl ?_
  rw [Heap.set_set]
  exact retG_drop (Heap.set_sub hq) hk
/-- two elements' answer -/
def two (L : List (List Bool)) (R : Nat → Nat → Nat) (x y : Int) : AVal := .tuple [.int .i64 (if lookE L [x, y] = 0 then ((R x.toNat y.toNat : Nat) : Int) else 0), .int .i64 (lookE L [x, y])]
omit A in
theorem two_in {x y : Int} {n : Nat} (h : [x, y].all (inE n) = true) : (x.toNat < n ∧ (x.toNat : Int) = x) ∧ y.toNat < n ∧ (y.toNat : Int) = y := by
  simp only [List.all_cons, List.all_nil, Bool.and_true, Bool.and_eq_true, inE, decide_eq_true_eq] at h
  omega
theorem meetP_ok {x y : Int} (hk : K (two L (mt L.length (at2 L)) x y) h) : ACalls prog 12 [.agg [a], .int .i64 x, .int .i64 y] h K := by
  refine s12_ok ?_
  unfold s12
  refine callG_of (look_ok A.v A.len A.row (els := [x, y]) (.inl rfl) (by simp) ?_)
  rw [tTup_tuple, tCons_cons, tCons_cons, tInt_int, tNil_nil, tAgg_agg, tCons_cons, tInt_int, tCons_cons, tNil_nil]
  refine newRow_in fun q hq => st_all (Heap.set_same _ _ _) rfl ?_
  rw [Heap.set_set]
  unfold two at hk
  by_cases e : lookE L [x, y] = 0
  · obtain ⟨e1, e2⟩ := lookE_zero e
    obtain ⟨hf, hn, h1⟩ := A.alg e1
    obtain ⟨⟨hx, ex⟩, hy, ey⟩ := two_in e2
    rw [if_pos e] at hk
    refine ifT_neg (by simp [e]) ?_
    rw [ldN2 (Heap.set_same _ _ _), tCons_cons, tInt_int, tCons_cons, tNil_nil, ← ex, ← ey]
    refine callG_of (meetH_ok hf hn hx hy ?_)
    unfold bestV
    rw [tTup_tuple, tCons_cons, tInt_int, tCons_cons, tBool_bool, tNil_nil]
    rw [e] at hk
    exact retG_drop (Heap.set_sub hq) hk
  · rw [if_neg e] at hk
    exact ifT_pos (by simpa using e) (retG_drop (Heap.set_sub hq) hk)
theorem joinP_ok {x y : Int} (hk : K (two L (jn L.length (at2 L)) x y) h) : ACalls prog 15 [.agg [a], .int .i64 x, .int .i64 y] h K := by
  refine s15_ok ?_
  unfold s15
  refine callG_of (look_ok A.v A.len A.row (els := [x, y]) (.inl rfl) (by simp) ?_)
  rw [tTup_tuple, tCons_cons, tCons_cons, tInt_int, tNil_nil, tAgg_agg, tCons_cons, tInt_int, tCons_cons, tNil_nil]
  refine newRow_in fun q hq => st_all (Heap.set_same _ _ _) rfl ?_
  rw [Heap.set_set]
  unfold two at hk
  by_cases e : lookE L [x, y] = 0
  · obtain ⟨e1, e2⟩ := lookE_zero e
    obtain ⟨hf, hn, h1⟩ := A.alg e1
    obtain ⟨⟨hx, ex⟩, hy, ey⟩ := two_in e2
    rw [if_pos e] at hk
    refine ifT_neg (by simp [e]) ?_
    rw [ldN2 (Heap.set_same _ _ _), tCons_cons, tInt_int, tCons_cons, tNil_nil, ← ex, ← ey]
    refine callG_of (joinH_ok hf hn hx hy ?_)
    unfold bestV
    rw [tTup_tuple, tCons_cons, tInt_int, tCons_cons, tBool_bool, tNil_nil]
    rw [e] at hk
    exact retG_drop (Heap.set_sub hq) hk
  · rw [if_neg e] at hk
    exact ifT_pos (by simpa using e) (retG_drop (Heap.set_sub hq) hk)
theorem impP_ok {x y : Int} (hk : K (two L (im L.length (at2 L)) x y) h) : ACalls prog 13 [.agg [a], .int .i64 x, .int .i64 y] h K := by
  refine s13_ok ?_
  unfold s13
  refine callG_of (look_ok A.v A.len A.row (els := [x, y]) (.inl rfl) (by simp) ?_)
  rw [tTup_tuple, tCons_cons, tCons_cons, tInt_int, tNil_nil, tAgg_agg, tCons_cons, tInt_int, tCons_cons, tNil_nil]
  refine newRow_in fun q hq => st_all (Heap.set_same _ _ _) rfl ?_
  rw [Heap.set_set]
  unfold two at hk
  by_cases e : lookE L [x, y] = 0
  · obtain ⟨e1, e2⟩ := lookE_zero e
    obtain ⟨hf, hn, h1⟩ := A.alg e1
    obtain ⟨⟨hx, ex⟩, hy, ey⟩ := two_in e2
    rw [if_pos e] at hk
    refine ifT_neg (by simp [e]) ?_
    rw [ldN2 (Heap.set_same _ _ _), tCons_cons, tInt_int, tCons_cons, tNil_nil, ← ex, ← ey]
    refine callG_of (impH_ok hf hn hx hy ?_)
    rw [tInt_int]
    rw [e] at hk
    exact retG_drop (Heap.set_sub hq) hk
  · rw [if_neg e] at hk
    exact ifT_pos (by simpa using e) (retG_drop (Heap.set_sub hq) hk)
theorem boundsP_ok (no : algP L = false → K (.tuple [.int .i64 0, .int .i64 0, .int .i64 230]) h) (yes : algP L = true → K (.tuple [.int .i64 ((lowP L.length (at2 L) : Nat) : Int), .int .i64 ((highP L.length (at2 L) : Nat) : Int), .int .i64 0]) h) : ACalls prog 17 [.agg [a]] h K := by
  refine s17_ok ?_
  unfold s17
  refine callG_of (look_ok A.v A.len A.row (els := []) (.inr ⟨rfl, rfl⟩) (by simp) ?_)
  rw [tTup_tuple, tCons_cons, tCons_cons, tInt_int, tNil_nil, tAgg_agg, tCons_cons, tInt_int, tCons_cons, tNil_nil]
  refine newRow_in fun q hq => st_all (Heap.set_same _ _ _) rfl ?_
  rw [Heap.set_set]
  unfold lookE
  cases e : algP L with
  | false => exact ifT_pos rfl (retG_drop (Heap.set_sub hq) (no e))
  | true =>
    obtain ⟨hf, hn, h1⟩ := A.alg e
    refine ifT_neg rfl ?_
    rw [ldN2 (Heap.set_same _ _ _), tCons_cons, tInt_int, tCons_cons, tNil_nil]
    refine callG_of (boundsH_ok hf hn ?_)
    rw [tTup_tuple, tCons_cons, tInt_int, tCons_cons, tInt_int, tNil_nil]
    exact retG_drop (Heap.set_sub hq) (yes e)
/-- is it Boolean? -/
def boolX (n : Nat) (r : Nat → Nat → Bool) (x : Nat) : Bool := jn n r x (im n r x (lowP n r)) == highP n r
def boolP (n : Nat) (r : Nat → Nat → Bool) : Bool := (List.range n).all (boolX n r)
omit A in
theorem boolean_l1 {q n : Nat} {f : AVal} {r : Nat → Nat → Bool} (hf : T2 f n r) (hn : n ≤ 1073741824) (h1 : 1 ≤ n) {hh : Heap} (hq : hh q = some (.row 2 [.agg (latC n f)])) (old : ∀ q o, h q = some o → hh q = some o) (hk : K (.tuple [.bool (boolP n r), .int .i64 0]) h) :
    ∀ d x : Nat, x + d = n → (∀ x', x' < x → boolX n r x' = true) → s18l1 K (d + 1) (.ptr q 0 0) ((lowP n r : Nat) : Int) ((highP n r : Nat) : Int) n (x : Int) hh
  | 0, x, hd, hb => by
    unfold s18l1
    have e : boolP n r = true := all_of fun x' hx' => hb x' (by omega)
    rw [e] at hk
    exact ifT_neg (by simp; omega) (retG_drop old hk)
  | d + 1, x, hd, hb => by
    unfold s18l1
    refine ifT_pos (by simp; omega) ?_
    rw [ldN2 hq, tCons_cons, tInt_int, tCons_cons, tNil_nil, ldN2 hq, tCons_cons, tInt_int, tCons_cons, tNil_nil]
    refine callG_of (impH_ok hf hn (by omega) (low_lt h1) ?_)
    rw [tInt_int]
    refine ⟨by rw [ldN2 hq], callG_of (joinH_ok hf hn (by omega) (im_lt h1 _ _) ?_)⟩
    unfold bestV
    rw [tTup_tuple, tCons_cons, tInt_int, tCons_cons, tBool_bool, tNil_nil]
    cases e : boolX n r x with
    | false =>
      have e2 : boolP n r = false := all_not (x := x) (by omega) e
      rw [e2] at hk
      refine ifT_pos ?_ (retG_drop old hk)
      unfold boolX jn at e
      simp at e ⊢
      omega
    | true =>
      refine ifT_neg ?_ (rg_of (by omega) (by omega) (s18l1_go (boolean_l1 hf hn h1 hq old hk d (x + 1) (by omega) fun x' hx' => ?_)))
      · unfold boolX jn at e
        simp at e ⊢
        omega
      · by_cases e3 : x' = x
        · rw [e3]; exact e
        · exact hb x' (by omega)
theorem booleanP_ok (no : algP L = false → K (.tuple [.bool false, .int .i64 230]) h) (yes : algP L = true → K (.tuple [.bool (boolP L.length (at2 L)), .int .i64 0]) h) : ACalls prog 18 [.agg [a]] h K := by
  refine s18_ok ?_
  unfold s18
  refine callG_of (look_ok A.v A.len A.row (els := []) (.inr ⟨rfl, rfl⟩) (by simp) ?_)
  rw [tTup_tuple, tCons_cons, tCons_cons, tInt_int, tNil_nil, tAgg_agg, tCons_cons, tInt_int, tCons_cons, tNil_nil]
  refine newRow_in fun q hq => st_all (Heap.set_same _ _ _) rfl ?_
  rw [Heap.set_set]
  unfold lookE
  cases e : algP L with
  | false => exact ifT_pos rfl (retG_drop (Heap.set_sub hq) (no e))
  | true =>
    obtain ⟨hf, hn, h1⟩ := A.alg e
    refine ifT_neg rfl ?_
    rw [ldN2 (Heap.set_same _ _ _), tCons_cons, tInt_int, tCons_cons, tNil_nil]
    refine callG_of (boundsH_ok hf hn ?_)
    rw [tTup_tuple, tCons_cons, tInt_int, tCons_cons, tInt_int, tNil_nil, ld1_fld (Heap.set_same _ _ _) rfl, tInt_int]
    exact s18l1_in (L.length + 1) (boolean_l1 hf hn h1 (Heap.set_same _ _ _) (Heap.set_sub hq) (yes e) L.length 0 (by omega) fun x' hx' => by omega)
end
end Go.Proofs.Ytljglglbfcgjpaa

namespace Go.Proofs.Ytljglglbfcgjpaa
open Go Go.Sym Go.Proofs.Try

variable {K : AVal → Heap → Prop} {h h0 hb : Heap} {n : Nat} {r : Nat → Nat → Bool} {f : AVal}

/-- the last two things, slices that two others hold as their last elements, become plain data -/
theorem Own.settle2 {A : Ow} {e1 e2 s1 s2 : Nat} {v1 v2 w1 w2 : AVal} {l1 l2 L1 L2 : List AVal} (W : Own hb [A, .slc s1 w1 (L1 ++ [v1]), .slc s2 w2 (L2 ++ [v2]), .slc e1 v1 l1, .slc e2 v2 l2] h) :
    ∃ S h' v1' v2', SlOf e1 v1' l1 ∧ SlOf e2 v2' l2 ∧ Go.Sym.GStep h h' S ∧ Own hb [A, .slc s1 w1 (L1 ++ [v1']), .slc s2 w2 (L2 ++ [v2'])] h' := by
  let Sg : Nat → Prop := fun q => nameOf v1 q ∨ nameOf v2 q
  obtain ⟨v1', h1, x1⟩ := W.lit (i := 3) rfl (S := Sg) (fun _ h => .inl h) (Lits.refl l1)
  obtain ⟨v2', h2, x2⟩ := W.lit (i := 4) rfl (S := Sg) (fun _ h => .inr h) (Lits.refl l2)
  have no : ∀ (j : Nat) (y : Ow), j < 3 → [A, .slc s1 w1 (L1 ++ [v1]), .slc s2 w2 (L2 ++ [v2]), .slc e1 v1 l1, .slc e2 v2 l2][j]? = some y → ∀ q, y.nm q → ¬ Sg q := fun j y hj hy q hn hs => by
    rcases hs with hs | hs
    · have := W.one j 3 y _ q hy rfl hn hs; omega
    · have := W.one j 4 y _ q hy rfl hn hs; omega
  obtain ⟨h', g, W'⟩ := W.step Sg [A, .slc s1 w1 (L1 ++ [v1']), .slc s2 w2 (L2 ++ [v2'])] (fun q hq => by
    rcases hq with hq | hq
    · exact W.new 3 _ q rfl hq
    · exact W.new 4 _ q rfl hq) (fun j y' hj => by
    match j, hj with
    | 0, hj => cases hj; exact ⟨_, rfl, W.fit 0 _ rfl, fun q hq => ⟨hq, no 0 _ (by omega) rfl q hq⟩, .refl _⟩
    | 1, hj =>
      cases hj
      refine ⟨_, rfl, ?_, fun q hq => ⟨hq, no 1 _ (by omega) rfl q hq⟩, .row (Lits.snoc L1 h1)⟩
      have := W.fit 1 _ rfl
      simpa [Ow.fit] using this
    | 2, hj =>
      cases hj
      refine ⟨_, rfl, ?_, fun q hq => ⟨hq, no 2 _ (by omega) rfl q hq⟩, .row (Lits.snoc L2 h2)⟩
      have := W.fit 2 _ rfl
      simpa [Ow.fit] using this
    | j + 3, hj => simp at hj)
  exact ⟨Sg, h', v1', v2', x1, x2, g, W'⟩

/- ---------------- order ---------------- -/
def orderB (L : List (List Bool)) : Bool := decide (1 ≤ L.length) && decide (L.length ≤ 64) && L.all (fun row => row.length == L.length) && ordP L.length (at2 L)
def ordQ (n : Nat) (r : Nat → Nat → Bool) (x y : Nat) : Bool := (x != y || r x x) && ordY n r x y
theorem ordQ_no {x y : Nat} (hx : x < n) (hy : y < n) (h : ordQ n r x y = false) : ordP n r = false := by
  rw [ordP_eq]
  refine all_not hx ?_
  unfold ordX
  unfold ordQ at h
  cases e : ordY n r x y with
  | false => rw [all_not hy e, Bool.and_false]
  | true =>
    rw [e, Bool.and_true] at h
    simp at h
    rw [h.2, Bool.false_and]
theorem ordQ_yes (h : ∀ x y, x < n → y < n → ordQ n r x y = true) : ordP n r = true := by
  rw [ordP_eq]
  refine all_of fun x hx => ?_
  unfold ordX
  rw [Bool.and_eq_true]
  refine ⟨?_, all_of fun y hy => ?_⟩
  · have := h x x hx hx
    unfold ordQ at this
    rw [Bool.and_eq_true] at this
    simpa using this.1
  · have := h x y hx hy
    unfold ordQ at this
    rw [Bool.and_eq_true] at this
    exact this.2
section
variable {v : AVal} {L : List (List Bool)} (hv : Boolss v L) (hs : Sq L) (hn : L.length ≤ 64)
include hv hs hn
theorem orderD_l6 {x y : Nat} (hx : x < L.length) (hy : y < L.length) {L3 : s33l3_T} {L4 : s33l4_T} (no : ∀ z, z < L.length → ordZ (at2 L) x y z = false → K (.bool false) h)
    (yes : (∀ z, z < L.length → ordZ (at2 L) x y z = true) → L4 v L.length (x : Int) ((y : Int) + 1) h) : ∀ d z : Nat, z + d = L.length → (∀ z', z' < z → ordZ (at2 L) x y z' = true) →
    s33l6 K L3 L4 (d + 1) v L.length (x : Int) (y : Int) (z : Int) h
  | 0, z, hd, hb => by
    unfold s33l6
    exact ifT_neg (by simp; omega) (rg_of (by omega) (by omega) (yes fun z' hz' => hb z' (by omega)))
  | d + 1, z, hd, hb => by
    have next : ordZ (at2 L) x y z = true → s33c7 K L3 L4 (s33l6_G (s33l6 K L3 L4 (d + 1))) v L.length (x : Int) (y : Int) (z : Int) false h := fun e => by
      unfold s33c7
      refine ifT_neg rfl (rg_of (by omega) (by omega) (s33l6_go (orderD_l6 hx hy no yes d (z + 1) (by omega) fun z' hz' => ?_)))
      by_cases e2 : z' = z
      · rw [e2]; exact e
      · exact hb z' (by omega)
    obtain ⟨ex, a1, _, a2⟩ := hv.rd hs hx
    obtain ⟨ey, b1, _, b2⟩ := hv.rd hs hy
    unfold s33l6
    refine ifT_pos (by simp; omega) ?_
    rw [a1, a2 y hy, tBool_bool]
    cases e1 : at2 L x y with
    | false => exact ifT_neg rfl (next (by simp [ordZ, e1]))
    | true =>
      refine ifT_pos rfl ?_
      rw [b1, b2 z (by omega), tBool_bool]
      cases e2 : at2 L y z with
      | false => exact ifT_neg rfl (next (by simp [ordZ, e2]))
      | true =>
        refine ifT_pos rfl ?_
        rw [a1, a2 z (by omega), tBool_bool]
        cases e3 : at2 L x z with
        | true => exact next (by simp [ordZ, e3])
        | false =>
          unfold s33c7
          exact ifT_pos rfl (retG_of (no z (by omega) (by simp [ordZ, e1, e2, e3])))
theorem orderD_l4 {x : Nat} (hx : x < L.length) {L3 : s33l3_T} (no : ∀ y, y < L.length → ordQ L.length (at2 L) x y = false → K (.bool false) h)
    (yes : (∀ y, y < L.length → ordQ L.length (at2 L) x y = true) → L3 v L.length ((x : Int) + 1) h) : ∀ d y : Nat, y + d = L.length → (∀ y', y' < y → ordQ L.length (at2 L) x y' = true) →
    s33l4 K L3 (d + 1) v L.length (x : Int) (y : Int) h
  | 0, y, hd, hb => by
    unfold s33l4
    exact ifT_neg (by simp; omega) (rg_of (by omega) (by omega) (yes fun z' hz' => hb z' (by omega)))
  | d + 1, y, hd, hb => by
    have hy : y < L.length := by omega
    have bad : ordQ L.length (at2 L) x y = false → s33c5 K L3 (s33l4_G (s33l4 K L3 (d + 1))) v L.length (x : Int) (y : Int) true h := fun e => by
      unfold s33c5
      exact ifT_pos rfl (retG_of (no y hy e))
    have next : (x != y || at2 L x x) = true → ((x != y) && at2 L x y && at2 L y x) = false → s33c5 K L3 (s33l4_G (s33l4 K L3 (d + 1))) v L.length (x : Int) (y : Int) false h := fun e0 e => by
      unfold s33c5
      refine ifT_neg rfl (s33l6_in (L.length + 1) (orderD_l6 hv hs hn hx hy (fun z hz ez => no y hy ?_) (fun hall => ?_) L.length 0 (by omega) (fun z' hz' => by omega)))
      · unfold ordQ ordY; rw [all_not hz ez, Bool.and_false, Bool.and_false]
      · refine s33l4_go (orderD_l4 hx no yes d (y + 1) (by omega) fun y' hy' => ?_)
        by_cases e2 : y' = y
        · subst e2
          unfold ordQ ordY
          rw [e, e0, all_of hall]; rfl
        · exact hb y' (by omega)
    obtain ⟨ex, a1, _, a2⟩ := hv.rd hs hx
    obtain ⟨ey, b1, _, b2⟩ := hv.rd hs hy
    unfold s33l4
    refine ifT_pos (by simp; omega) ?_
    by_cases exy : x = y
    · subst exy
      refine ifT_pos (by simp) ?_
      rw [a1, a2 x hx, tBool_bool]
      cases e1 : at2 L x x with
      | false => exact ifT_pos rfl (bad (by unfold ordQ; simp [e1]))
      | true =>
        refine ifT_neg rfl (ifT_neg (by simp) (next (by simp [e1]) (by simp)))
    · refine ifT_neg (by simp; omega) (ifT_pos (by simp; omega) ?_)
      rw [a1, a2 y hy, tBool_bool]
      have e0 : (x != y || at2 L x x) = true := by simp [exy]
      cases e1 : at2 L x y with
      | false => exact ifT_neg rfl (next e0 (by simp [e1]))
      | true =>
        refine ifT_pos rfl ?_
        rw [b1, b2 x hx, tBool_bool]
        cases e2 : at2 L y x with
        | false => exact next e0 (by simp [e2])
        | true => exact bad (by unfold ordQ ordY; simp [exy, e1, e2])
theorem orderD_l3 (no : ordP L.length (at2 L) = false → K (.bool false) h) (yes : ordP L.length (at2 L) = true → K (.bool true) h) : ∀ d x : Nat, x + d = L.length → (∀ x' y, x' < x → y < L.length → ordQ L.length (at2 L) x' y = true) →
    s33l3 K (d + 1) v L.length (x : Int) h
  | 0, x, hd, hb => by
    unfold s33l3
    exact ifT_neg (by simp; omega) (retG_of (yes (ordQ_yes fun x' y hx' hy => hb x' y (by omega) hy)))
  | d + 1, x, hd, hb => by
    unfold s33l3
    refine ifT_pos (by simp; omega) (s33l4_in (L.length + 1) (orderD_l4 hv hs hn (by omega) (fun y hy e => no (ordQ_no (by omega) hy e)) (fun hall => ?_) L.length 0 (by omega) (fun y' hy' => by omega)))
    refine s33l3_go (orderD_l3 no yes d (x + 1) (by omega) fun x' y hx' hy => ?_)
    by_cases e2 : x' = x
    · rw [e2]; exact hall y hy
    · exact hb x' y (by omega) hy
end
theorem orderD_l2 {v : AVal} {L : List (List Bool)} (hv : Boolss v L) (hn : L.length ≤ 64) (no : (L.all fun row => row.length == L.length) = false → K (.bool false) h) (yes : Sq L → s33l3_E (s33l3 K) v L.length 0 h) :
    ∀ d x : Nat, x + d = L.length → (∀ row ∈ L.take x, row.length = L.length) → s33l2 K (d + 1) v L.length (x : Int) h
  | 0, x, hd, hb => by
    unfold s33l2
    rw [List.take_of_length_le (by omega)] at hb
    exact ifT_neg (by simp; omega) (yes hb)
  | d + 1, x, hd, hb => by
    have hx : x < L.length := by omega
    unfold s33l2
    refine ifT_pos (by simp; omega) ?_
    obtain ⟨e, he, hix⟩ := hv.ix hx
    rw [hix, ld1_lptr, he.len]
    by_cases el : L[x].length = L.length
    · refine ifT_neg (by simp [el]) (rg_of (by omega) (by omega) (s33l2_go (orderD_l2 hv hn no yes d (x + 1) (by omega) ?_)))
      rw [List.take_succ_eq_append_getElem hx]
      intro s hs
      rcases List.mem_append.1 hs with hs | hs
      · exact hb s hs
      · simp at hs; rw [hs, el]
    · refine ifT_pos (by simp; omega) (retG_of (no ?_))
      rw [List.all_eq_false]
      exact ⟨_, List.getElem_mem hx, by simpa using el⟩
theorem orderD_ok {v : AVal} {L : List (List Bool)} (hv : Boolss v L) (hk : K (.bool (orderB L)) h) : ACalls prog 33 [v] h K := by
  refine s33_ok ?_
  unfold s33
  rw [hv.len]
  unfold orderB at hk
  have bad : orderB L = false → s33c1 K v L.length true h := fun e => by
    unfold orderB at e
    rw [e] at hk
    unfold s33c1
    exact ifT_pos rfl (retG_of hk)
  by_cases c1 : (L.length : Int) < 1
  · exact ifT_pos (by simpa using c1) (bad (by unfold orderB; rw [decide_eq_false (show ¬ 1 ≤ L.length by omega)]; rfl))
  refine ifT_neg (by simpa using c1) ?_
  by_cases c2 : (64 : Int) < L.length
  · rw [decide_eq_true c2]
    exact bad (by unfold orderB; rw [decide_eq_false (show ¬ L.length ≤ 64 by omega)]; simp)
  rw [decide_eq_false c2]
  rw [decide_eq_true (show 1 ≤ L.length by omega), decide_eq_true (show L.length ≤ 64 by omega)] at hk
  simp only [Bool.true_and] at hk
  unfold s33c1
  refine ifT_neg rfl (s33l2_in (L.length + 1) (orderD_l2 hv (by omega) (fun e => ?_) (fun hs => s33l3_in (L.length + 1) (orderD_l3 hv hs (by omega) (fun e => ?_) (fun e => ?_) L.length 0 (by omega) fun x' y hx' => by omega)) L.length 0 (by omega) (by simp)))
  · rwa [e, Bool.false_and] at hk
  · rwa [e, Bool.and_false] at hk
  · rwa [e, sq_all.2 hs] at hk

/- ---------------- best ---------------- -/
def pD (r : Nat → Nat → Bool) (down : Bool) (x y z : Nat) : Bool := if down then r z x && r z y else r x z && r y z
def ovD (r : Nat → Nat → Bool) (down : Bool) (z w : Nat) : Bool := if down then r w z else r z w
def bestO (n : Nat) (r : Nat → Nat → Bool) (down : Bool) (x y : Nat) : Option Nat := if down then meetO n r x y else joinO n r x y
theorem bestO_eq (down : Bool) (x y : Nat) : bestO n r down x y = bestP n (pD r down x y) (ovD r down) := by
  unfold bestO meetO joinO pD ovD
  cases down <;> rfl
def optI (o : Option Nat) : Int := match o with
  | some z => (z : Int)
  | none => -1
section
variable {v : AVal} {L : List (List Bool)} (hv : Boolss v L) (hs : Sq L) (hn : L.length ≤ 64) {x y : Nat} (hx : x < L.length) (hy : y < L.length) {down : Bool}
include hv hs hx hy
theorem withinD_ok {z : Nat} (hz : z < L.length) (hk : K (.bool (pD (at2 L) down x y z)) h) : ACalls prog 58 [v, .int .i64 (z : Int), .int .i64 (x : Int), .int .i64 (y : Int), .bool down] h K := by
  refine s58_ok ?_
  unfold s58
  obtain ⟨ez, a1, _, a2⟩ := hv.rd hs hz
  obtain ⟨ex, b1, _, b2⟩ := hv.rd hs hx
  obtain ⟨ey, c1, _, c2⟩ := hv.rd hs hy
  unfold pD at hk
  cases down with
  | true =>
    rw [if_pos rfl] at hk
    refine ifT_pos rfl ?_
    rw [a1, a2 x hx, tBool_bool]
    cases e : at2 L z x with
    | false => exact ifT_neg rfl (retG_of (by rwa [e, Bool.false_and] at hk))
    | true =>
      refine ifT_pos rfl ?_
      rw [a1, a2 y hy, tBool_bool]
      exact retG_of (by rwa [e, Bool.true_and] at hk)
  | false =>
    rw [if_neg (by decide)] at hk
    refine ifT_neg rfl ?_
    rw [b1, b2 z hz, tBool_bool]
    cases e : at2 L x z with
    | false => exact ifT_neg rfl (retG_of (by rwa [e, Bool.false_and] at hk))
    | true =>
      refine ifT_pos rfl ?_
      rw [c1, c2 z hz, tBool_bool]
      exact retG_of (by rwa [e, Bool.true_and] at hk)
omit hv hs hx hy in
theorem topW_mono {p : Nat → Bool} {ov : Nat → Nat → Bool} {z w n : Nat} (hw : w ≤ n) (h : topW p ov z w = false) : topW p ov z n = false := by
  unfold topW at h ⊢
  rw [List.all_eq_false] at h ⊢
  obtain ⟨u, hu, h⟩ := h
  exact ⟨u, List.mem_range.2 (Nat.lt_of_lt_of_le (List.mem_range.1 hu) hw), h⟩
include hn
theorem bestD_l2 {z : Nat} (hz : z < L.length) {L1 : s34l1_T} (yes : topB L.length (pD (at2 L) down x y) (ovD (at2 L) down) z = true → K (.int .i64 (z : Int)) h) (no : topB L.length (pD (at2 L) down x y) (ovD (at2 L) down) z = false → L1 v (x : Int) (y : Int) down ((z : Int) + 1) h) :
    ∀ d w : Nat, w + d = L.length → s34l2 K L1 (d + 1) v (x : Int) (y : Int) down (z : Int) (pD (at2 L) down x y z && topW (pD (at2 L) down x y) (ovD (at2 L) down) z w) (w : Int) h
  | 0, w, hd => by
    obtain rfl : w = L.length := by omega
    unfold s34l2
    rw [hv.len]
    refine ifT_neg (by simp) ?_
    unfold s34c3
    refine ifT_neg rfl ?_
    cases e : (pD (at2 L) down x y z && topW (pD (at2 L) down x y) (ovD (at2 L) down) z L.length) with
    | true => exact ifT_pos rfl (retG_of (yes e))
    | false => exact ifT_neg rfl (rg_of (by omega) (by omega) (no e))
  | d + 1, w, hd => by
    unfold s34l2
    rw [hv.len]
    refine ifT_pos (by simp; omega) ?_
    unfold s34c3
    cases e : (pD (at2 L) down x y z && topW (pD (at2 L) down x y) (ovD (at2 L) down) z w) with
    | false =>
      refine ifT_neg rfl (ifT_neg rfl (rg_of (by omega) (by omega) (no ?_)))
      unfold topB
      rw [Bool.and_eq_false_iff] at e ⊢
      rcases e with e | e
      · exact .inl e
      · exact .inr (topW_mono (by omega) e)
    | true =>
      have next : s34c4 K L1 (s34l2_G (s34l2 K L1 (d + 1))) v (x : Int) (y : Int) down (z : Int) (pD (at2 L) down x y z && topW (pD (at2 L) down x y) (ovD (at2 L) down) z (w + 1)) (w : Int) h := by
        unfold s34c4
        exact rg_of (by omega) (by omega) (s34l2_go (bestD_l2 hz yes no d (w + 1) (by omega)))
      rw [topW_succ, ← Bool.and_assoc, e, Bool.true_and] at next
      refine ifT_pos rfl (callG_of (withinD_ok hv hs hx hy (z := w) (by omega) ?_))
      rw [tBool_bool]
      cases e1 : pD (at2 L) down x y w with
      | false =>
        rw [e1] at next
        exact ifT_neg rfl next
      | true =>
        rw [e1] at next
        refine ifT_pos rfl ?_
        obtain ⟨ez, a1, _, a2⟩ := hv.rd hs hz
        obtain ⟨ew, b1, _, b2⟩ := hv.rd hs (x := w) (by omega)
        unfold ovD at next
        cases down with
        | true =>
          refine ifT_pos rfl ?_
          rw [b1, b2 z hz, tBool_bool]
          simpa using next
        | false =>
          refine ifT_neg rfl ?_
          rw [a1, a2 w (by omega), tBool_bool]
          simpa using next
theorem bestD_l1 : ∀ d z : Nat, z + d = L.length → K (.int .i64 (optI (bestFrom (pD (at2 L) down x y) (ovD (at2 L) down) L.length z d))) h → s34l1 K (d + 1) v (x : Int) (y : Int) down (z : Int) h
  | 0, z, hd, hk => by
    unfold s34l1
    rw [hv.len]
    exact ifT_neg (by simp; omega) (retG_of hk)
  | d + 1, z, hd, hk => by
    unfold bestFrom at hk
    rw [List.range'_succ, List.find?_cons] at hk
    unfold s34l1
    rw [hv.len]
    refine ifT_pos (by simp; omega) (callG_of (withinD_ok hv hs hx hy (z := z) (by omega) ?_))
    rw [tBool_bool]
    have e0 : pD (at2 L) down x y z = (pD (at2 L) down x y z && topW (pD (at2 L) down x y) (ovD (at2 L) down) z 0) := by
      show _ = (_ && true)
      rw [Bool.and_true]
    refine s34l2_in (L.length + 1) ?_
    rw [e0]
    refine bestD_l2 hv hs hn hx hy (by omega) (fun e => ?_) (fun e => ?_) L.length 0 (by omega)
    · rw [e] at hk; exact hk
    · rw [e] at hk
      exact s34l1_go (bestD_l1 d (z + 1) (by omega) hk)
theorem bestD_ok (hk : K (.int .i64 (optI (bestO L.length (at2 L) down x y))) h) : ACalls prog 34 [v, .int .i64 (x : Int), .int .i64 (y : Int), .bool down] h K := by
  rw [bestO_eq, best_from] at hk
  refine s34_ok ?_
  unfold s34
  exact s34l1_in (L.length + 1) (bestD_l1 hv hs hn hx hy L.length 0 (by omega) hk)
end

/- ---------------- Of ---------------- -/
/-- the memory of an algebra that is made -/
abbrev HM (hb : Heap) (q : Nat) (a vM vJ : AVal) (LM LJ : List AVal) (os : List Ow) (h : Heap) : Prop := Own hb ([.cell q (.row 3 [.agg [a, vM, vJ]]), .slc 1 vM LM, .slc 1 vJ LJ] ++ os) h
theorem tabsP_eq : tabsP n r = (List.range n).all fun x => (List.range n).all fun y => tabB n r x y := rfl
section
variable {a : AVal} {L : List (List Bool)} (hv : Boolss a L) (hs : Sq L) (hn : L.length ≤ 64) (h1 : 1 ≤ L.length) (hsa : sc a = true) {q : Nat}
include hv hs hn h1
theorem of_l2 {x : Nat} (hx : x < L.length) {L1 : s20l1_T} {LM LJ : List AVal} (hLM : LM.length ≤ 64) (hLJ : LJ.length ≤ 64) {vM vJ : AVal} (no : ∀ y, y < L.length → tabB L.length (at2 L) x y = false → K (.tuple [.nilptr, .bool false]) hb)
    (yes : (∀ y, y < L.length → tabB L.length (at2 L) x y = true) → ∀ vM' vJ' em ej h', Ints em (natI (mRow L.length (at2 L) x)) → Ints ej (natI (jRow L.length (at2 L) x)) → HM hb q a vM' vJ' (LM ++ [em]) (LJ ++ [ej]) [] h' → L1 a L.length (.ptr q 0 0) ((x : Int) + 1) h') :
    ∀ d y : Nat, y + d = L.length → (∀ y', y' < y → tabB L.length (at2 L) x y' = true) → ∀ met join h, HM hb q a vM vJ LM LJ [.slc 1 met ((natI ((mRow L.length (at2 L) x).take y)).map (.int .i64)), .slc 1 join ((natI ((jRow L.length (at2 L) x).take y)).map (.int .i64))] h →
      s20l2 K (s20l1_G L1) (d + 1) a L.length (.ptr q 0 0) (x : Int) met join (y : Int) h
  | 0, y, hd, hb', met, join, h, W => by
    obtain rfl : y = L.length := by omega
    have lm : (mRow L.length (at2 L) x).length = L.length := by simp [mRow]
    have lj : (jRow L.length (at2 L) x).length = L.length := by simp [jRow]
    rw [List.take_of_length_le (by omega), List.take_of_length_le (by omega)] at W
    unfold s20l2
    refine ifT_neg (by simp) ?_
    rw [nilCheckA_ptr, addOff_ptr, ld1_fld (W.get 0 _ q rfl rfl) rfl]
    refine chk_iff.2 ⟨(W.sc (i := 3) rfl).1, W.app (i := 1) rfl (by omega) (by omega) fun v2 h2 W2 => ?_⟩
    rw [nilCheckA_ptr, addOff_ptr]
    refine chk_iff.2 ⟨(W2.sc (i := 1) rfl).1, st_fld (W2.get 0 _ q rfl rfl) (by simp) ?_⟩
    have W3 : HM hb q a v2 vJ (LM ++ [met]) LJ _ _ := W2.put (i := 0) rfl (.row 3 [.agg [a, v2, vJ]])
    show nilCheckA (.ptr q 0 0) fun p4 => addOff p4 2 fun p5 => ld1 (h2.set q (.row 3 [.agg [a, v2, vJ]])) p5 _
    rw [nilCheckA_ptr, addOff_ptr, ld1_fld (W3.get 0 _ q rfl rfl) rfl]
    refine chk_iff.2 ⟨(W3.sc (i := 4) rfl).1, W3.app (i := 2) rfl (by omega) (by omega) fun v3 h3 W4 => ?_⟩
    rw [nilCheckA_ptr, addOff_ptr]
    refine chk_iff.2 ⟨(W4.sc (i := 2) rfl).1, st_fld (W4.get 0 _ q rfl rfl) (by simp) (rg_of (by omega) (by omega) ?_)⟩
    have W5 : HM hb q a v2 v3 (LM ++ [met]) (LJ ++ [join]) _ _ := W4.put (i := 0) rfl (.row 3 [.agg [a, v2, v3]])
    obtain ⟨S, h', em, ej, x1, x2, g, W6⟩ := Own.settle2 W5
    exact ⟨S, _, h', Lits.refl _, g, rfl, yes (fun y' hy' => hb' y' hy') v2 v3 em ej h' x1 x2 W6⟩
  | d + 1, y, hd, hb', met, join, h, W => by
    have hy : y < L.length := by omega
    have lm : (mRow L.length (at2 L) x).length = L.length := by simp [mRow]
    have lj : (jRow L.length (at2 L) x).length = L.length := by simp [jRow]
    unfold s20l2
    refine ifT_pos (by simp; omega) (callG_of (bestD_ok hv hs hn hx hy (down := true) ?_))
    rw [tInt_int]
    refine callG_of (bestD_ok hv hs hn hx hy (down := false) ?_)
    rw [tInt_int]
    have bad : ∀ m j : Int, tabB L.length (at2 L) x y = false → s20c3 K (s20l1_G L1) (s20l2_G (s20l2 K (s20l1_G L1) (d + 1))) a L.length (.ptr q 0 0) (x : Int) met join (y : Int) m j true h := fun m j e => by
      unfold s20c3
      exact ifT_pos rfl (retG_drop W.old (no y hy e))
    show ifT (decide (optI (meetO L.length (at2 L) x y) < 0)) _ (s20c3 K _ _ a L.length (.ptr q 0 0) (x : Int) met join (y : Int) (optI (meetO L.length (at2 L) x y)) (optI (joinO L.length (at2 L) x y)) (decide (optI (joinO L.length (at2 L) x y) < 0)) h)
    cases e1 : meetO L.length (at2 L) x y with
    | none => exact ifT_pos rfl (bad _ _ (by unfold tabB; rw [e1]; rfl))
    | some m =>
      refine ifT_neg (decide_eq_false (show ¬ ((m : Int) < 0) by omega)) ?_
      cases e2 : joinO L.length (at2 L) x y with
      | none => exact bad _ _ (by unfold tabB; rw [e2]; simp)
      | some j =>
        have et : tabB L.length (at2 L) x y = true := by unfold tabB; rw [e1, e2]; rfl
        have em : (mRow L.length (at2 L) x)[y]? = some m := by unfold mRow; rw [range_get _ hy]; unfold mt; rw [e1]; rfl
        have ej : (jRow L.length (at2 L) x)[y]? = some j := by unfold jRow; rw [range_get _ hy]; unfold jn; rw [e2]; rfl
        rw [show decide (optI (some j) < 0) = false from decide_eq_false (show ¬ ((j : Int) < 0) by omega)]
        unfold s20c3
        refine ifT_neg rfl (W.app (i := 3) rfl (by simp [natI]; omega) (by simp [natI]; omega) fun v2 h2 W2 => W2.app (i := 4) rfl (by simp [natI]; omega) (by simp [natI]; omega) fun v3 h3 W3 => rg_of (by omega) (by omega) (s20l2_go ?_))
        refine of_l2 (vM := vM) (vJ := vJ) hx hLM hLJ no yes d (y + 1) (by omega) (fun y' hy' => ?_) v2 v3 h3 ?_
        · by_cases e3 : y' = y
          · rw [e3]; exact et
          · exact hb' y' (by omega)
        · rw [List.take_add_one, List.take_add_one, em, ej]
          have e4 : ∀ (l : List Nat) (m : Nat), (natI (l ++ (some m).toList)).map (AVal.int .i64) = (natI l).map (AVal.int .i64) ++ [AVal.int .i64 (m : Int)] := fun l m => by simp [natI]
          rw [e4, e4]
          exact W3
end
end Go.Proofs.Ytljglglbfcgjpaa

namespace Go.Proofs.Ytljglglbfcgjpaa
open Go Go.Sym Go.Proofs.Try

variable {K : AVal → Heap → Prop} {h h0 hb : Heap} {n : Nat} {r : Nat → Nat → Bool} {f : AVal}

theorem nilCk_lptr (l : List AVal) (X : AVal → Prop) : nilCheckA (.lptr l) X = X (.lptr l) := rfl
theorem eqQ_boolR {p q : Bool} {X : Bool → Prop} (hx : X (p == q)) : eqQ prog 4 (.bool p) (.bool q) X := by
  have e : eqT prog 8 4 (.bool p) (.bool q) = some (p == q) := by cases p <;> cases q <;> kernel_rfl
  refine ⟨trivial, ?_⟩
  rw [e]
  exact hx
/-- the document's algebra, as plain data -/
structure HP (v : AVal) (L : List (List Bool)) (a vM vJ : AVal) : Prop where
  e : v = .lptr [a, vM, vJ]
  a : Boolss a L
  m : Intss vM (mTab L.length (at2 L))
  j : Intss vJ (jTab L.length (at2 L))

section
variable {v a vM vJ : AVal} {L : List (List Bool)} (H : HP v L a vM vJ) (hs : Sq L) (hn : L.length ≤ 64) (h1 : 1 ≤ L.length)
include H hs hn h1
theorem of_l6 {x y : Nat} (hx : x < L.length) (hy : y < L.length) {L4 : s20l4_T} {L5 : s20l5_T} (no : ∀ z, z < L.length → distB L.length (at2 L) x y z = false → K (.tuple [.nilptr, .bool false]) h)
    (yes : (∀ z, z < L.length → distB L.length (at2 L) x y z = true) → L5 L.length v (x : Int) ((y : Int) + 1) h) : ∀ d z : Nat, z + d = L.length → (∀ z', z' < z → distB L.length (at2 L) x y z' = true) →
    s20l6 K L4 L5 (d + 1) L.length v (x : Int) (y : Int) (z : Int) h
  | 0, z, hd, hb => by
    unfold s20l6
    exact ifT_neg (by simp; omega) (rg_of (by omega) (by omega) (yes fun z' hz' => hb z' (by omega)))
  | d + 1, z, hd, hb => by
    have _ := hs
    have hz : z < L.length := by omega
    obtain ⟨em, m1, m2⟩ := tab_rd (c := mt L.length (at2 L)) H.m hx
    obtain ⟨ej, j1, j2⟩ := tab_rd (c := jn L.length (at2 L)) H.j hy
    obtain ⟨ek, k1, k2⟩ := tab_rd (c := jn L.length (at2 L)) H.j (mt_lt (r := at2 L) h1 x y)
    have next := fun e : distB L.length (at2 L) x y z = true => of_l6 hx hy (L4 := L4) no yes d (z + 1) (by omega) fun z' hz' => by
      by_cases e2 : z' = z
      · rw [e2]; exact e
      · exact hb z' (by omega)
    have hno := no z hz
    obtain ⟨rfl, _, _, _⟩ := H
    unfold s20l6
    refine ifT_pos (by simp; omega) ?_
    simp only [nilCk_lptr, addOff_lptr, List.drop_succ_cons, List.drop_zero, ld1_lptr]
    rw [m1, j1, j2 z hz, tInt_int, m2 _ (jn_lt h1 _ _), tInt_int, m1, m2 y hy, tInt_int, k1, m1, m2 z hz, tInt_int, k2 _ (mt_lt h1 _ _), tInt_int]
    cases e : distB L.length (at2 L) x y z with
    | false =>
      refine ifT_pos ?_ (retG_of (hno e))
      unfold distB at e
      simp at e ⊢
      omega
    | true =>
      refine ifT_neg ?_ (rg_of (by omega) (by omega) (s20l6_go (next e)))
      unfold distB at e
      simp at e ⊢
      omega
theorem of_l5 {x : Nat} (hx : x < L.length) {L4 : s20l4_T} (no : ∀ y z, y < L.length → z < L.length → distB L.length (at2 L) x y z = false → K (.tuple [.nilptr, .bool false]) h)
    (yes : (∀ y z, y < L.length → z < L.length → distB L.length (at2 L) x y z = true) → L4 L.length v ((x : Int) + 1) h) : ∀ d y : Nat, y + d = L.length → (∀ y' z, y' < y → z < L.length → distB L.length (at2 L) x y' z = true) →
    s20l5 K L4 (d + 1) L.length v (x : Int) (y : Int) h
  | 0, y, hd, hb => by
    unfold s20l5
    exact ifT_neg (by simp; omega) (rg_of (by omega) (by omega) (yes fun y' z' hy' hz' => hb y' z' (by omega) hz'))
  | d + 1, y, hd, hb => by
    unfold s20l5
    refine ifT_pos (by simp; omega) (s20l6_in (L.length + 1) (of_l6 H hs hn h1 hx (by omega) (fun z hz e => no y z (by omega) hz e) (fun hall => ?_) L.length 0 (by omega) (fun z' hz' => by omega)))
    refine s20l5_go (of_l5 hx no yes d (y + 1) (by omega) fun y' z hy' hz => ?_)
    by_cases e2 : y' = y
    · rw [e2]; exact hall z hz
    · exact hb y' z (by omega) hz
theorem of_l4 (no : distP L.length (at2 L) = false → K (.tuple [.nilptr, .bool false]) h) (yes : distP L.length (at2 L) = true → K (.tuple [v, .bool true]) h) : ∀ d x : Nat, x + d = L.length → (∀ x' y z, x' < x → y < L.length → z < L.length → distB L.length (at2 L) x' y z = true) →
    s20l4 K (d + 1) L.length v (x : Int) h
  | 0, x, hd, hb => by
    unfold s20l4
    refine ifT_neg (by simp; omega) (retG_of (yes ?_))
    unfold distP
    exact all_of fun x' hx' => all_of fun y hy => all_of fun z hz => hb x' y z (by omega) hy hz
  | d + 1, x, hd, hb => by
    unfold s20l4
    refine ifT_pos (by simp; omega) (s20l5_in (L.length + 1) (of_l5 H hs hn h1 (by omega) (fun y z hy hz e => no ?_) (fun hall => ?_) L.length 0 (by omega) (fun y' z hy' => by omega)))
    · unfold distP
      exact all_not (x := x) (by omega) (all_not hy (all_not hz e))
    · refine s20l4_go (of_l4 no yes d (x + 1) (by omega) fun x' y z hx' hy hz => ?_)
      by_cases e2 : x' = x
      · rw [e2]; exact hall y z hy hz
      · exact hb x' y z (by omega) hy hz
end
section
variable {a : AVal} {L : List (List Bool)} (hv : Boolss a L) (hs : Sq L) (hn : L.length ≤ 64) (h1 : 1 ≤ L.length) {q : Nat}
include hv hs hn h1
theorem of_l1 (bad : tabsP L.length (at2 L) = false → K (.tuple [.nilptr, .bool false]) hb) (no : distP L.length (at2 L) = false → K (.tuple [.nilptr, .bool false]) hb)
    (yes : tabsP L.length (at2 L) = true → distP L.length (at2 L) = true → ∀ v vM vJ, HP v L a vM vJ → K (.tuple [v, .bool true]) hb) : ∀ d x : Nat, x + d = L.length → (∀ x', x' < x → ∀ y, y < L.length → tabB L.length (at2 L) x' y = true) →
    ∀ vM vJ LM LJ h, All2 Ints LM ((mTab L.length (at2 L)).take x) → All2 Ints LJ ((jTab L.length (at2 L)).take x) → HM hb q a vM vJ LM LJ [] h → s20l1 K (d + 1) a L.length (.ptr q 0 0) (x : Int) h
  | 0, x, hd, hb', vM, vJ, LM, LJ, h, aM, aJ, W => by
    obtain rfl : x = L.length := by omega
    have et : tabsP L.length (at2 L) = true := all_of fun x' hx' => all_of fun y hy => hb' x' hx' y hy
    have lm : (mTab L.length (at2 L)).length = L.length := by simp [mTab]
    have lj : (jTab L.length (at2 L)).length = L.length := by simp [jTab]
    rw [List.take_of_length_le (by omega)] at aM aJ
    unfold s20l1
    refine ifT_neg (by simp) ?_
    let Sg : Nat → Prop := fun k => k = q ∨ nameOf vM k ∨ nameOf vJ k
    obtain ⟨m', l1, s1⟩ := W.lit (i := 1) rfl (S := Sg) (fun k hk => .inr (.inl hk)) (Lits.refl LM)
    obtain ⟨j', l2, s2⟩ := W.lit (i := 2) rfl (S := Sg) (fun k hk => .inr (.inr hk)) (Lits.refl LJ)
    have H : HP (.lptr [a, m', j']) L a m' j' := ⟨rfl, hv, ⟨_, s1, aM⟩, ⟨_, s2, aJ⟩⟩
    refine ⟨Sg, _, hb, .cons (.refl _) (.cons (.ptr (.inl rfl) (W.get 0 _ q rfl rfl) rfl (.cons (.refl _) (.cons l1 (.cons l2 .nil)))) (.cons (.refl _) .nil)), base_step W Sg (fun k hk => ?_), rfl, L.length + 1, ?_⟩
    · rcases hk with hk | hk | hk
      · exact W.new 0 _ k rfl hk
      · exact W.new 1 _ k rfl hk
      · exact W.new 2 _ k rfl hk
    · exact of_l4 H hs hn h1 no (fun e => yes et e _ _ _ H) L.length 0 (by omega) fun x' y z hx' => by omega
  | d + 1, x, hd, hb', vM, vJ, LM, LJ, h, aM, aJ, W => by
    have hx : x < L.length := by omega
    have lm : LM.length ≤ 64 := by have := aM.length; rw [List.length_take] at this; omega
    have lj : LJ.length ≤ 64 := by have := aJ.length; rw [List.length_take] at this; omega
    have gm : (mTab L.length (at2 L))[x]? = some (natI (mRow L.length (at2 L) x)) := range_get _ hx
    have gj : (jTab L.length (at2 L))[x]? = some (natI (jRow L.length (at2 L) x)) := range_get _ hx
    unfold s20l1
    refine ifT_pos (by simp; omega) (s20l2_in (L.length + 1) (of_l2 (vM := vM) (vJ := vJ) hv hs hn h1 hx lm lj (fun y hy e => bad (all_not hx (all_not hy e))) (fun hall vM' vJ' em ej h' x1 x2 W' => ?_) L.length 0 (by omega) (fun y' hy' => by omega) .nilsl .nilsl h ?_))
    · refine of_l1 bad no yes d (x + 1) (by omega) (fun x' hx' y hy => ?_) vM' vJ' _ _ h' ?_ ?_ W'
      · by_cases e3 : x' = x
        · rw [e3]; exact hall y hy
        · exact hb' x' (by omega) y hy
      · rw [List.take_add_one, gm]
        exact aM.append (.cons x1 .nil)
      · rw [List.take_add_one, gj]
        exact aJ.append (.cons x2 .nil)
    · have := (W.newN 1).newN 1
      unfold HM
      simpa [natI] using this
end
theorem algP_eq (L : List (List Bool)) : algP L = (orderB L && tabsP L.length (at2 L) && distP L.length (at2 L)) := rfl
theorem orderB_sq {L : List (List Bool)} (h : orderB L = true) : Sq L ∧ 1 ≤ L.length ∧ L.length ≤ 64 := by
  unfold orderB at h
  simp only [Bool.and_eq_true, decide_eq_true_eq] at h
  exact ⟨sq_all.1 h.1.2, h.1.1.1, h.1.1.2⟩
section
variable {a : AVal} {L : List (List Bool)} (hv : Boolss a L)
include hv
theorem ofD_ok (no : algP L = false → K (.tuple [.nilptr, .bool false]) h) (yes : algP L = true → ∀ v vM vJ, HP v L a vM vJ → K (.tuple [v, .bool true]) h) : ACalls prog 20 [.agg [a]] h K := by
  refine s20_ok ?_
  unfold s20
  refine callG_of (orderD_ok hv ?_)
  rw [tBool_bool]
  cases e : orderB L with
  | false => exact ifT_pos rfl (retG_of (no (by rw [algP_eq, e]; rfl)))
  | true =>
    obtain ⟨hs, h1, hn⟩ := orderB_sq e
    refine ifT_neg rfl ?_
    rw [hv.len]
    have hsc : sc a = true := by
      obtain ⟨l, h1, _⟩ := hv
      rcases h1 with rfl | ⟨rfl, _⟩ <;> rfl
    refine chk_iff.2 ⟨hsc, newRow_in fun q hq => ?_⟩
    have W := (((Own.start h).newC hq (.row 3 [.agg [a, .nilsl, .nilsl]])).newN 1).newN 1
    refine s20l1_in (L.length + 1) (of_l1 hv hs hn h1 (fun e2 => no ?_) (fun e2 => no ?_) (fun e2 e3 v vM vJ H => yes ?_ v vM vJ H) L.length 0 (by omega) (fun x' hx' => by omega) .nilsl .nilsl [] [] _ .nil .nil W)
    · rw [algP_eq, e, e2]; rfl
    · rw [algP_eq, e, e2]; simp
    · rw [algP_eq, e, e2, e3]; rfl
theorem checkD_ok (hk : K (.int .i64 (lookE L [])) h) : ACalls prog 11 [.agg [a]] h K := by
  refine s11_ok ?_
  unfold s11
  unfold lookE at hk
  refine callG_of (ofD_ok hv (fun e => ?_) fun e v vM vJ _ => ?_)
  · rw [tTup_tuple, tCons_cons, tCons_cons, tBool_bool, tNil_nil]
    rw [if_neg (by rw [e]; decide)] at hk
    exact ifT_pos rfl (retG_of hk)
  · rw [tTup_tuple, tCons_cons, tCons_cons, tBool_bool, tNil_nil]
    rw [if_pos e] at hk
    exact ifT_neg rfl (retG_of hk)
end
section
variable {v a vM vJ : AVal} {L : List (List Bool)} (H : HP v L a vM vJ) (hs : Sq L) (hn : L.length ≤ 64) (h1 : 1 ≤ L.length)
include H hs hn h1
theorem impD_l1 {x y : Nat} (hx : x < L.length) (hy : y < L.length) : ∀ d z : Nat, z + d = L.length → ∀ out : Option Nat, (∀ o, out = some o → o < L.length) → K (.int .i64 (optI ((List.range' z d).foldl (runB (fun z => at2 L (mt L.length (at2 L) z x) y) (at2 L)) out))) h →
    s32l1 K (d + 1) v (x : Int) (y : Int) (optI out) (z : Int) h
  | 0, z, hd, out, ho, hk => by
    obtain ⟨rfl, ha, _, _⟩ := H
    unfold s32l1
    simp only [nilCk_lptr, addOff_lptr, List.drop_succ_cons, List.drop_zero, ld1_lptr]
    rw [ha.len]
    exact ifT_neg (by simp; omega) (retG_of hk)
  | d + 1, z, hd, out, ho, hk => by
    have hz : z < L.length := by omega
    rw [List.range'_succ, List.foldl_cons] at hk
    have next := fun o' ho' hk' => impD_l1 hx hy d (z + 1) (by omega) o' ho' hk'
    have c2 : ∀ o', runB (fun z => at2 L (mt L.length (at2 L) z x) y) (at2 L) out z = o' → s32c2 K (s32l1_G (s32l1 K (d + 1))) v (x : Int) (y : Int) (optI o') (z : Int) h := fun o' e => by
      rw [e] at hk
      unfold s32c2
      refine rg_of (by omega) (by omega) (s32l1_go (next o' (fun o eo => ?_) hk))
      subst e
      unfold runB at eo
      split at eo
      · cases eo; exact hz
      · exact ho o eo
    have c3 : ∀ b, (at2 L (mt L.length (at2 L) z x) y && ovr (at2 L) out z) = b → s32c3 K (s32l1_G (s32l1 K (d + 1))) v (x : Int) (y : Int) (optI out) (z : Int) b h := fun b e => by
      unfold s32c3
      cases b with
      | true => exact ifT_pos rfl (c2 (some z) (by unfold runB; rw [if_pos e]))
      | false => exact ifT_neg rfl (c2 out (by unfold runB; rw [if_neg (by rw [e]; decide)]))
    obtain ⟨em, m1, m2⟩ := tab_rd (c := mt L.length (at2 L)) H.m hz
    obtain ⟨rfl, ha, _, _⟩ := H
    obtain ⟨ek, k1, _, k2⟩ := ha.rd hs (mt_lt (r := at2 L) h1 z x)
    unfold s32l1
    simp only [nilCk_lptr, addOff_lptr, List.drop_succ_cons, List.drop_zero, ld1_lptr]
    rw [ha.len]
    refine ifT_pos (by simp; omega) ?_
    rw [m1, m2 x hx, tInt_int, k1, k2 y hy, tBool_bool]
    cases e1 : at2 L (mt L.length (at2 L) z x) y with
    | false => exact ifT_neg rfl (c3 false (by rw [e1]; rfl))
    | true =>
      refine ifT_pos rfl ?_
      cases out with
      | none => exact ifT_pos rfl (c3 true (by rw [e1]; rfl))
      | some o =>
        have hol := ho o rfl
        refine ifT_neg (decide_eq_false (show ¬ ((o : Int) < 0) by omega)) ?_
        obtain ⟨eo, o1, _, o2⟩ := ha.rd hs hol
        show ixS 1 a (o : Int) _
        rw [o1, o2 z hz, tBool_bool]
        exact c3 _ (by rw [e1, Bool.true_and]; rfl)
theorem impD_ok (A : Lat L.length (at2 L)) {x y : Nat} (hx : x < L.length) (hy : y < L.length) (hk : K (.int .i64 ((im L.length (at2 L) x y : Nat) : Int)) h) : ACalls prog 32 [v, .int .i64 (x : Int), .int .i64 (y : Int)] h K := by
  refine s32_ok ?_
  unfold s32
  obtain ⟨g, _, _, _, g4, g5⟩ := A.imp hx hy
  have e : im L.length (at2 L) x y = g := by unfold im; rw [g4]; rfl
  refine s32l1_in (L.length + 1) (impD_l1 H hs hn h1 hx hy L.length 0 (by omega) none (fun o e => by cases e) ?_)
  rw [← List.range_eq_range', g5]
  rwa [e] at hk
theorem boundsD_l1 : ∀ d x : Nat, x + d = L.length → ∀ low high : Nat, low < L.length → high < L.length → (∀ lo hi, (List.range' x d).foldl (runB (fun _ => true) fun x y => at2 L y x) (some low) = some lo → (List.range' x d).foldl (runB (fun _ => true) (at2 L)) (some high) = some hi → K (.tuple [.int .i64 (lo : Int), .int .i64 (hi : Int)]) h) →
    s22l1 K (d + 1) v (low : Int) (high : Int) (x : Int) h
  | 0, x, hd, low, high, hl, hh, hk => by
    obtain ⟨rfl, ha, _, _⟩ := H
    unfold s22l1
    simp only [nilCk_lptr, addOff_lptr, List.drop_zero, ld1_lptr]
    rw [ha.len]
    exact ifT_neg (by simp; omega) (retG_of (hk low high rfl rfl))
  | d + 1, x, hd, low, high, hl, hh, hk => by
    have hx : x < L.length := by omega
    simp only [List.range'_succ, List.foldl_cons] at hk
    have next := fun lo' hi' h1' h2' hk' => boundsD_l1 d (x + 1) (by omega) lo' hi' h1' h2' hk'
    have stp : ∀ (r : Nat → Nat → Bool) (o : Nat), runB (fun _ => true) r (some o) x = some (if r o x then x else o) := fun r o => by
      unfold runB
      simp only [Bool.true_and, ovr]
      split <;> rfl
    rw [stp, stp] at hk
    have c2 : ∀ lo' hi', (if at2 L x low then x else low) = lo' → (if at2 L high x then x else high) = hi' → s22c2 K (s22l1_G (s22l1 K (d + 1))) v (lo' : Int) (hi' : Int) (x : Int) h := fun lo' hi' e1 e2 => by
      rw [e1, e2] at hk
      unfold s22c2
      refine rg_of (by omega) (by omega) (s22l1_go (next lo' hi' ?_ ?_ hk))
      · rw [← e1]; split <;> omega
      · rw [← e2]; split <;> omega
    obtain ⟨rfl, ha, _, _⟩ := H
    obtain ⟨ex, a1, _, a2⟩ := ha.rd hs hx
    obtain ⟨eh, b1, _, b2⟩ := ha.rd hs hh
    have c3 : ∀ lo', (if at2 L x low then x else low) = lo' → s22c3 K (s22l1_G (s22l1 K (d + 1))) (.lptr [a, vM, vJ]) (lo' : Int) (high : Int) (x : Int) h := fun lo' e1 => by
      unfold s22c3
      simp only [nilCk_lptr, addOff_lptr, List.drop_succ_cons, List.drop_zero, ld1_lptr]
      rw [b1, b2 x hx, tBool_bool]
      cases e : at2 L high x with
      | true => exact ifT_pos rfl (c2 lo' x e1 (by rw [e]; rfl))
      | false => exact ifT_neg rfl (c2 lo' high e1 (by rw [e]; rfl))
    unfold s22l1
    simp only [nilCk_lptr, addOff_lptr, List.drop_succ_cons, List.drop_zero, ld1_lptr]
    rw [ha.len]
    refine ifT_pos (by simp; omega) ?_
    rw [a1, a2 low hl, tBool_bool]
    cases e : at2 L x low with
    | true => exact ifT_pos rfl (c3 x (by rw [e]; rfl))
    | false => exact ifT_neg rfl (c3 low (by rw [e]; rfl))
theorem boundsD_ok (A : Lat L.length (at2 L)) (hk : K (.tuple [.int .i64 ((lowP L.length (at2 L) : Nat) : Int), .int .i64 ((highP L.length (at2 L) : Nat) : Int)]) h) : ACalls prog 22 [v] h K := by
  refine s22_ok ?_
  unfold s22
  refine s22l1_in (L.length + 1) (boundsD_l1 H hs hn h1 L.length 0 (by omega) 0 0 (by omega) (by omega) fun lo hi e1 e2 => ?_)
  rw [← List.range_eq_range'] at e1 e2
  rw [A.low 0 (by omega)] at e1
  rw [A.high 0 (by omega)] at e2
  cases e1
  cases e2
  exact hk
end

/- ---------------- two elements; Boolean ---------------- -/
def kR (L : List (List Bool)) (k : Int) : Nat → Nat → Nat := if k = 3 then mt L.length (at2 L) else if k = 4 then jn L.length (at2 L) else im L.length (at2 L)
section
variable {a : AVal} {L : List (List Bool)} (hv : Boolss a L)
include hv
theorem twoD_ok {k x y : Int} (hk : K (two L (kR L k) x y) h) : ACalls prog 16 [.agg [a], .int .i64 k, .int .i64 x, .int .i64 y] h K := by
  refine s16_ok ?_
  unfold s16
  unfold two at hk
  refine callG_of (ofD_ok hv (fun e => ?_) fun e v vM vJ H => ?_)
  · rw [tTup_tuple, tCons_cons, tCons_cons, tBool_bool, tNil_nil]
    have e2 : lookE L [x, y] = 230 := by unfold lookE; rw [e]; rfl
    rw [e2, if_neg (by decide)] at hk
    exact ifT_pos rfl (retG_of hk)
  · rw [tTup_tuple, tCons_cons, tCons_cons, tBool_bool, tNil_nil]
    obtain ⟨hs, h1, hn⟩ := algP_sq e
    have A := lat_of e
    refine ifT_neg rfl ?_
    have bad : [x, y].all (inE L.length) = false → s16c1 K k x y v true h := fun e1 => by
      have e2 : lookE L [x, y] = 2 := by unfold lookE; rw [if_pos e, e1]; rfl
      rw [e2, if_neg (by decide)] at hk
      unfold s16c1
      exact ifT_pos rfl (retG_of hk)
    have ev := H.e
    subst ev
    by_cases c1 : x < 0
    · exact ifT_pos (by simpa using c1) (bad (by simp [inE]; omega))
    refine ifT_neg (by simpa using c1) ?_
    simp only [nilCk_lptr, addOff_lptr, List.drop_succ_cons, List.drop_zero, ld1_lptr]
    rw [H.a.len]
    by_cases c2 : (L.length : Int) ≤ x
    · exact ifT_pos (by simpa using c2) (bad (by simp [inE]; omega))
    refine ifT_neg (by simpa using c2) ?_
    by_cases c3 : y < 0
    · exact ifT_pos (by simpa using c3) (bad (by simp [inE]; omega))
    refine ifT_neg (by simpa using c3) ?_
    rw [H.a.len]
    by_cases c4 : (L.length : Int) ≤ y
    · rw [decide_eq_true c4]
      exact bad (by simp [inE]; omega)
    rw [decide_eq_false c4]
    have ein : [x, y].all (inE L.length) = true := by simp [inE]; omega
    obtain ⟨⟨hx, ex⟩, hy, ey⟩ := two_in ein
    have e2 : lookE L [x, y] = 0 := by unfold lookE; rw [if_pos e, if_pos ein]
    rw [e2, if_pos rfl] at hk
    unfold s16c1
    refine ifT_neg rfl ?_
    rw [← ex, ← ey]
    obtain ⟨em, m1, m2⟩ := tab_rd (c := mt L.length (at2 L)) H.m hx
    obtain ⟨ej, j1, j2⟩ := tab_rd (c := jn L.length (at2 L)) H.j hx
    unfold kR at hk
    by_cases k3 : k = 3
    · rw [if_pos k3] at hk
      refine ifT_pos (by simpa using k3) ?_
      simp only [nilCk_lptr, addOff_lptr, List.drop_succ_cons, List.drop_zero, ld1_lptr]
      rw [m1, m2 _ hy, tInt_int]
      exact retG_of hk
    · rw [if_neg k3] at hk
      refine ifT_neg (by simpa using k3) ?_
      by_cases k4 : k = 4
      · rw [if_pos k4] at hk
        refine ifT_pos (by simpa using k4) ?_
        simp only [nilCk_lptr, addOff_lptr, List.drop_succ_cons, List.drop_zero, ld1_lptr]
        rw [j1, j2 _ hy, tInt_int]
        exact retG_of hk
      · rw [if_neg k4] at hk
        refine ifT_neg (by simpa using k4) (callG_of (impD_ok H hs hn h1 A hx hy ?_))
        rw [tInt_int]
        exact retG_of hk
omit hv in
theorem booleanD_l1 {v a vM vJ : AVal} (H : HP v L a vM vJ) (hs : Sq L) (hn : L.length ≤ 64) (h1 : 1 ≤ L.length) (A : Lat L.length (at2 L)) (hk : K (.tuple [.bool (boolP L.length (at2 L)), .int .i64 0]) h) :
    ∀ d x : Nat, x + d = L.length → (∀ x', x' < x → boolX L.length (at2 L) x' = true) → s19l1 K (d + 1) v ((lowP L.length (at2 L) : Nat) : Int) ((highP L.length (at2 L) : Nat) : Int) (x : Int) h
  | 0, x, hd, hb => by
    have e : boolP L.length (at2 L) = true := all_of fun x' hx' => hb x' (by omega)
    rw [e] at hk
    obtain ⟨rfl, ha, _, _⟩ := H
    unfold s19l1
    simp only [nilCk_lptr, addOff_lptr, List.drop_succ_cons, List.drop_zero, ld1_lptr]
    rw [ha.len]
    exact ifT_neg (by simp; omega) (retG_of hk)
  | d + 1, x, hd, hb => by
    have hx : x < L.length := by omega
    have next := fun e : boolX L.length (at2 L) x = true => booleanD_l1 H hs hn h1 A hk d (x + 1) (by omega) fun x' hx' => by
      by_cases e3 : x' = x
      · rw [e3]; exact e
      · exact hb x' (by omega)
    have hI := fun (K : AVal → Heap → Prop) => impD_ok (h := h) (K := K) H hs hn h1 A hx (low_lt (r := at2 L) h1)
    obtain ⟨ej, hj, hjx⟩ := H.j.ix (i := x) (by simpa [jTab] using hx)
    have hj : Ints ej (natI (jRow L.length (at2 L) x)) := by simpa [jTab] using hj
    have lj : (natI (jRow L.length (at2 L) x)).length = L.length := by simp [natI, jRow]
    obtain ⟨rfl, ha, _, _⟩ := H
    unfold s19l1
    simp only [nilCk_lptr, addOff_lptr, List.drop_succ_cons, List.drop_zero, ld1_lptr]
    rw [ha.len]
    refine ifT_pos (by simp; omega) ?_
    rw [hjx, ld1_lptr]
    refine callG_of (hI _ ?_)
    rw [tInt_int]
    refine ⟨by first | rfl | trivial, by first | rfl | trivial, ?_⟩
    have hil : im L.length (at2 L) x (lowP L.length (at2 L)) < (natI (jRow L.length (at2 L) x)).length := by rw [lj]; exact im_lt h1 _ _
    have eg : (natI (jRow L.length (at2 L) x))[im L.length (at2 L) x (lowP L.length (at2 L))] = ((jn L.length (at2 L) x (im L.length (at2 L) x (lowP L.length (at2 L))) : Nat) : Int) := by simp [natI, jRow]
    rw [hj.ix hil, ld1_lptr, tInt_int, eg]
    cases e : boolX L.length (at2 L) x with
    | false =>
      have e2 : boolP L.length (at2 L) = false := all_not (x := x) hx e
      rw [e2] at hk
      refine ifT_pos ?_ (retG_of hk)
      unfold boolX at e
      simp at e ⊢
      omega
    | true =>
      refine ifT_neg ?_ (rg_of (by omega) (by omega) (s19l1_go (next e)))
      unfold boolX at e
      simp at e ⊢
      omega
theorem booleanD_ok (no : algP L = false → K (.tuple [.bool false, .int .i64 230]) h) (yes : algP L = true → K (.tuple [.bool (boolP L.length (at2 L)), .int .i64 0]) h) : ACalls prog 19 [.agg [a]] h K := by
  refine s19_ok ?_
  unfold s19
  refine callG_of (ofD_ok hv (fun e => ?_) fun e v vM vJ H => ?_)
  · rw [tTup_tuple, tCons_cons, tCons_cons, tBool_bool, tNil_nil]
    exact ifT_pos rfl (retG_of (no e))
  · rw [tTup_tuple, tCons_cons, tCons_cons, tBool_bool, tNil_nil]
    obtain ⟨hs, h1, hn⟩ := algP_sq e
    have A := lat_of e
    refine ifT_neg rfl (callG_of (boundsD_ok H hs hn h1 A ?_))
    rw [tTup_tuple, tCons_cons, tInt_int, tCons_cons, tInt_int, tNil_nil]
    exact s19l1_in (L.length + 1) (booleanD_l1 H hs hn h1 A (yes e) L.length 0 (by omega) fun x' hx' => by omega)
end

/- ---------------- copies; the same ---------------- -/
theorem Own.ofGrow {os : List Ow} {es : Nat} {v : AVal} {l : List AVal} {h' : Heap} (W : Own hb os h) (g : Grow es h v l h') : Own hb (os ++ [.slc es v l]) h' := by
  cases g with
  | nil => exact W.newN es
  | own hr => exact W.newS hr l
theorem ldN1_lptr (h : Heap) (a : AVal) (K : List AVal → Prop) : ldN 1 h (.lptr [a]) K = K [a] := rfl
theorem copyD_l1 {a : AVal} {L : List (List Bool)} (A : AlgV a L) {rt ro : Nat} {X : AVal} (good : ∀ v, AlgV v L → K (.agg [v]) h0) :
    ∀ d x : Nat, x + d = L.length → ∀ v LV h, All2 Bools LV (L.take x) → Own h0 [.cell rt (.row 1 [.agg [X]]), .cell ro (.row 1 [.agg [v]]), .slc 1 v LV] h → s14l1 K (d + 1) (.lptr [a]) (.ptr rt 0 0) (.ptr ro 0 0) (x : Int) h
  | 0, x, hd, v, LV, h, aV, W => by
    unfold s14l1
    simp only [addOff_lptr, List.drop_zero, ld1_lptr]
    rw [A.v.len]
    refine ifT_neg (by simp; omega) ?_
    rw [List.take_of_length_le (by omega)] at aV
    rw [ldN_fld (n := 1) (W.get 1 _ ro rfl rfl) rfl, tCons_cons, tNil_nil]
    refine st_all (W.get 0 _ rt rfl rfl) rfl ?_
    have W2 := W.put (i := 0) rfl (.row 1 [.agg [v]])
    rw [ldN_fld (n := 1) (W2.get 0 _ rt rfl rfl) rfl, tCons_cons, tNil_nil]
    obtain ⟨v', l1, s1⟩ := W2.lit (i := 2) rfl (S := nameOf v) (fun k hk => hk) (Lits.refl LV)
    exact ⟨_, .agg [v'], h0, .agg (.cons l1 .nil), base_step W2 _ (fun k hk => W2.new 2 _ k rfl hk), good v' ⟨⟨_, s1, aV⟩, A.len, A.row⟩⟩
  | d + 1, x, hd, v, LV, h, aV, W => by
    have hx : x < L.length := by omega
    have hl := A.len
    have hr := A.row _ (List.getElem_mem hx)
    have hLV : LV.length ≤ x := by have := aV.length; rw [List.length_take] at this; omega
    obtain ⟨e, he, hix⟩ := A.v.ix hx
    unfold s14l1
    simp only [addOff_lptr, List.drop_zero, ld1_lptr]
    rw [A.v.len]
    refine ifT_pos (by simp; omega) ?_
    rw [addOff_ptr, ld1_fld (W.get 1 _ ro rfl rfl) rfl, hix, ld1_lptr]
    refine newRow_in fun r2 hr2 => ⟨by first | rfl | trivial, by first | rfl | trivial, ?_, ?_⟩
    · rw [ld1_fld (Heap.set_sub hr2 _ _ (W.get 1 _ ro rfl rfl)) rfl]
    refine appC_copy hr2 (elemsA_of he) (by simp; omega) (by simp; omega) fun cp h3 g2 => ?_
    have W2 := Own.ofGrow W g2
    refine ⟨?_, chk_iff.2 ⟨g2.sc.1, ?_, W2.app (i := 2) rfl (by omega) (by omega) fun v2 h4 W3 => ?_⟩⟩
    · rw [ld1_fld (W2.get 1 _ ro rfl rfl) rfl]
    · rw [ld1_fld (W2.get 1 _ ro rfl rfl) rfl]
    rw [addOff_ptr]
    refine chk_iff.2 ⟨(W3.sc (i := 2) rfl).1, st_fld (W3.get 1 _ ro rfl rfl) (by simp) (rg_of (by omega) (by omega) ?_)⟩
    have W4 : Own h0 ([.cell rt (.row 1 [.agg [X]]), .cell ro (.row 1 [.agg [v2]]), .slc 1 v2 (LV ++ [cp])] ++ [.slc 1 cp (L[x].map .bool)]) _ := W3.put (i := 1) rfl (.row 1 [.agg [v2]])
    obtain ⟨S, h', cp', s1, g, W5⟩ := W4.settleL (i := 2) rfl
    refine ⟨S, _, h', Lits.refl _, g, rfl, copyD_l1 A good d (x + 1) (by omega) v2 _ h' ?_ W5⟩
    rw [List.take_succ_eq_append_getElem hx]
    exact aV.append (.cons s1 .nil)
theorem copyD_ok {a : AVal} {L : List (List Bool)} (A : AlgV a L) (good : ∀ v, AlgV v L → K (.agg [v]) h) : ACalls prog 14 [.agg [a]] h K := by
  refine s14_ok ?_
  unfold s14
  refine newRow_in fun rt hrt => newRow_in fun ro hro => ?_
  have W0 := (Own.start h).newC hrt (.row 1 [.agg [.nilsl]])
  have W1 := W0.newC hro (.row 1 [.agg [.nilsl]])
  refine st_all (Heap.set_same _ _ _) rfl ?_
  have W2 := (W1.put (i := 1) rfl (.row 1 [.agg [.nilsl]])).newN 1
  exact s14l1_in (L.length + 1) (copyD_l1 A good L.length 0 (by omega) .nilsl [] _ .nil W2)
theorem sameA_l2 {a b : AVal} {L : List (List Bool)} (A : AlgV a L) (B : AlgV b L) {x : Nat} (hx : x < L.length) {L1 : s21l1_T} (hL : L1 (.lptr [a]) (.lptr [b]) ((x : Int) + 1) h) :
    ∀ d y : Nat, y + d = L[x].length → s21l2 K L1 (d + 1) (.lptr [a]) (.lptr [b]) (x : Int) (y : Int) h
  | 0, y, hd => by
    obtain ⟨e, he, hix⟩ := A.v.ix hx
    have hl := A.len
    unfold s21l2
    simp only [addOff_lptr, List.drop_zero, ld1_lptr]
    rw [hix, ld1_lptr, he.len]
    exact ifT_neg (by simp; omega) (rg_of (by omega) (by omega) hL)
  | d + 1, y, hd => by
    obtain ⟨e, he, hix⟩ := A.v.ix hx
    obtain ⟨e', he', hix'⟩ := B.v.ix hx
    have hy : y < L[x].length := by omega
    have hr := A.row _ (List.getElem_mem hx)
    unfold s21l2
    simp only [addOff_lptr, List.drop_zero, ld1_lptr]
    rw [hix, ld1_lptr, he.len]
    refine ifT_pos (by simp; omega) ?_
    rw [hix, ld1_lptr, he.ix hy, ld1_lptr, tBool_bool, hix', ld1_lptr, he'.ix hy, ld1_lptr, tBool_bool]
    refine eqQ_boolR ?_
    refine ifT_neg (by simp) (rg_of (by omega) (by omega) (s21l2_go (sameA_l2 A B hx hL d (y + 1) (by omega))))
theorem sameA_l1 {a b : AVal} {L : List (List Bool)} (A : AlgV a L) (B : AlgV b L) (hk : K (.bool true) h) : ∀ d x : Nat, x + d = L.length → s21l1 K (d + 1) (.lptr [a]) (.lptr [b]) (x : Int) h
  | 0, x, hd => by
    unfold s21l1
    simp only [addOff_lptr, List.drop_zero, ld1_lptr]
    rw [A.v.len]
    exact ifT_neg (by simp; omega) (retG_of hk)
  | d + 1, x, hd => by
    have hx : x < L.length := by omega
    obtain ⟨e, he, hix⟩ := A.v.ix hx
    obtain ⟨e', he', hix'⟩ := B.v.ix hx
    unfold s21l1
    simp only [addOff_lptr, List.drop_zero, ld1_lptr]
    rw [A.v.len]
    refine ifT_pos (by simp; omega) ?_
    rw [hix, ld1_lptr, he.len, hix', ld1_lptr, he'.len]
    exact ifT_neg (by simp) (s21l2_in (L[x].length + 1) (sameA_l2 A B hx (s21l1_go (sameA_l1 A B hk d (x + 1) (by omega))) L[x].length 0 (by omega)))
theorem sameA_ok {a b : AVal} {L : List (List Bool)} (A : AlgV a L) (B : AlgV b L) (hk : K (.bool true) h) : ACalls prog 21 [.agg [a], .agg [b]] h K := by
  refine s21_ok ?_
  unfold s21
  rw [A.v.len, B.v.len]
  exact ifT_neg (by simp) (s21l1_in (L.length + 1) (sameA_l1 A B hk L.length 0 (by omega)))
end Go.Proofs.Ytljglglbfcgjpaa

namespace Go.Proofs.Ytljglglbfcgjpaa
open Go Go.Sym Go.Proofs.Try

variable {K : AVal → Heap → Prop} {h h0 hb : Heap}

def Heads23 : Prop := ∀ {h' : Heap} {K : AVal → Heap → Prop}, K (.bool true) h' → ACalls prog 7 [] h' K
theorem headsRet (H : Heads23) (hk : ∀ h', K (.bool true) h') : callG prog 7 [] h fun v h' => tBool v fun b => retG (.bool b) h' K :=
  callG_of (H (by rw [tBool_bool]; exact retG_of (hk _)))
theorem ldN1 {h : Heap} {q : Nat} {a : AVal} (hq : h q = some (.row 1 [.agg [a]])) (X : List AVal → Prop) : ldN 1 h (.ptr q 0 0) X = X [a] := ldN_fld (n := 1) hq rfl X
section
variable (HH : Heads23) {a : AVal} {L : List (List Bool)} (A : AlgV a L) (hk : ∀ h', K (.bool true) h')
include HH A hk
theorem tells_c1 {v : AVal} (B : AlgV v L) {q : Nat} (hq : h q = some (.row 1 [.agg [v]])) : s5c1 K (.lptr [a]) (.ptr q 0 0) false h := by
  unfold s5c1
  refine ifT_neg rfl ?_
  rw [ldN1 hq, tCons_cons, tNil_nil]
  have fin : callG prog 21 [(.agg [v]), (.agg [a])] h fun v62 h_13 => tBool v62 fun v63 => ifT v63 (callG prog 7 [] h_13 fun v64 h_14 => tBool v64 fun v65 => retG (.bool v65) h_14 K) (retG (.bool false) h_13 K) := by
    refine callG_of (sameA_ok B A ?_)
    rw [tBool_bool]
    exact ifT_pos rfl (headsRet HH hk)
  refine callG_of (boundsP_ok B (fun e => ?_) fun e => ?_)
  · rw [tTup_tuple, tCons_cons, tInt_int, tCons_cons, tInt_int, tCons_cons, tInt_int, tNil_nil, ldN1 hq, tCons_cons, tNil_nil]
    refine callG_of (booleanP_ok B (fun _ => ?_) fun e' => by rw [e] at e'; cases e')
    rw [tTup_tuple, tCons_cons, tBool_bool, tCons_cons, tInt_int, tNil_nil, ldN1_lptr, tCons_cons, tNil_nil]
    refine callG_of (booleanD_ok A.v (fun _ => ?_) fun e' => by rw [e] at e'; cases e')
    rw [tTup_tuple, tCons_cons, tBool_bool, tCons_cons, tInt_int, tNil_nil, ldN1_lptr, tCons_cons, tNil_nil]
    refine callG_of (ofD_ok A.v (fun _ => ?_) fun e' => by rw [e] at e'; cases e')
    rw [tTup_tuple, tCons_cons, tCons_cons, tBool_bool, tNil_nil]
    refine ifT_pos rfl (ifT_pos rfl (ifT_pos rfl (ifT_pos rfl (ifT_pos rfl (ifT_pos rfl ?_)))))
    rw [ldN1 hq, tCons_cons, tNil_nil, ldN1_lptr, tCons_cons, tNil_nil]
    exact fin
  · rw [tTup_tuple, tCons_cons, tInt_int, tCons_cons, tInt_int, tCons_cons, tInt_int, tNil_nil, ldN1 hq, tCons_cons, tNil_nil]
    refine callG_of (booleanP_ok B (fun e' => by rw [e] at e'; cases e') fun _ => ?_)
    rw [tTup_tuple, tCons_cons, tBool_bool, tCons_cons, tInt_int, tNil_nil, ldN1_lptr, tCons_cons, tNil_nil]
    refine callG_of (booleanD_ok A.v (fun e' => by rw [e] at e'; cases e') fun _ => ?_)
    rw [tTup_tuple, tCons_cons, tBool_bool, tCons_cons, tInt_int, tNil_nil, ldN1_lptr, tCons_cons, tNil_nil]
    refine callG_of (ofD_ok A.v (fun e' => by rw [e] at e'; cases e') fun _ v' vM vJ H => ?_)
    rw [tTup_tuple, tCons_cons, tCons_cons, tBool_bool, tNil_nil]
    obtain ⟨hs, h1, hn⟩ := algP_sq e
    refine ifT_neg rfl (callG_of (boundsD_ok H hs hn h1 (lat_of e) ?_))
    rw [tTup_tuple, tCons_cons, tInt_int, tCons_cons, tInt_int, tNil_nil]
    refine ifT_pos (by simp) (ifT_pos (by simp) (ifT_pos rfl (eqQ_boolR (ifT_pos (by simp) (ifT_pos rfl ?_)))))
    rw [ldN1 hq, tCons_cons, tNil_nil, ldN1_lptr, tCons_cons, tNil_nil]
    exact fin
theorem tellsL_ok (x y : Int) : ACalls prog 5 [.agg [a], .int .i64 x, .int .i64 y] h K := by
  refine s5_ok ?_
  unfold s5
  refine callG_of (copyD_ok A fun v B => ?_)
  rw [tAgg_agg, tCons_cons, tNil_nil]
  refine newRow_in fun q hq0 => st_all (Heap.set_same _ _ _) rfl ?_
  rw [Heap.set_set]
  have hq := Heap.set_same h q (.row 1 [.agg [v]])
  generalize Heap.set h q _ = hh at hq ⊢
  rw [ldN1 hq, tCons_cons, tNil_nil]
  refine callG_of (meetP_ok B ?_)
  unfold two
  rw [tTup_tuple, tCons_cons, tInt_int, tCons_cons, tInt_int, tNil_nil, ldN1 hq, tCons_cons, tNil_nil]
  refine callG_of (joinP_ok B ?_)
  unfold two
  rw [tTup_tuple, tCons_cons, tInt_int, tCons_cons, tInt_int, tNil_nil, ldN1 hq, tCons_cons, tNil_nil]
  refine callG_of (impP_ok B ?_)
  unfold two
  rw [tTup_tuple, tCons_cons, tInt_int, tCons_cons, tInt_int, tNil_nil]
  refine callG_of (twoD_ok A.v (k := 3) ?_)
  unfold two
  rw [tTup_tuple, tCons_cons, tInt_int, tCons_cons, tInt_int, tNil_nil]
  refine callG_of (twoD_ok A.v (k := 4) ?_)
  unfold two
  rw [tTup_tuple, tCons_cons, tInt_int, tCons_cons, tInt_int, tNil_nil]
  refine callG_of (twoD_ok A.v (k := 5) ?_)
  unfold two
  rw [tTup_tuple, tCons_cons, tInt_int, tCons_cons, tInt_int, tNil_nil]
  have k3 : kR L 3 = mt L.length (at2 L) := rfl
  have k4 : kR L 4 = jn L.length (at2 L) := rfl
  have k5 : kR L 5 = im L.length (at2 L) := rfl
  rw [k3, k4, k5]
  refine ifT_neg (by simp) (ifT_neg (by simp) (ifT_neg (by simp) (ifT_neg (by simp) (ifT_neg (by simp) (ifT_neg (by simp) ?_)))))
  rw [ldN1 hq, tCons_cons, tNil_nil]
  refine callG_of (checkH_ok B ?_)
  rw [tInt_int]
  refine ⟨rfl, callG_of (checkD_ok A.v ?_)⟩
  rw [tInt_int, show (lookE L [] != lookE L []) = false by simp]
  exact tells_c1 HH A hk B hq

omit HH A hk in
theorem wrap_nat {n : Nat} (hn : n ≤ 1048576) : IntKind.u64.wrap (n : Int) = n := by
  simp [IntKind.wrap, IntKind.bits, IntKind.signed]
  omega
omit HH A hk in
theorem wrap_mod {n : Nat} (h1 : 1 ≤ n) (x : Int) : ∃ p : Nat, p < n ∧ Int.tmod (IntKind.u64.wrap x) (n : Int) = (p : Int) := by
  have h0 : 0 ≤ IntKind.u64.wrap x := by
    simp [IntKind.wrap, IntKind.bits, IntKind.signed]
    omega
  have h2 : (0 : Int) ≤ Int.tmod (IntKind.u64.wrap x) n := Int.tmod_nonneg _ h0
  have h3 : Int.tmod (IntKind.u64.wrap x) n < n := Int.tmod_lt_of_pos _ (by omega)
  exact ⟨(Int.tmod (IntKind.u64.wrap x) n).toNat, by omega, by omega⟩
theorem residL_ok (x y z : Int) : ACalls prog 4 [.agg [a], .int .i64 x, .int .i64 y, .int .i64 z] h K := by
  refine s4_ok ?_
  unfold s4
  refine callG_of (checkH_ok A ?_)
  rw [tInt_int]
  by_cases e0 : lookE L [] = 0
  · obtain ⟨e, _⟩ := lookE_zero e0
    obtain ⟨hs, h1, hn⟩ := algP_sq e
    have AL := lat_of e
    rw [e0]
    refine ifT_neg rfl (callG_of (checkD_ok A.v ?_))
    rw [tInt_int, e0]
    unfold s4c1
    refine ifT_neg rfl ?_
    simp only [addOff_lptr, List.drop_zero, ld1_lptr]
    rw [A.v.len, wrap_nat (by omega)]
    obtain ⟨p, hp, ep⟩ := wrap_mod h1 x
    obtain ⟨q, hq, eq⟩ := wrap_mod h1 y
    obtain ⟨r, hr, er⟩ := wrap_mod h1 z
    rw [ep, eq, er]
    refine ⟨by omega, rg_of (by omega) (by omega) ⟨by omega, rg_of (by omega) (by omega) ⟨by omega, rg_of (by omega) (by omega) ?_⟩⟩⟩
    rw [ldN1_lptr, tCons_cons, tNil_nil]
    have zero : ∀ u w : Nat, u < L.length → w < L.length → lookE L [(u : Int), (w : Int)] = 0 := fun u w hu hw => by
      unfold lookE
      rw [if_pos e, if_pos]
      simp [inE]
      omega
    refine callG_of (meetP_ok A ?_)
    unfold two
    rw [zero r p hr hp, if_pos rfl, Int.toNat_natCast, Int.toNat_natCast, tTup_tuple, tCons_cons, tInt_int, tCons_cons, tInt_int, tNil_nil, ldN1_lptr, tCons_cons, tNil_nil]
    refine callG_of (impP_ok A ?_)
    unfold two
    rw [zero p q hp hq, if_pos rfl, Int.toNat_natCast, Int.toNat_natCast, tTup_tuple, tCons_cons, tInt_int, tCons_cons, tInt_int, tNil_nil]
    have l1 := mt_lt (r := at2 L) h1 r p
    have l2 := im_lt (r := at2 L) h1 p q
    refine ifT_neg rfl (ifT_neg rfl (ifT_neg (decide_eq_false (by omega)) (rg_of (by omega) (by omega) (ifT_neg (decide_eq_false (by omega)) (ifT_neg (decide_eq_false (by omega)) (rg_of (by omega) (by omega) ?_))))))
    rw [decide_eq_false (show ¬ ((L.length : Int) ≤ ((im L.length (at2 L) p q : Nat) : Int)) by omega)]
    unfold s4c2
    refine ifT_neg rfl ?_
    obtain ⟨em, m1, _, m2⟩ := A.v.rd hs l1
    obtain ⟨er', r1, _, r2⟩ := A.v.rd hs hr
    simp only [addOff_lptr, List.drop_zero, ld1_lptr]
    rw [m1, m2 q hq, tBool_bool, r1, r2 _ l2, tBool_bool]
    refine eqQ_boolR (ifT_pos ?_ (headsRet HH hk))
    rw [AL.resid hp hq hr]
    simp
  · refine ifT_pos (by simpa using e0) ?_
    unfold s4c1
    refine ifT_pos rfl ?_
    rw [ldN1_lptr, tCons_cons, tNil_nil]
    refine callG_of (checkH_ok A ?_)
    rw [tInt_int]
    exact ifT_pos (by simpa using e0) (headsRet HH hk)
end
end Go.Proofs.Ytljglglbfcgjpaa

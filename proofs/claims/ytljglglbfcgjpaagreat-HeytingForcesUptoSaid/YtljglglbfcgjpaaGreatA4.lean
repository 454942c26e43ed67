/- Plain: BIRKHOFF: an element of an algebra is known by the primes below it; each set of primes that is closed downwards is such. No condition. Plain: what is next above each world. No condition. Contracts: what is next above each world, by the program; copies. No condition. Plain law: tidying keeps the order; the parts of a glued model. No condition; no program. Contracts: the program's Primes. No condition. Contracts: how a law of this layer ends. No condition. r23's heads answer true. No condition. Plain: the up-sets of a model are a Heyting algebra; what its meetings, joinings and implications hold. No condition. Plain: what is above each world; rows that are done. No condition. Contracts: the program's order (force): a search with a queue. No condition. Contracts: the program's order (force), whole. No condition. What an eye knows: a memo of truths; where a formula is forced; a look for one with a memory. No condition. Plain: a formula's element in the algebra of the up-sets is the set of the worlds that force it. No condition. Printed by lay.py (this repo, wip/tools): where the library's functions stand in the given program. No condition. Contracts: the program's Below: its answer. No condition. Contract: the program's Value. No condition. Contracts: an eye's forces. No condition. Contracts: an eye's forces, whole. No condition. Contracts: maps whose keys are nodes; the program's Copy. No condition. Contracts: a look at a model (the program). No condition. force.At; HeytingForces over its inputs: a formula's element is the set of worlds that force it. No condition. -/
import Derived.Test.YtljglglbfcgjpaaGreatA2
import Derived.Test.YtljglglbfcgjpaaGreatM5
import Derived.Test.YtljglglbfcgjpaaGreatA3
import Derived.Shelf.Sort.Plain
import Derived.Test.YtljglglbfcgjpaaGreatProg
import Derived.KernelRfl
import Derived.Test.YtljglglbfcgjpaaGreatA1

set_option linter.unusedVariables false
set_option linter.unusedSimpArgs false

namespace Go.Proofs.YtljglglbfcgjpaaGreat
open Go Go.Sym
def splitB (n : Nat) (r : Nat → Nat → Bool) (x : Nat) : Bool := (List.range n).any fun y => (List.range n).any fun z => jn n r y z == x && (y != x && z != x)
def primeB (n : Nat) (r : Nat → Nat → Bool) (x : Nat) : Bool := (x != lowP n r) && !splitB n r x
def primesL (n : Nat) (r : Nat → Nat → Bool) : List Nat := (List.range n).filter (primeB n r)
section
variable {n : Nat} {r : Nat → Nat → Bool} (A : Lat n r)
include A
theorem Lat.low_le {x : Nat} (hx : x < n) : r (lowP n r) x = true := by
  obtain ⟨g, g1, g2, g3⟩ := A.least (p := fun _ => true) (s := 0) A.pos rfl fun _ _ _ _ _ _ => rfl
  have e : lowP n r = g := by
    unfold lowP
    rw [bestP_is (r := fun x y => r y x) A.po.flip g1 g2 g3]; rfl
  rw [e]; exact g3 x hx rfl
theorem Lat.le_high {x : Nat} (hx : x < n) : r x (highP n r) = true := by
  obtain ⟨g, g1, g2, g3⟩ := A.great (p := fun _ => true) (s := 0) A.pos rfl fun _ _ _ _ _ _ => rfl
  have e : highP n r = g := by unfold highP; rw [bestP_is A.po g1 g2 g3]; rfl
  rw [e]; exact g3 x hx rfl
omit A in
theorem lat_split {x : Nat} (h : splitB n r x = true) : ∃ y z, y < n ∧ z < n ∧ jn n r y z = x ∧ y ≠ x ∧ z ≠ x := by
  unfold splitB at h
  rw [List.any_eq_true] at h
  obtain ⟨y, hy, h⟩ := h
  rw [List.any_eq_true] at h
  obtain ⟨z, hz, h⟩ := h
  simp only [Bool.and_eq_true, beq_iff_eq, bne_iff_ne] at h
  exact ⟨y, z, List.mem_range.1 hy, List.mem_range.1 hz, h.1, h.2.1, h.2.2⟩
omit A in
theorem lat_nosplit {x y z : Nat} (h : splitB n r x = false) (hy : y < n) (hz : z < n) (e : jn n r y z = x) : y = x ∨ z = x := by
  unfold splitB at h
  rw [List.any_eq_false] at h
  have h1 := h y (List.mem_range.2 hy)
  rw [Bool.not_eq_true, List.any_eq_false] at h1
  have h2 := h1 z (List.mem_range.2 hz)
  simp only [Bool.and_eq_true, beq_iff_eq, bne_iff_ne, ne_eq, not_and] at h2
  by_cases h3 : y = x
  · exact .inl h3
  · exact .inr (Classical.byContradiction fun h4 => h2 e h3 h4)
def below (n : Nat) (r : Nat → Nat → Bool) (x : Nat) : Nat := ((List.range n).filter fun w => r w x).length
omit A in
theorem filter_ltB {p q : Nat → Bool} : ∀ {l : List Nat} {x : Nat}, (∀ w ∈ l, p w = true → q w = true) → x ∈ l → p x = false → q x = true → (l.filter p).length < (l.filter q).length
  | [], _, _, h, _, _ => by cases h
  | a :: l, x, hpq, hx, h1, h2 => by
    have le : ∀ l' : List Nat, (∀ w ∈ l', p w = true → q w = true) → (l'.filter p).length ≤ (l'.filter q).length := fun l' h => by
      rw [← List.countP_eq_length_filter, ← List.countP_eq_length_filter]
      exact List.countP_mono_left h
    have hl := fun w hw => hpq w (List.mem_cons_of_mem a hw)
    by_cases e : a = x
    · subst e
      rw [List.filter_cons_of_neg (by simp [h1]), List.filter_cons_of_pos h2, List.length_cons]
      have := le l hl
      omega
    · have hm : x ∈ l := by
        rcases List.mem_cons.1 hx with h | h
        · exact absurd h.symm e
        · exact h
      have ih := filter_ltB (l := l) hl hm h1 h2
      cases e1 : p a with
      | true =>
        rw [List.filter_cons_of_pos e1, List.filter_cons_of_pos (hpq a List.mem_cons_self e1), List.length_cons, List.length_cons]
        omega
      | false =>
        rw [List.filter_cons_of_neg (by simp [e1])]
        cases e2 : q a with
        | true => rw [List.filter_cons_of_pos e2, List.length_cons]; omega
        | false => rw [List.filter_cons_of_neg (by simp [e2])]; exact ih
theorem Lat.below_lt {a x : Nat} (ha : a < n) (hx : x < n) (h : r a x = true) (hne : a ≠ x) : below n r a < below n r x := by
  unfold below
  refine filter_ltB (fun w hw h1 => A.po.trans w a x (List.mem_range.1 hw) ha hx h1 h) (List.mem_range.2 hx) ?_ (A.po.refl x hx)
  cases e : r x a with
  | false => rfl
  | true => exact absurd (A.po.anti a x ha hx h e) hne
theorem Lat.le_of : ∀ (d : Nat) {x y : Nat}, below n r x < d → x < n → y < n → (∀ p, p < n → primeB n r p = true → r p x = true → r p y = true) → r x y = true
  | 0, _, _, hd, _, _, _ => absurd hd (Nat.not_lt_zero _)
  | d + 1, x, y, hd, hx, hy, hp => by
    by_cases e : x = lowP n r
    · rw [e]; exact A.low_le hy
    · cases hs : splitB n r x with
      | false => exact hp x hx (by unfold primeB; simp [hs, e]) (A.po.refl x hx)
      | true =>
        obtain ⟨a, b, ha, hb, hj, ha', hb'⟩ := lat_split hs
        obtain ⟨j1, j2, j3⟩ := A.join a b ha hb
        have h1 : r a x = true := hj ▸ j1
        have h2 : r b x = true := hj ▸ j2
        have l1 := A.below_lt ha hx h1 ha'
        have l2 := A.below_lt hb hx h2 hb'
        have i1 := Lat.le_of d (x := a) (y := y) (by omega) ha hy fun p hpn hpp h => hp p hpn hpp (A.po.trans p a x hpn ha hx h h1)
        have i2 := Lat.le_of d (x := b) (y := y) (by omega) hb hy fun p hpn hpp h => hp p hpn hpp (A.po.trans p b x hpn hb hx h h2)
        have := j3 y hy i1 i2
        rwa [hj] at this
theorem Lat.le_iff {x y : Nat} (hx : x < n) (hy : y < n) : r x y = true ↔ ∀ p, p < n → primeB n r p = true → r p x = true → r p y = true :=
  ⟨fun h p hp _ h1 => A.po.trans p x y hp hx hy h1 h, fun h => A.le_of _ (Nat.lt_succ_self _) hx hy h⟩
theorem Lat.prime_join {p a b : Nat} (hp : p < n) (hP : primeB n r p = true) (ha : a < n) (hb : b < n) (h : r p (jn n r a b) = true) : r p a = true ∨ r p b = true := by
  unfold primeB at hP
  rw [Bool.and_eq_true, Bool.not_eq_true'] at hP
  have l := jn_lt (r := r) A.pos a b
  have m1 := mt_lt (r := r) A.pos p a
  have m2 := mt_lt (r := r) A.pos p b
  have e : mt n r p (jn n r a b) = p := by
    obtain ⟨k1, k2, k3⟩ := A.meet p _ hp l
    exact A.po.anti _ _ (mt_lt A.pos _ _) hp k1 (k3 p hp (A.po.refl p hp) h)
  have d := A.dist p a b hp ha hb
  rw [e] at d
  rcases lat_nosplit hP.2 m1 m2 d.symm with h1 | h1
  · exact .inl (by have := (A.meet p a hp ha).2.1; rwa [h1] at this)
  · exact .inr (by have := (A.meet p b hp hb).2.1; rwa [h1] at this)
theorem Lat.of_set {D : Nat → Bool} (hD : ∀ p q, p < n → q < n → primeB n r p = true → primeB n r q = true → r p q = true → D q = true → D p = true) :
    ∃ s, s < n ∧ ∀ p, p < n → primeB n r p = true → (r p s = true ↔ D p = true) := by
  have key : ∀ l : List Nat, (∀ q ∈ l, q < n ∧ primeB n r q = true ∧ D q = true) → ∃ s, s < n ∧ (∀ q ∈ l, r q s = true) ∧ ∀ p, p < n → primeB n r p = true → r p s = true → D p = true := by
    intro l
    induction l with
    | nil =>
      refine fun _ => ⟨lowP n r, low_lt A.pos, (fun q hq => by cases hq), fun p hp hP h => ?_⟩
      have := A.po.anti p _ hp (low_lt A.pos) h (A.low_le hp)
      unfold primeB at hP
      rw [Bool.and_eq_true, bne_iff_ne] at hP
      exact absurd this hP.1
    | cons q l ih =>
      intro hl
      obtain ⟨s, s1, s2, s3⟩ := ih fun q' hq' => hl q' (List.mem_cons_of_mem _ hq')
      obtain ⟨q1, q2, q3⟩ := hl q List.mem_cons_self
      obtain ⟨j1, j2, j3⟩ := A.join q s q1 s1
      refine ⟨jn n r q s, jn_lt A.pos _ _, fun q' hq' => ?_, fun p hp hP h => ?_⟩
      · rcases List.mem_cons.1 hq' with rfl | h
        · exact j1
        · exact A.po.trans _ _ _ (hl q' hq').1 s1 (jn_lt A.pos _ _) (s2 q' h) j2
      · rcases A.prime_join hp hP q1 s1 h with h | h
        · exact hD p q hp q1 hP q2 h q3
        · exact s3 p hp hP h
  obtain ⟨s, s1, s2, s3⟩ := key ((List.range n).filter fun q => primeB n r q && D q) fun q hq => by
    rw [List.mem_filter, Bool.and_eq_true] at hq
    exact ⟨List.mem_range.1 hq.1, hq.2⟩
  exact ⟨s, s1, fun p hp hP => ⟨s3 p hp hP, fun h => s2 p (by rw [List.mem_filter, Bool.and_eq_true]; exact ⟨List.mem_range.2 hp, hP, h⟩)⟩⟩
def phi (n : Nat) (r : Nat → Nat → Bool) (x : Nat) : List Bool := (primesL n r).map fun p => r p x
omit A in
theorem phi_len {x : Nat} : (phi n r x).length = (primesL n r).length := by simp [phi]
omit A in
theorem phi_get {x w : Nat} (hw : w < (primesL n r).length) : (phi n r x).getD w false = r (primesL n r)[w] x := by
  unfold phi
  rw [List.getD_eq_getElem?_getD, List.getElem?_map, List.getElem?_eq_getElem hw]; rfl
omit A in
theorem prime_at {w : Nat} (hw : w < (primesL n r).length) : (primesL n r)[w] < n ∧ primeB n r (primesL n r)[w] = true := by
  have := List.getElem_mem hw
  unfold primesL at this
  rw [List.mem_filter] at this
  exact ⟨List.mem_range.1 this.1, this.2⟩
omit A in
theorem prime_idx {p : Nat} (hp : p < n) (hP : primeB n r p = true) : ∃ w, ∃ hw : w < (primesL n r).length, (primesL n r)[w] = p :=
  List.mem_iff_getElem.1 (List.mem_filter.2 ⟨List.mem_range.2 hp, hP⟩)
theorem Lat.phi_le {x y : Nat} (hx : x < n) (hy : y < n) : r x y = true ↔ ∀ w, w < (primesL n r).length → (phi n r x).getD w false = true → (phi n r y).getD w false = true := by
  rw [A.le_iff hx hy]
  refine ⟨fun h w hw => ?_, fun h p hp hP => ?_⟩
  · rw [phi_get hw, phi_get hw]
    exact h _ (prime_at hw).1 (prime_at hw).2
  · obtain ⟨w, hw, rfl⟩ := prime_idx hp hP
    have := h w hw
    rwa [phi_get hw, phi_get hw] at this
theorem Lat.phi_inj {x y : Nat} (hx : x < n) (hy : y < n) (h : phi n r x = phi n r y) : x = y :=
  A.po.anti x y hx hy ((A.phi_le hx hy).2 fun w _ => by rw [h]; exact id) ((A.phi_le hy hx).2 fun w _ => by rw [h]; exact id)
def closedS (n : Nat) (r : Nat → Nat → Bool) (l : List Bool) : Prop := l.length = (primesL n r).length ∧
  ∀ w v, w < (primesL n r).length → v < (primesL n r).length → r ((primesL n r).getD v 0) ((primesL n r).getD w 0) = true → l.getD w false = true → l.getD v false = true
theorem Lat.phi_closed {x : Nat} (hx : x < n) : closedS n r (phi n r x) := by
  refine ⟨phi_len, fun w v hw hv h => ?_⟩
  rw [List.getD_eq_getElem?_getD, List.getD_eq_getElem?_getD, List.getElem?_eq_getElem hv, List.getElem?_eq_getElem hw] at h
  rw [phi_get hw, phi_get hv]
  exact fun h1 => A.po.trans _ _ _ (prime_at hv).1 (prime_at hw).1 hx h h1
theorem Lat.phi_onto {l : List Bool} (h : closedS n r l) : ∃ x, x < n ∧ phi n r x = l := by
  obtain ⟨s, s1, s2⟩ := A.of_set (D := fun p => (List.range (primesL n r).length).any fun w => (primesL n r).getD w 0 == p && l.getD w false) fun p q hp hq hP hQ hpq hd => by
    rw [List.any_eq_true] at hd ⊢
    obtain ⟨w, hw, hd⟩ := hd
    obtain ⟨v, hv, rfl⟩ := prime_idx hp hP
    rw [Bool.and_eq_true, beq_iff_eq] at hd
    refine ⟨v, List.mem_range.2 hv, ?_⟩
    have e : (primesL n r).getD v 0 = (primesL n r)[v] := by rw [List.getD_eq_getElem?_getD, List.getElem?_eq_getElem hv]; rfl
    rw [Bool.and_eq_true, beq_iff_eq]
    exact ⟨e, h.2 w v (List.mem_range.1 hw) hv (by rw [e, hd.1]; exact hpq) hd.2⟩
  refine ⟨s, s1, List.ext_getElem (by rw [phi_len, h.1]) fun w h1 h2 => ?_⟩
  have hw : w < (primesL n r).length := by rw [← h.1]; exact h2
  have a := s2 _ (prime_at hw).1 (prime_at hw).2
  have e : (phi n r s)[w] = r (primesL n r)[w] s := by simp [phi]
  rw [e, Bool.eq_iff_iff, a, List.any_eq_true]
  have eg : ∀ v (hv : v < (primesL n r).length), (primesL n r).getD v 0 = (primesL n r)[v] := fun v hv => by rw [List.getD_eq_getElem?_getD, List.getElem?_eq_getElem hv]; rfl
  have el : l.getD w false = l[w] := by rw [List.getD_eq_getElem?_getD, List.getElem?_eq_getElem h2]; rfl
  constructor
  · rintro ⟨v, hv, hd⟩
    rw [Bool.and_eq_true, beq_iff_eq] at hd
    have hv' := List.mem_range.1 hv
    have := h.2 v w hv' hw (by rw [hd.1, eg w hw]; exact A.po.refl _ (prime_at hw).1) hd.2
    rwa [el] at this
  · intro hl
    exact ⟨w, List.mem_range.2 hw, by rw [Bool.and_eq_true, beq_iff_eq]; exact ⟨eg w hw, by rw [el]; exact hl⟩⟩
end
end Go.Proofs.YtljglglbfcgjpaaGreat

namespace Go.Proofs.YtljglglbfcgjpaaGreat
open Go Go.Sym Go.Proofs.Tryz
variable {K : AVal → Heap → Prop} {h : Heap} {up : List (List Int)} {val : List (List ByteArray)} {mU mV : AVal}
noncomputable def okc (up : List (List Int)) (a b c : Nat) : Bool := (c == a) || ((c == b) || (!rb up a c || !rb up c b))
noncomputable def startB (up : List (List Int)) (a b : Nat) : Bool := (a != b) && rb up a b
noncomputable def coverB (up : List (List Int)) (a b : Nat) : Bool := startB up a b && (List.range up.length).all (okc up a b)
noncomputable def tidyRow (up : List (List Int)) (a : Nat) : List Nat := (List.range up.length).filter (coverB up a)
noncomputable def tidyUp (up : List (List Int)) : List (List Int) := (List.range up.length).map fun a => natI (tidyRow up a)
theorem tidyUp_get {a : Nat} (ha : a < up.length) : (tidyUp up)[a]? = some (natI (tidyRow up a)) := by simp [tidyUp, ha]
end Go.Proofs.YtljglglbfcgjpaaGreat

namespace Go.Proofs.YtljglglbfcgjpaaGreat
open Go Go.Sym Go.Proofs.Tryz
variable {K : AVal → Heap → Prop} {h : Heap} {up : List (List Int)} {val : List (List ByteArray)} {mU mV : AVal}
theorem cloneS_ok {v : AVal} {l : List ByteArray} (hv : Strs v l) (hm : l.length ≤ 1073741824) (hk : ∀ v', Strs v' l → K v' h) : ACalls prog 85 [v] h K := by
  refine s85_ok ?_
  unfold s85
  refine nilS_of hv (fun he hv' => ?_) fun hv' => ?_
  · exact ifT_pos rfl (retG_of (hk _ (by rw [hv'] at hv; exact hv)))
  · refine ifT_neg rfl (newRow_in fun r hr => appC_copy hr (elemsA_of hv) (by simp; omega) (by simp; omega) fun v' h' g => ?_)
    obtain ⟨S, v2, h1, h2, h3⟩ := g.freeze
    exact ⟨S, v2, h, h1, h3, hk v2 h2⟩
noncomputable def overL (up : List (List Int)) (a : Nat) : List Nat := (List.range up.length).filter (startB up a)
noncomputable def nextB (up : List (List Int)) (a b : Nat) : Bool := !((natI (overL up a)).any fun c => (c != (b : Int)) && rb up c.toNat b)
theorem cover_next {a b : Nat} : coverB up a b = (startB up a b && nextB up a b) := by
  unfold coverB nextB
  cases startB up a b with
  | false => rfl
  | true =>
    rw [Bool.true_and, Bool.true_and, Bool.eq_iff_iff, List.all_eq_true]
    constructor
    · intro hall
      rw [Bool.not_eq_true', List.any_eq_false]
      intro x hx
      obtain ⟨c, hc, rfl⟩ := mem_natI.1 hx
      obtain ⟨h1, h2⟩ := List.mem_filter.1 hc
      have h3 := hall c h1
      unfold okc at h3
      unfold startB at h2
      simp only [Int.toNat_natCast, Bool.and_eq_true, bne_iff_ne, ne_eq] at h2 ⊢
      rintro ⟨h4, h5⟩
      rw [show (c == a) = false by simp; omega, show (c == b) = false by simp; omega, h2.2, h5] at h3
      cases h3
    · intro hno c hc
      rw [Bool.not_eq_true', List.any_eq_false] at hno
      unfold okc
      cases e1 : (c == a) with
      | true => rfl
      | false =>
        cases e2 : (c == b) with
        | true => rfl
        | false =>
          cases e3 : rb up a c with
          | false => rfl
          | true =>
            cases e4 : rb up c b with
            | false => rfl
            | true =>
              exfalso
              refine hno (c : Int) (mem_natI.2 ⟨c, List.mem_filter.2 ⟨hc, ?_⟩, rfl⟩) ?_
              · unfold startB; simp at e1; simp [e3]; omega
              · simp at e2; simp [e4]; omega
theorem tidyRow_next (a : Nat) : tidyRow up a = (overL up a).filter (nextB up a) := by
  unfold tidyRow overL
  rw [List.filter_filter]
  congr 1
  funext b
  rw [cover_next, Bool.and_comm]
theorem over_call {f : AVal} (hF : LeqF f up) {c0 : AVal} {a b : Nat} (ha : a < up.length) (hb : b < up.length) {h : Heap} (h0 : ∀ K : AVal → Prop, ld1 h c0 K = K (.int .i64 (a : Int)))
    {K : AVal → Heap → Prop} (hk : K (.bool (startB up a b)) h) : callV prog (.func (.func 81) [] [c0, .lptr [f]]) [.int .i64 (b : Int)] h K := by
  show callG prog 81 ([] ++ [.int .i64 (b : Int)] ++ [c0, .lptr [f]]) h K
  refine callG_of (s81_ok ?_)
  unfold s81
  unfold startB at hk
  rw [h0, tInt_int]
  by_cases hab : a = b
  · exact ifT_neg (by simp [hab]) (retG_of (by simpa [hab] using hk))
  · refine ifT_pos (by simp; omega) ?_
    rw [ld1_lptr, h0, tInt_int]
    refine leq_call hF ha hb ?_
    rw [tBool_bool]
    exact retG_of (by rwa [show (a != b) = true by simpa using hab, Bool.true_and] at hk)
theorem above_call {f : AVal} (hF : LeqF f up) {b c : Nat} (hb : b < up.length) (hc : c < up.length) {h : Heap} {K : AVal → Heap → Prop} (hk : K (.bool (((c : Int) != (b : Int)) && rb up c b)) h) :
    callV prog (.func (.func 84) [] [.lptr [.int .i64 (b : Int)], .lptr [f]]) [.int .i64 (c : Int)] h K := by
  show callG prog 84 ([] ++ [.int .i64 (c : Int)] ++ [.lptr [.int .i64 (b : Int)], .lptr [f]]) h K
  refine callG_of (s84_ok ?_)
  unfold s84
  rw [ld1_lptr, tInt_int]
  by_cases hab : (c : Int) = (b : Int)
  · exact ifT_neg (by simp [hab]) (retG_of (by simpa [hab] using hk))
  · refine ifT_pos (by simpa using hab) ?_
    rw [ld1_lptr, ld1_lptr, tInt_int]
    refine leq_call hF hc hb ?_
    rw [tBool_bool]
    exact retG_of (by rwa [show ((c : Int) != (b : Int)) = true by simpa using hab, Bool.true_and] at hk)
theorem next_call {f ov : AVal} (hF : LeqF f up) (hn : up.length ≤ 512) {a b : Nat} (hov : Ints ov (natI (overL up a))) (hb : b < up.length) {h : Heap} {K : AVal → Heap → Prop} (hk : K (.bool (nextB up a b)) h) :
    callV prog (.func (.func 82) [] [.lptr [ov], .lptr [f]]) [.int .i64 (b : Int)] h K := by
  show callG prog 82 ([] ++ [.int .i64 (b : Int)] ++ [.lptr [ov], .lptr [f]]) h K
  refine callG_of (s82_ok ?_)
  unfold s82
  rw [ld1_lptr]
  have hle : (natI (overL up a)).length ≤ 512 := by
    have := List.length_filter_le (startB up a) (List.range up.length)
    simp [natI, overL] at this ⊢
    omega
  refine callG_of (containsFI_ok (p := fun c => (c != (b : Int)) && rb up c.toNat b) hov (by omega) (fun x hx K' hk' => ?_) ?_)
  · obtain ⟨c, hc, rfl⟩ := mem_natI.1 hx
    have hcn : c < up.length := List.mem_range.1 (List.mem_filter.1 hc).1
    exact above_call hF hb hcn (by simpa using hk')
  · rw [tBool_bool]
    exact retG_of hk
theorem tidy_l2 (hn : up.length ≤ 512) {f ov : AVal} (hF : LeqF f up) {a : Nat} (ha : a < up.length) (hl : val.length = up.length) (S : Small up val) (hV : Strss mV val) (hov : Ints ov (natI (overL up a)))
    {L1 : AVal → AVal → AVal → AVal → Int → Int → Heap → Prop} {t2 : AVal} {hb : Heap} {ro : Nat} {vU vV : AVal} {LU LV : List AVal} (hLU : LU.length ≤ 512) (hLV : LV.length ≤ 512) {t24 : Int}
    (hL : ∀ vU' vV' row cp h' hb', Grow 1 hb row (natV (tidyRow up a)) hb' → Strs cp (val[a]'(by omega)) → MB hb' ro vU' vV' (LU ++ [row]) (LV ++ [cp]) h' → L1 (.lptr [mU, mV]) t2 (.lptr [f]) (.ptr ro 0 0) t24 (a + 1) h') :
    ∀ d i : Nat, i + d = (overL up a).length → ∀ row h hM, MB hb ro vU vV LU LV hM → Grow 1 hM row (natV (((overL up a).take i).filter (nextB up a))) h →
      s38l2 K L1 (d + 1) (.lptr [mU, mV]) t2 (.lptr [f]) (.ptr ro 0 0) (.lptr [.int .i64 (a : Int)]) (.func (.func 82) [] [.lptr [ov], .lptr [f]]) row t24 a ov (overL up a).length (i : Int) h
  | 0, i, hd, row, h, hM, M, g => by
    have ha' : a < val.length := by omega
    rw [List.take_of_length_le (by omega), ← tidyRow_next] at g
    obtain ⟨hb', g1, M1⟩ := M.swap g
    unfold s38l2
    refine ifT_neg (by simp; omega) ?_
    rw [addOff_ptr, M1.ldU]
    refine chk_iff.2 ⟨g.sc.1, M1.appU (by omega) (by omega) fun v1 h1 M2 => ?_⟩
    rw [addOff_ptr]
    refine chk_iff.2 ⟨M2.sc.1.1, M2.stU fun h2 M3 => ?_⟩
    rw [addOff_ptr, M3.ldV, addOff_lptr]
    simp only [List.drop_succ_cons, List.drop_zero, ld1_lptr, tInt_int]
    obtain ⟨ev, hev, hix⟩ := hV.ix ha'
    rw [hix, ld1_lptr]
    have hSn := S.names _ (List.getElem_mem ha')
    refine callG_of (cloneS_ok hev (by omega) fun cp hcp => ?_)
    refine ⟨by rw [M3.ldV], chk_iff.2 ⟨hcp.notAgg.2, ⟨by rw [M3.ldV], ?_⟩⟩⟩
    refine M3.appV (by omega) (by omega) fun v2 h4 M5 => ?_
    rw [addOff_ptr]
    refine chk_iff.2 ⟨M5.sc.2.1, M5.stV fun h5 M6 => rg_of (by omega) (by omega) ?_⟩
    exact hL v1 v2 row cp h5 hb' g1 hcp M6
  | d + 1, i, hd, row, h, hM, M, g => by
    have hi : i < (overL up a).length := by omega
    have hlen : (overL up a).length ≤ 512 := by
      have := List.length_filter_le (startB up a) (List.range up.length)
      simp [overL] at this ⊢
      omega
    have hbn : (overL up a)[i] < up.length := List.mem_range.1 (List.mem_filter.1 (List.getElem_mem hi)).1
    unfold s38l2
    refine ifT_pos (by simp; omega) ?_
    have hix : (natI (overL up a))[i]'(by simpa [natI] using hi) = ((overL up a)[i] : Int) := by simp [natI]
    rw [hov.ix (i := i) (by simpa [natI] using hi), ld1_lptr, hix, tInt_int]
    refine next_call hF hn hov hbn ?_
    rw [tBool_bool]
    have hs : ((overL up a).take (i + 1)).filter (nextB up a) = ((overL up a).take i).filter (nextB up a) ++ if nextB up a (overL up a)[i] then [(overL up a)[i]] else [] := by
      rw [List.take_succ_eq_append_getElem hi, List.filter_append, List.filter_cons]; rfl
    have hle : (natV (((overL up a).take i).filter (nextB up a))).length ≤ i := by
      rw [natV_len]
      have := List.length_filter_le (nextB up a) ((overL up a).take i)
      simp at this
      omega
    cases hnx : nextB up a (overL up a)[i] with
    | true =>
      rw [hnx, if_pos rfl] at hs
      refine ifT_pos rfl (appC_one g (by omega) (by omega) fun v' h' g' => rg_of (by omega) (by omega) (s38l2_go (tidy_l2 hn hF ha hl S hV hov hLU hLV hL d (i + 1) (by omega) v' h' hM M ?_)))
      rw [hs, natV_app]
      exact g'
    | false =>
      rw [hnx] at hs
      refine ifT_neg rfl (rg_of (by omega) (by omega) (s38l2_go (tidy_l2 hn hF ha hl S hV hov hLU hLV hL d (i + 1) (by omega) row h hM M ?_)))
      rw [hs]
      simpa using g
theorem tidy_l1 (hn : up.length ≤ 512) {f : AVal} (hF : LeqF f up) (hU : Intss mU up) (hl : val.length = up.length) (S : Small up val) (hV : Strss mV val) {hb : Heap} {ro rt : Nat} {X : AVal} (hrt : hb rt = some (.row 2 [.agg [.nilsl, X]])) {h0 : Heap} (hsub : ∀ q o, h0 q = some o → q ≠ rt ∧ hb q = some o)
    (good : ∀ vU vV, Intss vU (tidyUp up) → Strss vV val → K (.tuple [.agg [vU, vV], .int .i64 0]) h0) :
    ∀ d a : Nat, a + d = up.length → ∀ vU vV LU LV h, MB hb ro vU vV LU LV h → All2 Ints LU ((tidyUp up).take a) → All2 Strs LV (val.take a) → s38l1 K (d + 1) (.lptr [mU, mV]) (.ptr rt 0 0) (.lptr [f]) (.ptr ro 0 0) up.length (a : Int) h
  | 0, a, hd, vU, vV, LU, LV, h, M, aU, aV => by
    obtain rfl : a = up.length := by omega
    unfold s38l1
    refine ifT_neg (by simp) ?_
    rw [M.ld, tCons_cons, tCons_cons, tNil_nil]
    have M1 := M.upd (x := .row 2 [.agg [vU, vV]]) hrt
    refine st_all (M.old hrt) rfl ?_
    rw [ldN2 (Heap.set_same _ _ _), tCons_cons, tCons_cons, tNil_nil]
    obtain ⟨Sn, vU', vV', l1, l2, s1, s2, hS, hold⟩ := M1.freeze
    have hlen : (tidyUp up).length = up.length := by simp [tidyUp]
    rw [List.take_of_length_le (by omega)] at aU
    rw [List.take_of_length_le (by omega)] at aV
    refine ⟨Sn, _, h0, .tuple (.cons (.agg (.cons l1 (.cons l2 .nil))) (.cons (.refl _) .nil)), ⟨fun _ _ => trivial, fun q o hq => ⟨o, ?_, ?_, .refl o⟩⟩, good vU' vV' ⟨LU, s1, aU⟩ ⟨LV, s2, aV⟩⟩
    · obtain ⟨h1, h2⟩ := hsub q o hq
      exact hold q o (by rw [Heap.set_ne _ _ h1]; exact h2)
    · intro hs
      have h3 := hS q hs
      obtain ⟨h1, h2⟩ := hsub q o hq
      rw [Heap.set_ne _ _ h1, h2] at h3
      cases h3
  | d + 1, a, hd, vU, vV, LU, LV, h, M, aU, aV => by
    have ha : a < up.length := by omega
    have hlen : (tidyUp up).length = up.length := by simp [tidyUp]
    have hLU : LU.length ≤ 512 := by have := aU.length; simp at this; omega
    have hLV : LV.length ≤ 512 := by have := aV.length; simp at this; omega
    unfold s38l1
    refine ifT_pos (by simp; omega) (newRow_in fun r3 hr3 => st_elem (Heap.set_same _ _ _) rfl rfl ?_)
    rw [show [AVal.int .i64 0].set 0 (.int .i64 (a : Int)) = [.int .i64 (a : Int)] from rfl, Heap.set_set, ldN_agg2, tCons_cons, tCons_cons, tNil_nil]
    refine callG_of (all_ok (p := startB up a) hU (by omega) (fun b hb h' K' hs hk' => over_call hF ha hb (fun K => ld1_one (hs _ _ (Heap.set_same _ _ _)) rfl K) hk') fun ov hov => ?_)
    refine newRow_in fun r4 hr4 => chk_iff.2 ⟨hov.notAgg.2, st_elem (Heap.set_same _ _ _) rfl rfl ?_⟩
    have hova : ov.isAgg = false := by rcases hov with rfl | ⟨rfl, _⟩ <;> rfl
    rw [show [AVal.nilsl].set 0 ov = [ov] from rfl, Heap.set_set, ld1_one (Heap.set_same _ _ _) hova, hov.len]
    have hne : r4 ≠ r3 := fun e => by rw [e, Heap.set_same] at hr4; cases hr4
    have hr4' : h r4 = none := by rwa [Heap.set_ne _ _ hne] at hr4
    have hlo : (natI (overL up a)).length = (overL up a).length := by simp [natI]
    have hlo2 : (natI ((List.range up.length).filter (startB up a))).length = (overL up a).length := hlo
    rw [hlo2]
    refine ⟨fun q => q = r3 ∨ q = r4, [.lptr [mU, mV], .ptr rt 0 0, .lptr [f], .ptr ro 0 0, .lptr [.int .i64 (a : Int)], .func (.func 82) [] [.lptr [ov], .lptr [f]], .nilsl, .int .i64 up.length, .int .i64 (a : Int), ov, .int .i64 (overL up a).length, .int .i64 0], h, ?_, ?_, rfl, (overL up a).length + 1, ?_⟩
    · have h3 : ((h.set r3 (.row 1 [.int .i64 (a : Int)])).set r4 (.row 1 [ov])) r3 = some (.row 1 [.int .i64 (a : Int)]) := by rw [Heap.set_ne _ _ hne.symm, Heap.set_same]
      refine .cons (.refl _) (.cons (.refl _) (.cons (.refl _) (.cons (.refl _) (.cons (.ptr (.inl rfl) h3 rfl (Lits.refl _)) (.cons (.func .nil (.cons (.ptr (.inr rfl) (Heap.set_same _ _ _) rfl ?_) (Lits.refl _))) (Lits.refl _))))))
      rw [List.drop_zero, cells_of_notAgg hova]
      exact Lits.refl _
    · refine ⟨fun _ _ => trivial, fun q o hq => ⟨o, ?_, ?_, .refl o⟩⟩
      · exact Heap.set_sub hr4 q o (Heap.set_sub hr3 q o hq)
      · rintro (e | e)
        · rw [e, hr3] at hq; cases hq
        · rw [e, hr4'] at hq; cases hq
    · have := tidy_l2 hn hF ha hl S hV hov (L1 := s38l1_G (s38l1 K (d + 1))) (t2 := .ptr rt 0 0) (t24 := up.length) (hb := hb) (ro := ro) (mU := mU) (K := K) hLU hLV (fun vU' vV' row cp h' hb' g1 hcp M' => ?_) (overL up a).length 0 (by omega) .nilsl h h M .nil
      · exact this
      · obtain ⟨Sg, h2, row', s1, M2, hg⟩ := M'.settle1 g1
        refine ⟨Sg, _, h2, Lits.refl _, hg, rfl, ?_⟩
        have := tidy_l1 hn hF hU hl S hV hrt hsub good d (a + 1) (by omega) vU' vV' _ _ h2 M2 ?_ ?_
        · exact this
        · rw [List.take_succ_eq_append_getElem (by omega)]
          refine aU.append (.cons ?_ .nil)
          have hga : (tidyUp up)[a]'(by omega) = natI (tidyRow up a) := by simp [tidyUp]
          rw [hga]
          unfold Ints
          rwa [← natV_eq]
        · rw [List.take_succ_eq_append_getElem (by omega)]
          exact aV.append (.cons hcp .nil)
theorem tidy_ok (S : Small up val) (hU : Intss mU up) (hV : Strss mV val) (bad : ¬ WF up val → K (.tuple [.agg [.nilsl, .nilsl], .int .i64 170]) h) (good : WF up val → ∀ vU vV, Intss vU (tidyUp up) → Strss vV val → K (.tuple [.agg [vU, vV], .int .i64 0]) h) :
    ACalls prog 38 [.agg [mU, mV]] h K := by
  refine s38_ok ?_
  unfold s38
  refine newRow_in fun rt hrt => callG_of (asked_ok (l := []) S hU hV (.inr ⟨rfl, rfl⟩) (by simp) (fun hW => ?_) (fun _ hW => absurd (by simp) hW) fun hW _ f hF => ?_)
  · simp only [tTup_tuple, tCons_cons, tInt_int, tNil_nil]
    refine newRow_in fun r hr => chk_iff.2 ⟨rfl, st_elem (Heap.set_same _ _ _) rfl rfl (ifT_pos rfl ?_)⟩
    rw [Heap.set_set]
    have hne : r ≠ rt := fun e => by rw [e, Heap.set_same] at hr; cases hr
    have hr' : h r = none := by rwa [Heap.set_ne _ _ hne] at hr
    refine st_all (cs := [.nilsl, .nilsl]) (es := 2) (by rw [Heap.set_ne _ _ hne.symm, Heap.set_same]) rfl ?_
    rw [ldN2 (Heap.set_same _ _ _), tCons_cons, tCons_cons, tNil_nil]
    refine retG_drop (fun q o hq => ?_) (bad hW)
    have h1 : q ≠ rt := fun e => by rw [e, hrt] at hq; cases hq
    have h2 : q ≠ r := fun e => by rw [e, hr'] at hq; cases hq
    rw [Heap.set_ne _ _ h1, Heap.set_ne _ _ h2, Heap.set_ne _ _ h1]
    exact hq
  · simp only [tTup_tuple, tCons_cons, tInt_int, tNil_nil]
    have hFc : Go.Sym.sc f = true ∧ f.isAgg = false := by obtain ⟨o, rfl, _⟩ := hF; exact ⟨rfl, rfl⟩
    refine newRow_in fun r hr => chk_iff.2 ⟨hFc.1, st_elem (Heap.set_same _ _ _) rfl rfl (ifT_neg rfl (newRow_in fun ro hro => ?_))⟩
    rw [Heap.set_set] at hro ⊢
    rw [hU.len]
    have hne : r ≠ rt := fun e => by rw [e, Heap.set_same] at hr; cases hr
    have hr' : h r = none := by rwa [Heap.set_ne _ _ hne] at hr
    have hne2 : ro ≠ r := fun e => by rw [e, Heap.set_same] at hro; cases hro
    have hro' : (h.set rt (.row 2 [.agg [.nilsl, .nilsl]])) ro = none := by rwa [Heap.set_ne _ _ hne2] at hro
    refine ⟨fun q => q = r, [.lptr [mU, mV], .ptr rt 0 0, .lptr [f], .ptr ro 0 0, .int .i64 up.length, .int .i64 0], (h.set rt (.row 2 [.agg [.nilsl, .nilsl]])).set ro (.row 2 [.agg [.nilsl, .nilsl]]), ?_, ?_, rfl, up.length + 1, ?_⟩
    · refine .cons (.refl _) (.cons (.refl _) (.cons (.ptr rfl (by rw [Heap.set_ne _ _ hne2.symm]; exact Heap.set_same _ _ _) rfl ?_) (Lits.refl _)))
      rw [List.drop_zero]
      show Lits _ _ (cellsOf f) [f]
      rw [cells_of_notAgg hFc.2]
      exact Lits.refl _
    · refine ⟨fun _ _ => trivial, fun q o hq => ?_⟩
      rw [Heap.set_get] at hq
      split at hq
      · rename_i e
        subst e
        cases hq
        exact ⟨_, Heap.set_same _ _ _, hne2, .refl _⟩
      · rename_i e
        refine ⟨o, ?_, (fun e' => by rw [e', hr] at hq; cases hq), .refl _⟩
        rw [Heap.set_ne _ _ e, Heap.set_ne _ _ (fun e' => by rw [e', hr] at hq; cases hq)]
        exact hq
    · have := tidy_l1 hW.max hF hU hW.len S hV (Heap.set_same _ _ _) (fun q o hq => ⟨(fun e => by rw [e, hrt] at hq; cases hq), Heap.set_sub hrt q o hq⟩) (good hW) up.length 0 (by omega) .nilsl .nilsl [] [] _ (MBs.start hro') .nil .nil
      exact this
theorem fail_ok {hb h : Heap} {rt : Nat} {c : Int} {X Y : AVal} (ht : hb rt = some (.row 2 [.agg [X, Y]])) (hsub : ∀ q o, h q = some o → q ≠ rt ∧ hb q = some o) (bad : K (.tuple [.agg [.nilsl, .nilsl], .nilsl, .int .i64 c]) h) :
    st false hb (.ptr rt 0 0) [.nilsl, .nilsl] fun h_2 => ldN 2 h_2 (.ptr rt 0 0) fun l_5 => tCons l_5 fun v4 l_6 => tCons l_6 fun v5 l_7 => tNil l_7 (retG (.tuple [(.agg [v4, v5]), .nilsl, (.int .i64 c)]) h_2 K) := by
  refine st_all ht rfl ?_
  rw [ldN2 (Heap.set_same _ _ _), tCons_cons, tCons_cons, tNil_nil]
  refine retG_drop (fun q o hq => ?_) bad
  rw [Heap.set_ne _ _ (hsub q o hq).1]
  exact (hsub q o hq).2
end Go.Proofs.YtljglglbfcgjpaaGreat

namespace Go.Proofs.YtljglglbfcgjpaaGreat
open Go Go.Sym Go.Proofs.Tryz
variable {up : List (List Int)} {val : List (List ByteArray)}
theorem tidyUp_len : (tidyUp up).length = up.length := by simp [tidyUp]
theorem tidy_step (hi : InR up) {a b : Nat} : Step (tidyUp up) a b ↔ a < up.length ∧ b < up.length ∧ coverB up a b = true := by
  unfold Step
  constructor
  · rintro ⟨r, hr, hb⟩
    have ha : a < up.length := by
      have := (List.getElem?_eq_some_iff.1 hr).1
      rwa [tidyUp_len] at this
    rw [tidyUp_get ha] at hr
    cases hr
    obtain ⟨c, hc, e⟩ := mem_natI.1 hb
    obtain rfl : b = c := by omega
    unfold tidyRow at hc
    rw [List.mem_filter, List.mem_range] at hc
    exact ⟨ha, hc.1, hc.2⟩
  · rintro ⟨ha, hb, hc⟩
    refine ⟨_, tidyUp_get ha, mem_natI.2 ⟨b, ?_, rfl⟩⟩
    unfold tidyRow
    rw [List.mem_filter, List.mem_range]
    exact ⟨hb, hc⟩
noncomputable def ivl (up : List (List Int)) (a b : Nat) : Nat := ((List.range up.length).filter fun x => rb up a x && rb up x b).length
theorem reach_tidy (W : WF up val) {a b : Nat} (ha : a < up.length) : Reach (tidyUp up) a b ↔ Reach up a b := by
  have iT : InR (tidyUp up) := fun r hr b hb => by
    obtain ⟨i, hi, e⟩ := List.mem_iff_getElem.1 hr
    rw [tidyUp_len] at hi
    have h1 := tidyUp_get hi
    rw [List.getElem?_eq_getElem (by rw [tidyUp_len]; exact hi), e] at h1
    cases h1
    obtain ⟨c, hc, rfl⟩ := mem_natI.1 hb
    unfold tidyRow at hc
    rw [List.mem_filter, List.mem_range] at hc
    rw [tidyUp_len]
    omega
  constructor
  · intro h
    induction h with
    | refl => exact .refl
    | tail _ hs ih =>
      obtain ⟨_, _, hc⟩ := (tidy_step W.inR).1 hs
      unfold coverB startB at hc
      simp only [Bool.and_eq_true] at hc
      exact ih.trans (rb_iff.1 hc.1.2)
  · have main : ∀ n a b, a < up.length → ivl up a b ≤ n → Reach up a b → Reach (tidyUp up) a b := by
      intro n
      induction n with
      | zero =>
        intro a b ha hn h
        have hb := h.lt W.inR ha
        have : (List.range up.length).filter (fun x => rb up a x && rb up x b) = [] := List.eq_nil_of_length_eq_zero (by unfold ivl at hn; omega)
        have hm : a ∈ (List.range up.length).filter (fun x => rb up a x && rb up x b) := by
          rw [List.mem_filter, List.mem_range]
          exact ⟨ha, by rw [rb_iff.2 .refl, rb_iff.2 h]; rfl⟩
        rw [this] at hm
        simp at hm
      | succ n ih =>
        intro a b ha hn h
        have hb := h.lt W.inR ha
        by_cases e : a = b
        · subst e; exact .refl
        · by_cases hc : coverB up a b = true
          · exact Reach.tail .refl ((tidy_step W.inR).2 ⟨ha, hb, hc⟩)
          · have hst : startB up a b = true := by unfold startB; rw [rb_iff.2 h]; simpa using e
            unfold coverB at hc
            rw [hst, Bool.true_and] at hc
            have hc2 : ((List.range up.length).all (okc up a b)) = false := by simpa using hc
            obtain ⟨c, hcm, hco⟩ := List.all_eq_false.1 hc2
            have hcl := List.mem_range.1 hcm
            have hco : okc up a b c = false := by simpa using hco
            unfold okc at hco
            simp only [Bool.or_eq_false_iff, Bool.not_eq_false'] at hco
            obtain ⟨h1, h2, h3, h4⟩ := hco
            have hca : c ≠ a := by simpa using h1
            have hcb : c ≠ b := by simpa using h2
            have r1 := rb_iff.1 h3
            have r2 := rb_iff.1 h4
            have l1 : ivl up a c < ivl up a b := filter_lt (x := b) _ (fun x hx => by
              simp only [Bool.and_eq_true] at hx ⊢
              exact ⟨hx.1, rb_iff.2 ((rb_iff.1 hx.2).trans r2)⟩) (List.mem_range.2 hb) (by rw [rb_iff.2 h, rb_iff.2 .refl]; rfl) (by
              have : rb up b c = false := by
                cases hh : rb up b c with
                | false => rfl
                | true => exact absurd (rb_iff.1 hh) (W.cond c b hcl hb r2 hcb).1
              rw [this, Bool.and_false])
            have l2 : ivl up c b < ivl up a b := filter_lt (x := a) _ (fun x hx => by
              simp only [Bool.and_eq_true] at hx ⊢
              exact ⟨rb_iff.2 (r1.trans (rb_iff.1 hx.1)), hx.2⟩) (List.mem_range.2 ha) (by rw [rb_iff.2 h, rb_iff.2 .refl]; rfl) (by
              have : rb up c a = false := by
                cases hh : rb up c a with
                | false => rfl
                | true => exact absurd (rb_iff.1 hh) (W.cond a c ha hcl r1 (Ne.symm hca)).1
              rw [this, Bool.false_and])
            exact (ih a c ha (by omega) r1).trans (ih c b hcl (by omega) r2)
    exact main _ a b ha (Nat.le_refl _)
theorem wf_tidy (W : WF up val) : WF (tidyUp up) val where
  pos := by rw [tidyUp_len]; exact W.pos
  max := by rw [tidyUp_len]; exact W.max
  len := by rw [tidyUp_len]; exact W.len
  inR := fun r hr b hb => by
    obtain ⟨i, hi, e⟩ := List.mem_iff_getElem.1 hr
    rw [tidyUp_len] at hi
    have h1 := tidyUp_get hi
    rw [List.getElem?_eq_getElem (by rw [tidyUp_len]; exact hi), e] at h1
    cases h1
    obtain ⟨c, hc, rfl⟩ := mem_natI.1 hb
    unfold tidyRow at hc
    rw [List.mem_filter, List.mem_range] at hc
    rw [tidyUp_len]
    omega
  fine := W.fine
  cond a b ha hb := by
    rw [tidyUp_len] at ha hb
    intro h hne
    have := W.cond a b ha hb ((reach_tidy W ha).1 h) hne
    exact ⟨fun h' => this.1 ((reach_tidy W hb).1 h'), this.2⟩
end Go.Proofs.YtljglglbfcgjpaaGreat

namespace Go.Proofs.YtljglglbfcgjpaaGreat
open Go Go.Sym Go.Proofs.Tryz
variable {K : AVal → Heap → Prop} {h h0 hb : Heap} {n : Nat} {r : Nat → Nat → Bool} {f : AVal}
/- ---------------- a number is put into a set ---------------- -/
theorem find_at {v : Nat} : ∀ (V : List Nat) (i : Nat), v ∈ V → ∃ j, findM (.int .i64 (v : Int)) (mapV V) i = some (some (i + j, .int .i64 1)) ∧ (mapV V)[j]? = some (.int .i64 (v : Int), .int .i64 1)
  | [], _, h => by simp at h
  | x :: V, i, h => by
    by_cases e : v = x
    · subst e
      refine ⟨0, ?_, rfl⟩
      show findM (.int .i64 (v : Int)) ((.int .i64 (v : Int), .int .i64 1) :: mapV V) i = _
      unfold findM keyEq
      simp
    · obtain ⟨j, h1, h2⟩ := find_at V (i + 1) (by simpa [e] using h)
      refine ⟨j + 1, ?_, ?_⟩
      · show findM (.int .i64 (v : Int)) ((.int .i64 (x : Int), .int .i64 1) :: mapV V) i = _
        unfold findM keyEq
        simp only [decide_true]
        rw [show ((v : Int) == (x : Int)) = false by rw [beq_eq_false_iff_ne]; omega]
        rw [show i + (j + 1) = i + 1 + j by omega]
        exact h1
      · exact h2
def insN (V : List Nat) (v : Nat) : List Nat := if v ∈ V then V else V ++ [v]
theorem mem_insN {V : List Nat} {v x : Nat} : x ∈ insN V v ↔ x ∈ V ∨ x = v := by
  unfold insN
  split
  · rename_i h
    exact ⟨.inl, fun e => e.elim id fun e => e ▸ h⟩
  · simp
theorem mapPut_ins {h : Heap} {rm : Nat} {V : List Nat} (hm : h rm = some (.map (mapV V))) {v : Nat} {X : Heap → Prop} (hk : X (h.set rm (.map (mapV (insN V v))))) : mapPut h (.mapr rm) (.int .i64 (v : Int)) (.int .i64 1) X := by
  by_cases hv : v ∈ V
  · unfold insN at hk
    rw [if_pos hv] at hk
    obtain ⟨j, h1, h2⟩ := find_at V 0 hv
    unfold mapPut mapPutR putM
    simp only [hm, h1]
    have : (mapV V).set (0 + j) (.int .i64 (v : Int), .int .i64 1) = mapV V := by
      rw [Nat.zero_add]
      refine List.ext_getElem? fun i => ?_
      rw [List.getElem?_set]
      split
      · rename_i e
        subst e
        rw [if_pos (List.getElem?_eq_some_iff.1 h2).1, h2]
      · rfl
    rw [this]
    exact hk
  · unfold insN at hk
    rw [if_neg hv] at hk
    exact mapPut_out hm hv hk
/- ---------------- the model of the primes ---------------- -/
def pRow (n : Nat) (r : Nat → Nat → Bool) (w : Nat) : List Nat := (List.range (primesL n r).length).filter fun v => (v != w) && r ((primesL n r).getD v 0) ((primesL n r).getD w 0)
def pUp (n : Nat) (r : Nat → Nat → Bool) : List (List Int) := (List.range (primesL n r).length).map fun w => natI (pRow n r w)
def pVal (n : Nat) (r : Nat → Nat → Bool) : List (List ByteArray) := List.replicate (primesL n r).length []
theorem pL_get {w : Nat} (hw : w < (primesL n r).length) : (primesL n r).getD w 0 = (primesL n r)[w] := by rw [List.getD_eq_getElem?_getD, List.getElem?_eq_getElem hw]; rfl
theorem pUp_len : (pUp n r).length = (primesL n r).length := by simp [pUp]
theorem pStep {a b : Nat} : Step (pUp n r) a b ↔ a < (primesL n r).length ∧ b < (primesL n r).length ∧ b ≠ a ∧ r ((primesL n r).getD b 0) ((primesL n r).getD a 0) = true := by
  unfold Step
  constructor
  · rintro ⟨row, h1, h2⟩
    have ha : a < (primesL n r).length := by have := (List.getElem?_eq_some_iff.1 h1).1; rwa [pUp_len] at this
    unfold pUp at h1
    rw [range_get _ ha] at h1
    cases h1
    obtain ⟨c, hc, e⟩ := mem_natI.1 h2
    have : b = c := by omega
    subst this
    unfold pRow at hc
    rw [List.mem_filter, List.mem_range, Bool.and_eq_true, bne_iff_ne] at hc
    exact ⟨ha, hc.1, hc.2.1, hc.2.2⟩
  · rintro ⟨ha, hb, hne, hr⟩
    refine ⟨natI (pRow n r a), range_get _ ha, mem_natI.2 ⟨b, ?_, rfl⟩⟩
    unfold pRow
    rw [List.mem_filter, List.mem_range, Bool.and_eq_true, bne_iff_ne]
    exact ⟨hb, hne, hr⟩
section
variable (A : Lat n r)
include A
theorem pReach {a b : Nat} (ha : a < (primesL n r).length) : Reach (pUp n r) a b ↔ b < (primesL n r).length ∧ r ((primesL n r).getD b 0) ((primesL n r).getD a 0) = true := by
  have lt : ∀ {x}, (hx : x < (primesL n r).length) → (primesL n r).getD x 0 < n := fun hx => by rw [pL_get hx]; exact (prime_at hx).1
  constructor
  · intro h
    induction h with
    | refl => exact ⟨ha, A.po.refl _ (lt ha)⟩
    | tail _ hs ih =>
      obtain ⟨h1, h2, _, h4⟩ := pStep.1 hs
      exact ⟨h2, A.po.trans _ _ _ (lt h2) (lt h1) (lt ha) h4 ih.2⟩
  · rintro ⟨hb, h⟩
    by_cases e : b = a
    · subst e; exact .refl
    · exact .tail .refl (pStep.2 ⟨ha, hb, e, h⟩)
theorem primes_nodup_inj {a b : Nat} (ha : a < (primesL n r).length) (hb : b < (primesL n r).length) (h : (primesL n r).getD a 0 = (primesL n r).getD b 0) : a = b := by
  have _ := A
  have hnd : (primesL n r).Nodup := List.Pairwise.filter _ List.nodup_range
  rw [pL_get ha, pL_get hb] at h
  exact (List.getElem_inj hnd).1 h
theorem pWF (hn : n ≤ 64) (h1 : (primesL n r).length ≠ 0) : WF (pUp n r) (pVal n r) where
  pos := by rw [pUp_len]; omega
  max := by
    rw [pUp_len]
    have := List.length_filter_le (primeB n r) (List.range n)
    unfold primesL
    simp at this
    omega
  len := by rw [pUp_len]; simp [pVal]
  inR := fun row hr b hb => by
    obtain ⟨i, hi, rfl⟩ := List.mem_iff_getElem.1 hr
    have hi' : i < (primesL n r).length := by rwa [pUp_len] at hi
    have e : (pUp n r)[i] = natI (pRow n r i) := by simp [pUp]
    rw [e] at hb
    obtain ⟨c, hc, rfl⟩ := mem_natI.1 hb
    unfold pRow at hc
    rw [List.mem_filter, List.mem_range] at hc
    rw [pUp_len]
    omega
  fine := fun l hl => by
    unfold pVal at hl
    rw [(List.mem_replicate.1 hl).2]
    rfl
  cond a b ha hb := by
    rw [pUp_len] at ha hb
    intro h hne
    refine ⟨fun h' => hne ?_, fun s hs => ?_⟩
    · have e1 := ((pReach A ha).1 h).2
      have e2 := ((pReach A hb).1 h').2
      have lt : ∀ {x}, (hx : x < (primesL n r).length) → (primesL n r).getD x 0 < n := fun hx => by rw [pL_get hx]; exact (prime_at hx).1
      exact primes_nodup_inj A ha hb (A.po.anti _ _ (lt ha) (lt hb) e2 e1)
    · unfold pVal at hs
      rw [List.getD_eq_getElem?_getD, List.getElem?_replicate] at hs
      split at hs <;> simp at hs
end
theorem pSmall (hn : n ≤ 64) : Small (pUp n r) (pVal n r) := by
  have hl : (primesL n r).length ≤ 64 := by
    have := List.length_filter_le (primeB n r) (List.range n)
    unfold primesL
    simp at this
    omega
  refine ⟨by rw [pUp_len]; omega, by simp [pVal]; omega, fun row hr => ?_, fun l hl' => ?_⟩
  · obtain ⟨i, hi, rfl⟩ := List.mem_iff_getElem.1 hr
    have e : (pUp n r)[i] = natI (pRow n r i) := by simp [pUp]
    rw [e]
    have := List.length_filter_le (fun v => (v != i) && r ((primesL n r).getD v 0) ((primesL n r).getD i 0)) (List.range (primesL n r).length)
    simp only [List.length_range] at this
    unfold natI pRow
    rw [List.length_map]
    omega
  · unfold pVal at hl'
    rw [(List.mem_replicate.1 hl').2]
    exact ⟨⟨by simp, by simp⟩, by simp⟩
/- ---------------- which elements split ---------------- -/
structure Spl (n : Nat) (r : Nat → Nat → Bool) (V : List Nat) (x y : Nat) : Prop where
  to : ∀ z, z ∈ V → z = lowP n r ∨ splitB n r z = true
  low : lowP n r ∈ V
  of : ∀ a b, a < n → b < n → (a < x ∨ a = x ∧ b < y) → jn n r a b ≠ a → jn n r a b ≠ b → jn n r a b ∈ V
theorem Spl.row {V : List Nat} {x : Nat} (S : Spl n r V x n) : Spl n r V (x + 1) 0 := ⟨S.to, S.low, fun a b ha hb h => S.of a b ha hb (by omega)⟩
theorem Spl.prime {V : List Nat} (S : Spl n r V n 0) {x : Nat} : x ∈ V ↔ primeB n r x = false := by
  unfold primeB
  constructor
  · intro h
    rcases S.to x h with e | e
    · simp [e]
    · simp [e]
  · intro h
    rw [Bool.and_eq_false_iff] at h
    rcases h with h | h
    · have : x = lowP n r := by simpa using h
      rw [this]; exact S.low
    · have h : splitB n r x = true := by simpa using h
      obtain ⟨y, z, hy, hz, e, h1, h2⟩ := lat_split h
      rw [← e]
      exact S.of y z hy hz (.inl hy) (fun e3 => h1 (e3 ▸ e)) (fun e3 => h2 (e3 ▸ e))
theorem split_of {y z : Nat} (hy : y < n) (hz : z < n) (h1 : jn n r y z ≠ y) (h2 : jn n r y z ≠ z) : splitB n r (jn n r y z) = true := by
  unfold splitB
  rw [List.any_eq_true]
  refine ⟨y, List.mem_range.2 hy, ?_⟩
  rw [List.any_eq_true]
  refine ⟨z, List.mem_range.2 hz, ?_⟩
  simp only [Bool.and_eq_true, beq_iff_eq, bne_iff_ne]
  exact ⟨trivial, fun e => h1 e.symm, fun e => h2 e.symm⟩
abbrev PM0 (h0 : Heap) (rt r1 rm n : Nat) (f X Y : AVal) (V : List Nat) (os : List Ow) (h : Heap) : Prop := Own h0 ([.cell rt (.row 2 [.agg [X, Y]]), .cell r1 (.row 2 [.agg (latC n f)]), .cell rm (.map (mapV V))] ++ os) h
section
variable {rt r1 rm : Nat} {X Y : AVal} (hf : T2 f n r) (hn : n ≤ 64) (hp : 1 ≤ n)
include hf hn hp
theorem primes_l2 {x : Nat} (hx : x < n) {L1 : s13l1_T} (next : ∀ V h, Spl n r V (x + 1) 0 → PM0 h0 rt r1 rm n f X Y V [] h → L1 (.ptr rt 0 0) (.ptr r1 0 0) (.mapr rm) n ((x : Int) + 1) h) :
    ∀ d y : Nat, y + d = n → ∀ V h, Spl n r V x y → PM0 h0 rt r1 rm n f X Y V [] h → s13l2 K L1 (d + 1) (.ptr rt 0 0) (.ptr r1 0 0) (.mapr rm) (x : Int) n (x : Int) n (y : Int) h
  | 0, y, hd, V, h, S, W => by
    obtain rfl : y = n := by omega
    unfold s13l2
    exact ifT_neg (by simp) (rg_of (by omega) (by omega) (next V h S.row W))
  | d + 1, y, hd, V, h, S, W => by
    have hy : y < n := by omega
    unfold s13l2
    refine ifT_pos (by simp; omega) ?_
    rw [ldN2 (W.get 1 _ r1 rfl rfl), tCons_cons, tInt_int, tCons_cons, tNil_nil]
    refine callG_of (joinH_ok hf (by omega) hx hy ?_)
    unfold bestV
    rw [tTup_tuple, tCons_cons, tInt_int, tCons_cons, tBool_bool, tNil_nil]
    show ifT (((jn n r x y : Nat) : Int) != (x : Int)) _ _
    have c3 : ∀ V' h', Spl n r V' x (y + 1) → PM0 h0 rt r1 rm n f X Y V' [] h' → s13c3 K L1 (s13l2_G (s13l2 K L1 (d + 1))) (.ptr rt 0 0) (.ptr r1 0 0) (.mapr rm) (x : Int) n (x : Int) n (y : Int) h' := fun V' h' S' W' => by
      unfold s13c3
      exact rg_of (by omega) (by omega) (s13l2_go (primes_l2 hx next d (y + 1) (by omega) V' h' S' W'))
    have keep : (jn n r x y = x ∨ jn n r x y = y) → Spl n r V x (y + 1) := fun e => ⟨S.to, S.low, fun a b ha hb hab h1 h2 => by
      by_cases e2 : a = x ∧ b = y
      · obtain ⟨rfl, rfl⟩ := e2
        rcases e with e | e
        · exact absurd e h1
        · exact absurd e h2
      · exact S.of a b ha hb (by omega) h1 h2⟩
    have c4f : (jn n r x y = x ∨ jn n r x y = y) → s13c4 K L1 (s13l2_G (s13l2 K L1 (d + 1))) (.ptr rt 0 0) (.ptr r1 0 0) (.mapr rm) (x : Int) ((jn n r x y : Nat) : Int) n (x : Int) n (y : Int) false h := fun e => by
      unfold s13c4
      exact ifT_neg rfl (c3 V h (keep e) W)
    by_cases e1 : jn n r x y = x
    · exact ifT_neg (by simp [e1]) (c4f (.inl e1))
    · refine ifT_pos (by simp; omega) ?_
      show s13c4 K L1 _ (.ptr rt 0 0) (.ptr r1 0 0) (.mapr rm) (x : Int) ((jn n r x y : Nat) : Int) n (x : Int) n (y : Int) (((jn n r x y : Nat) : Int) != (y : Int)) h
      by_cases e2 : jn n r x y = y
      · rw [show (((jn n r x y : Nat) : Int) != (y : Int)) = false by rw [e2]; simp]
        exact c4f (.inr e2)
      · rw [show (((jn n r x y : Nat) : Int) != (y : Int)) = true by simp; omega]
        unfold s13c4
        refine ifT_pos rfl (mapPut_ins (W.get 2 _ rm rfl rfl) ?_)
        have W2 := W.put (i := 2) rfl (.map (mapV (insN V (jn n r x y))))
        refine c3 _ _ ⟨fun z hz => ?_, mem_insN.2 (.inl S.low), fun a b ha hb hab h1 h2 => ?_⟩ W2
        · rcases mem_insN.1 hz with hz | hz
          · exact S.to z hz
          · rw [hz]; exact .inr (split_of hx hy e1 e2)
        · by_cases e3 : a = x ∧ b = y
          · obtain ⟨rfl, rfl⟩ := e3
            exact mem_insN.2 (.inr rfl)
          · exact mem_insN.2 (.inl (S.of a b ha hb (by omega) h1 h2))
theorem primes_l1 (next : ∀ V h, Spl n r V n 0 → PM0 h0 rt r1 rm n f X Y V [] h → s13l5_E (s13l5 K) (.ptr rt 0 0) (.ptr r1 0 0) (.mapr rm) .nilsl n 0 h) :
    ∀ d x : Nat, x + d = n → ∀ V h, Spl n r V x 0 → PM0 h0 rt r1 rm n f X Y V [] h → s13l1 K (d + 1) (.ptr rt 0 0) (.ptr r1 0 0) (.mapr rm) n (x : Int) h
  | 0, x, hd, V, h, S, W => by
    obtain rfl : x = n := by omega
    unfold s13l1
    refine ifT_neg (by simp) ?_
    rw [addOff_ptr, ld1_fld (W.get 1 _ r1 rfl rfl) rfl, tInt_int]
    exact next V h S W
  | d + 1, x, hd, V, h, S, W => by
    unfold s13l1
    refine ifT_pos (by simp; omega) ?_
    rw [addOff_ptr, ld1_fld (W.get 1 _ r1 rfl rfl) rfl, tInt_int]
    exact s13l2_in (n + 1) (primes_l2 hf hn hp (by omega) (fun V' h' S' W' => s13l1_go (primes_l1 next d (x + 1) (by omega) V' h' S' W')) n 0 (by omega) V h S W)
omit hf hn hp in
theorem primes_le : (primesL n r).length ≤ n := by
  have := List.length_filter_le (primeB n r) (List.range n)
  unfold primesL
  simpa using this
theorem primes_l8 {ev : AVal} (he : Ints ev (natI (primesL n r))) {w : Nat} (hw : w < (primesL n r).length) {V : List Nat} {r3 : Nat} {vU vV : AVal} {LU LV : List AVal} (hLU : LU.length ≤ 64) (hLV : LV.length ≤ 64) {L7 : s13l7_T}
    (next : ∀ vU' vV' row h', Ints row (natI (pRow n r w)) → PM0 h0 rt r1 rm n f X Y V [.cell r3 (.row 2 [.agg [vU', vV']]), .slc 1 vU' (LU ++ [row]), .slc 1 vV' (LV ++ [.nilsl])] h' → L7 (.ptr rt 0 0) (.ptr r1 0 0) ev (.ptr r3 0 0) ev (primesL n r).length ((w : Int) + 1) h') :
    ∀ d v : Nat, v + d = (primesL n r).length → ∀ row h, PM0 h0 rt r1 rm n f X Y V [.cell r3 (.row 2 [.agg [vU, vV]]), .slc 1 vU LU, .slc 1 vV LV, .slc 1 row ((natI ((List.range v).filter fun v => (v != w) && r ((primesL n r).getD v 0) ((primesL n r).getD w 0))).map (.int .i64))] h →
      s13l8 K (s13l7_G L7) (d + 1) (.ptr rt 0 0) (.ptr r1 0 0) ev (.ptr r3 0 0) (w : Int) (((primesL n r)[w] : Nat) : Int) row ev (primesL n r).length (w : Int) ev (primesL n r).length (v : Int) h
  | 0, v, hd, row, h, W => by
    obtain rfl : v = (primesL n r).length := by omega
    have hle := primes_le (n := n) (r := r)
    unfold s13l8
    refine ifT_neg (by simp) ?_
    rw [addOff_ptr, ld1_fld (W.get 3 _ r3 rfl rfl) rfl]
    refine chk_iff.2 ⟨(W.sc (i := 6) rfl).1, W.app (i := 4) rfl (by omega) (by omega) fun v2 h2 W2 => ?_⟩
    rw [addOff_ptr]
    refine chk_iff.2 ⟨(W2.sc (i := 4) rfl).1, st_fst (W2.get 3 _ r3 rfl rfl) ?_⟩
    have W3 := W2.put (i := 3) rfl (.row 2 [.agg [v2, vV]])
    rw [addOff_ptr, ld1_fld (W3.get 3 _ r3 rfl rfl) rfl]
    refine W3.app (i := 5) rfl (by omega) (by omega) fun v3 h3 W4 => ?_
    rw [addOff_ptr]
    refine chk_iff.2 ⟨(W4.sc (i := 5) rfl).1, st_snd (W4.get 3 _ r3 rfl rfl) (rg_of (by omega) (by omega) ?_)⟩
    have W5 : Own h0 (([.cell rt (.row 2 [.agg [X, Y]]), .cell r1 (.row 2 [.agg (latC n f)]), .cell rm (.map (mapV V))] ++ [.cell r3 (.row 2 [.agg [v2, v3]]), .slc 1 v2 (LU ++ [row]), .slc 1 v3 (LV ++ [.nilsl])]) ++ [.slc 1 row ((natI (pRow n r w)).map (.int .i64))]) _ := W4.put (i := 3) rfl (.row 2 [.agg [v2, v3]])
    obtain ⟨S, h', row', s1, g, W6⟩ := W5.settleL (i := 4) rfl
    exact ⟨S, _, h', Lits.refl _, g, rfl, next v2 v3 row' h' s1 W6⟩
  | d + 1, v, hd, row, h, W => by
    have hv : v < (primesL n r).length := by omega
    have hle := primes_le (n := n) (r := r)
    have hs := range_filter_succ (fun v => (v != w) && r ((primesL n r).getD v 0) ((primesL n r).getD w 0)) v
    have hlen : ((natI ((List.range v).filter fun v => (v != w) && r ((primesL n r).getD v 0) ((primesL n r).getD w 0))).map (AVal.int .i64)).length ≤ v := by
      rw [List.length_map]
      unfold natI
      rw [List.length_map]
      have := List.length_filter_le (fun v => (v != w) && r ((primesL n r).getD v 0) ((primesL n r).getD w 0)) (List.range v)
      simpa using this
    unfold s13l8
    refine ifT_pos (by simp; omega) ?_
    rw [he.ix (i := v) (by simpa [natI] using hv), ld1_lptr]
    rw [show (natI (primesL n r))[v]'(by simpa [natI] using hv) = (((primesL n r)[v] : Nat) : Int) by simp [natI], tInt_int]
    have c10 : ∀ b, ((v != w) && r ((primesL n r).getD v 0) ((primesL n r).getD w 0)) = b → s13c10 K (s13l7_G L7) (s13l8_G (s13l8 K (s13l7_G L7) (d + 1))) (.ptr rt 0 0) (.ptr r1 0 0) ev (.ptr r3 0 0) (w : Int) (((primesL n r)[w] : Nat) : Int) row (v : Int) ev (primesL n r).length (w : Int) ev (primesL n r).length (v : Int) b h := fun b e => by
      rw [e] at hs
      unfold s13c10
      cases b with
      | true =>
        rw [if_pos rfl] at hs
        refine ifT_pos rfl (W.app (i := 6) rfl (by omega) (by omega) fun v2 h2 W2 => ?_)
        unfold s13c9
        refine rg_of (by omega) (by omega) (s13l8_go (primes_l8 (vU := vU) (vV := vV) he hw hLU hLV next d (v + 1) (by omega) v2 h2 ?_))
        have e2 : (natI ((List.range (v + 1)).filter fun v => (v != w) && r ((primesL n r).getD v 0) ((primesL n r).getD w 0))).map (AVal.int .i64) = (natI ((List.range v).filter fun v => (v != w) && r ((primesL n r).getD v 0) ((primesL n r).getD w 0))).map (.int .i64) ++ [.int .i64 (v : Int)] := by rw [hs]; simp [natI]
        rw [e2]
        exact W2
      | false =>
        rw [if_neg (by decide), List.append_nil] at hs
        refine ifT_neg rfl ?_
        unfold s13c9
        refine rg_of (by omega) (by omega) (s13l8_go (primes_l8 (vU := vU) (vV := vV) he hw hLU hLV next d (v + 1) (by omega) row h ?_))
        rw [hs]
        exact W
    by_cases e1 : v = w
    · exact ifT_neg (by simp [e1]) (c10 false (by simp [e1]))
    · refine ifT_pos (by simp; omega) ?_
      rw [addOff_ptr, ld1_fld (W.get 1 _ r1 rfl rfl) rfl]
      refine hf _ _ h _ (prime_at hv).1 (prime_at hw).1 ?_
      rw [tBool_bool]
      refine c10 _ ?_
      rw [pL_get hv, pL_get hw, show (v != w) = true by simpa using e1, Bool.true_and]
theorem primes_l7 (A : Lat n r) (h1 : (primesL n r).length ≠ 0) {ev : AVal} (he : Ints ev (natI (primesL n r))) {V : List Nat} {r3 : Nat} (good : ∀ vU vV, Intss vU (tidyUp (pUp n r)) → Strss vV (pVal n r) → K (.tuple [.agg [vU, vV], ev, .int .i64 0]) h0) :
    ∀ d w : Nat, w + d = (primesL n r).length → ∀ vU vV LU LV h, All2 Ints LU ((pUp n r).take w) → All2 Strs LV ((pVal n r).take w) → PM0 h0 rt r1 rm n f X Y V [.cell r3 (.row 2 [.agg [vU, vV]]), .slc 1 vU LU, .slc 1 vV LV] h →
      s13l7 K (d + 1) (.ptr rt 0 0) (.ptr r1 0 0) ev (.ptr r3 0 0) ev (primesL n r).length (w : Int) h
  | 0, w, hd, vU, vV, LU, LV, h, aU, aV, W => by
    obtain rfl : w = (primesL n r).length := by omega
    rw [List.take_of_length_le (by rw [pUp_len]; omega)] at aU
    rw [List.take_of_length_le (by simp [pVal])] at aV
    unfold s13l7
    refine ifT_neg (by simp) ?_
    rw [ldN2 (W.get 3 _ r3 rfl rfl), tCons_cons, tCons_cons, tNil_nil]
    let Sg : Nat → Prop := fun q => nameOf vU q ∨ nameOf vV q
    obtain ⟨u', l1, s1⟩ := W.lit (i := 4) rfl (S := Sg) (fun q hq => .inl hq) (Lits.refl LU)
    obtain ⟨v', l2, s2⟩ := W.lit (i := 5) rfl (S := Sg) (fun q hq => .inr hq) (Lits.refl LV)
    have no : ∀ (j : Nat) (y : Ow), j < 4 → ([.cell rt (.row 2 [.agg [X, Y]]), .cell r1 (.row 2 [.agg (latC n f)]), .cell rm (.map (mapV V)), .cell r3 (.row 2 [.agg [vU, vV]]), .slc 1 vU LU, .slc 1 vV LV] : List Ow)[j]? = some y → ∀ q, y.nm q → ¬ Sg q := fun j y hj hy q hq hs => by
      rcases hs with hs | hs
      · have := W.one j 4 y _ q hy rfl hq hs; omega
      · have := W.one j 5 y _ q hy rfl hq hs; omega
    obtain ⟨h', g, W2⟩ := W.step Sg [.cell rt (.row 2 [.agg [X, Y]]), .cell r1 (.row 2 [.agg (latC n f)]), .cell rm (.map (mapV V)), .cell r3 (.row 2 [.agg [u', v']])] (fun q hq => by
      rcases hq with hq | hq
      · exact W.new 4 _ q rfl hq
      · exact W.new 5 _ q rfl hq) (fun j y' hj => by
      match j, hj with
      | 0, hj => cases hj; exact ⟨_, rfl, trivial, fun q hq => ⟨hq, no 0 _ (by omega) rfl q hq⟩, .refl _⟩
      | 1, hj => cases hj; exact ⟨_, rfl, trivial, fun q hq => ⟨hq, no 1 _ (by omega) rfl q hq⟩, .refl _⟩
      | 2, hj => cases hj; exact ⟨_, rfl, trivial, fun q hq => ⟨hq, no 2 _ (by omega) rfl q hq⟩, .refl _⟩
      | 3, hj => cases hj; exact ⟨_, rfl, trivial, fun q hq => ⟨hq, no 3 _ (by omega) rfl q hq⟩, .row (.cons (.agg (.cons l1 (.cons l2 .nil))) .nil)⟩
      | j + 4, hj => simp at hj)
    refine ⟨Sg, [.agg [u', v']], h', .cons (.agg (.cons l1 (.cons l2 .nil))) .nil, g, ?_⟩
    refine tidy_ok (pSmall hn) ⟨LU, s1, aU⟩ ⟨LV, s2, aV⟩ (fun hb => absurd (pWF A hn h1) hb) fun _ tU tV hU hV => ?_
    rw [tTup_tuple, tCons_cons, tCons_cons, tInt_int, tNil_nil, tAgg_agg, tCons_cons, tCons_cons, tNil_nil]
    refine st_all (W2.get 3 _ r3 rfl rfl) rfl ?_
    have W3 := W2.put (i := 3) rfl (.row 2 [.agg [tU, tV]])
    rw [ldN2 (W3.get 3 _ r3 rfl rfl), tCons_cons, tCons_cons, tNil_nil]
    refine st_all (W3.get 0 _ rt rfl rfl) rfl ?_
    have W4 := W3.put (i := 0) rfl (.row 2 [.agg [tU, tV]])
    rw [ldN2 (W4.get 0 _ rt rfl rfl), tCons_cons, tCons_cons, tNil_nil]
    exact retG_drop W4.old (good tU tV hU hV)
  | d + 1, w, hd, vU, vV, LU, LV, h, aU, aV, W => by
    have hw : w < (primesL n r).length := by omega
    have hle := primes_le (n := n) (r := r)
    have lU : LU.length ≤ 64 := by have := aU.length; rw [List.length_take] at this; omega
    have lV : LV.length ≤ 64 := by have := aV.length; rw [List.length_take] at this; omega
    unfold s13l7
    refine ifT_pos (by simp; omega) ?_
    rw [he.ix (i := w) (by simpa [natI] using hw), ld1_lptr]
    rw [show (natI (primesL n r))[w]'(by simpa [natI] using hw) = (((primesL n r)[w] : Nat) : Int) by simp [natI], tInt_int, he.len]
    rw [show ((natI (primesL n r)).length : Int) = ((primesL n r).length : Int) by simp [natI]]
    refine s13l8_in ((primesL n r).length + 1) (primes_l8 (vU := vU) (vV := vV) hf hn hp he hw lU lV (fun vU' vV' row h' hr W' => ?_) (primesL n r).length 0 (by omega) .nilsl h (W.newN 1))
    refine primes_l7 A h1 he good d (w + 1) (by omega) vU' vV' _ _ h' ?_ ?_ W'
    · rw [List.take_add_one, show (pUp n r)[w]? = some (natI (pRow n r w)) from range_get _ hw]
      exact aU.append (.cons hr .nil)
    · rw [List.take_add_one, show (pVal n r)[w]? = some [] by simp [pVal, hw]]
      exact aV.append (.cons (.nil 1) .nil)
theorem primes_l5 (A : Lat n r) (few : (primesL n r).length = 0 → K (.tuple [.agg [.nilsl, .nilsl], .nilsl, .int .i64 231]) h0) (good : (primesL n r).length ≠ 0 → ∀ vU vV ev, Intss vU (tidyUp (pUp n r)) → Strss vV (pVal n r) → Ints ev (natI (primesL n r)) → K (.tuple [.agg [vU, vV], ev, .int .i64 0]) h0)
    {V : List Nat} (S : Spl n r V n 0) : ∀ d x : Nat, x + d = n → ∀ ev h, PM0 h0 rt r1 rm n f X Y V [.slc 1 ev ((natI ((List.range x).filter (primeB n r))).map (.int .i64))] h → s13l5 K (d + 1) (.ptr rt 0 0) (.ptr r1 0 0) (.mapr rm) ev n (x : Int) h
  | 0, x, hd, ev, h, W => by
    obtain rfl : x = n := by omega
    have hle := primes_le (n := x) (r := r)
    have hlen : ((natI ((List.range x).filter (primeB x r))).map (AVal.int .i64)).length = (primesL x r).length := by simp [natI, primesL]
    unfold s13l5
    refine ifT_neg (by simp) ?_
    rw [W.len (i := 3) rfl, hlen]
    by_cases e : (primesL x r).length = 0
    · refine ifT_pos (by simp [e]) (st_all (W.get 0 _ rt rfl rfl) rfl ?_)
      have W2 := W.put (i := 0) rfl (.row 2 [.agg [.nilsl, .nilsl]])
      rw [ldN2 (W2.get 0 _ rt rfl rfl), tCons_cons, tCons_cons, tNil_nil]
      exact retG_drop W2.old (few e)
    · refine ifT_neg (by rw [beq_eq_false_iff_ne]; omega) (newRow_in fun r3 hr3 => ?_)
      have W2 := W.newC hr3 (.row 2 [.agg [.nilsl, .nilsl]])
      rw [W2.len (i := 3) rfl, hlen]
      have W3 : Own h0 ([.cell rt (.row 2 [.agg [X, Y]]), .cell r1 (.row 2 [.agg (latC x f)]), .cell rm (.map (mapV V)), .cell r3 (.row 2 [.agg [.nilsl, .nilsl]])] ++ [.slc 1 ev ((natI (primesL x r)).map (.int .i64))]) _ := W2.renum _ (fun j => if j = 3 then 4 else if j = 4 then 3 else j) (fun j y hj => by
        match j, hj with
        | 0, hj => exact hj
        | 1, hj => exact hj
        | 2, hj => exact hj
        | 3, hj => exact hj
        | 4, hj => exact hj
        | j + 5, hj => simp at hj) (show ∀ j, j < 5 → ∀ k, k < 5 → _ = _ → j = k by decide)
      obtain ⟨Sg, h', ev', l1, s1, g, W4⟩ := Own.frzL W3
      have W5 := (W4.newN 1).newN 1
      refine ⟨Sg, [.ptr rt 0 0, .ptr r1 0 0, ev', .ptr r3 0 0, ev', .int .i64 (primesL x r).length, .int .i64 0], h', .cons (.refl _) (.cons (.refl _) (.cons l1 (.cons (.refl _) (.cons l1 (Lits.refl _))))), g, rfl, (primesL x r).length + 1, ?_⟩
      exact primes_l7 hf hn hp A e s1 (fun vU vV hU hV => good e vU vV ev' hU hV s1) (primesL x r).length 0 (by omega) .nilsl .nilsl [] [] h' .nil .nil W5
  | d + 1, x, hd, ev, h, W => by
    have hx : x < n := by omega
    have hs := range_filter_succ (primeB n r) x
    have hlen : ((natI ((List.range x).filter (primeB n r))).map (AVal.int .i64)).length ≤ x := by
      rw [List.length_map]
      unfold natI
      rw [List.length_map]
      have := List.length_filter_le (primeB n r) (List.range x)
      simpa using this
    unfold s13l5
    refine ifT_pos (by simp; omega) ?_
    cases e : primeB n r x with
    | true =>
      rw [e, if_pos rfl] at hs
      refine mapGet_out (W.get 2 _ rm rfl rfl) (fun hm => by rw [S.prime.1 hm] at e; cases e) ?_
      rw [tInt_int]
      refine ifT_pos rfl (W.app (i := 3) rfl (by omega) (by omega) fun v2 h2 W2 => ?_)
      unfold s13c6
      refine rg_of (by omega) (by omega) (s13l5_go (primes_l5 A few good S d (x + 1) (by omega) v2 h2 ?_))
      have e2 : (natI ((List.range (x + 1)).filter (primeB n r))).map (AVal.int .i64) = (natI ((List.range x).filter (primeB n r))).map (.int .i64) ++ [.int .i64 (x : Int)] := by rw [hs]; simp [natI]
      rw [e2]
      exact W2
    | false =>
      rw [e, if_neg (by decide), List.append_nil] at hs
      refine mapGet_in (W.get 2 _ rm rfl rfl) (S.prime.2 e) ?_
      rw [tInt_int]
      refine ifT_neg rfl ?_
      unfold s13c6
      refine rg_of (by omega) (by omega) (s13l5_go (primes_l5 A few good S d (x + 1) (by omega) ev h ?_))
      rw [hs]
      exact W
end
theorem primesP_ok {a : AVal} {L : List (List Bool)} (A : AlgV a L) (no : algP L = false → K (.tuple [.agg [.nilsl, .nilsl], .nilsl, .int .i64 230]) h)
    (few : algP L = true → (primesL L.length (at2 L)).length = 0 → K (.tuple [.agg [.nilsl, .nilsl], .nilsl, .int .i64 231]) h)
    (good : algP L = true → (primesL L.length (at2 L)).length ≠ 0 → ∀ vU vV ev, Intss vU (tidyUp (pUp L.length (at2 L))) → Strss vV (pVal L.length (at2 L)) → Ints ev (natI (primesL L.length (at2 L))) → K (.tuple [.agg [vU, vV], ev, .int .i64 0]) h) :
    ACalls prog 13 [.agg [a]] h K := by
  refine s13_ok ?_
  unfold s13
  refine newRow_in fun rt hrt => ?_
  have W0 := (Own.start h).newC hrt (.row 2 [.agg [.nilsl, .nilsl]])
  refine callG_of (look_ok A.v A.len A.row (els := []) (.inr ⟨rfl, rfl⟩) (by simp) ?_)
  rw [tTup_tuple, tCons_cons, tCons_cons, tInt_int, tNil_nil, tAgg_agg, tCons_cons, tInt_int, tCons_cons, tNil_nil]
  refine newRow_in fun r1 hr1 => st_all (Heap.set_same _ _ _) rfl ?_
  have W1 := (W0.newC hr1 (.row 2 [.agg [.int .i64 0, .nilfunc]])).put (i := 1) rfl (.row 2 [.agg (latC L.length (leqV a))])
  generalize Heap.set _ r1 (AObj.row 2 [.agg [AVal.int .i64 (L.length : Int), leqV a]]) = hh at W1 ⊢
  unfold lookE
  cases e : algP L with
  | false =>
    refine ifT_pos rfl (st_all (W1.get 0 _ rt rfl rfl) rfl ?_)
    have W2 := W1.put (i := 0) rfl (.row 2 [.agg [.nilsl, .nilsl]])
    rw [ldN2 (W2.get 0 _ rt rfl rfl), tCons_cons, tCons_cons, tNil_nil]
    exact retG_drop W2.old (no e)
  | true =>
    obtain ⟨hf, hn, h1⟩ := A.alg e
    obtain ⟨_, _, hn64⟩ := algP_sq e
    have AL := lat_of e
    refine ifT_neg rfl ?_
    rw [ldN2 (W1.get 1 _ r1 rfl rfl), tCons_cons, tInt_int, tCons_cons, tNil_nil]
    refine callG_of (boundsH_ok hf hn ?_)
    rw [tTup_tuple, tCons_cons, tInt_int, tCons_cons, tInt_int, tNil_nil]
    intro rm hrm _
    have W2 := W1.newC hrm (.map [])
    refine mapPut_out (V := []) (W2.get 2 _ rm rfl rfl) (by simp) ?_
    have W3 := W2.put (i := 2) rfl (.map (mapV ([] ++ [lowP L.length (at2 L)])))
    generalize Heap.set _ rm (AObj.map (mapV ([] ++ [lowP L.length (at2 L)]))) = h3 at W3 ⊢
    have W4 : PM0 h rt r1 rm L.length (leqV a) .nilsl .nilsl [lowP L.length (at2 L)] [] h3 := W3
    rw [ld1_fld (W4.get 1 _ r1 rfl rfl) rfl, tInt_int]
    refine s13l1_in (L.length + 1) (primes_l1 hf hn64 h1 (fun V h' S W' => ?_) L.length 0 (by omega) _ h3 ⟨fun z hz => .inl (List.mem_singleton.1 hz), List.mem_singleton.2 rfl, fun a b ha hb hab => by omega⟩ W4)
    exact s13l5_in (L.length + 1) (primes_l5 hf hn64 h1 AL (few e) (good e) S L.length 0 (by omega) .nilsl h' (W'.newN 1))
end Go.Proofs.YtljglglbfcgjpaaGreat

namespace Go.Proofs.YtljglglbfcgjpaaGreat
open Go Go.Sym Go.Proofs.Tryz
variable {K : AVal → Heap → Prop} {h h0 hb : Heap}
def Heads23 : Prop := ∀ {h' : Heap} {K : AVal → Heap → Prop}, K (.bool true) h' → ACalls prog 19 [] h' K
theorem headsRet (H : Heads23) (hk : ∀ h', K (.bool true) h') : callG prog 19 [] h fun v h' => tBool v fun b => retG (.bool b) h' K :=
  callG_of (H (by rw [tBool_bool]; exact retG_of (hk _)))
theorem ldN1 {h : Heap} {q : Nat} {a : AVal} (hq : h q = some (.row 1 [.agg [a]])) (X : List AVal → Prop) : ldN 1 h (.ptr q 0 0) X = X [a] := ldN_fld (n := 1) hq rfl X
end Go.Proofs.YtljglglbfcgjpaaGreat

namespace Go.Proofs.YtljglglbfcgjpaaGreat
open Go Go.Sym Go.Proofs.Tryz
variable {K : AVal → Heap → Prop} {h h0 hb : Heap}
/- ---------------- lists of truths; models without an order ---------------- -/
def allB : Nat → List (List Bool)
  | 0 => [[]]
  | n + 1 => (allB n).map (false :: ·) ++ (allB n).map (true :: ·)
theorem allB_len : ∀ n, ∀ l ∈ allB n, l.length = n
  | 0, l, h => by rw [List.mem_singleton.1 h]; rfl
  | n + 1, l, h => by
    rcases List.mem_append.1 h with h | h <;> obtain ⟨k, hk, rfl⟩ := List.mem_map.1 h <;> simp [allB_len n k hk]
theorem allB_size : ∀ n, (allB n).length = 2 ^ n
  | 0 => rfl
  | n + 1 => by
    unfold allB
    rw [List.length_append, List.length_map, List.length_map, allB_size n, Nat.pow_succ]
    omega
theorem allB_nodup : ∀ n, (allB n).Nodup
  | 0 => by simp [allB]
  | n + 1 => by
    unfold allB
    rw [List.nodup_append]
    have inj : ∀ b : Bool, ((allB n).map (b :: ·)).Nodup := fun b => by
      unfold List.Nodup
      rw [List.pairwise_map]
      exact (allB_nodup n).imp fun h e => h (List.cons.inj e).2
    refine ⟨inj false, inj true, fun a ha b hb e => ?_⟩
    obtain ⟨x, _, rfl⟩ := List.mem_map.1 ha
    obtain ⟨y, _, rfl⟩ := List.mem_map.1 hb
    cases (List.cons.inj e).1
theorem rising_nodup {n : Nat} {V : List (List Bool)} (h : Rising n V) : V.Nodup := h.imp fun {a b} h e => by
  subst e
  have := cmpD_swap a a n
  omega
theorem rising_unique {n : Nat} {V W : List (List Bool)} (h1 : Rising n V) (h2 : Rising n W) (hm : ∀ s, s ∈ V ↔ s ∈ W) : V = W := by
  refine List.Perm.eq_of_pairwise (le := fun a b => cmpD a b n < 0) (fun a b _ _ e1 e2 => ?_) h1 h2 ((List.perm_ext_iff_of_nodup (rising_nodup h1) (rising_nodup h2)).2 hm)
  have := cmpD_swap a b n
  omega
theorem step_flat {n a b : Nat} : ¬ Step (List.replicate n []) a b := by
  rintro ⟨r, h1, h2⟩
  rw [List.getElem?_replicate] at h1
  split at h1
  · cases h1; cases h2
  · cases h1
theorem reach_flat {n a b : Nat} (h : Reach (List.replicate n []) a b) : a = b := by
  cases h with
  | refl => rfl
  | tail _ hs => exact absurd hs step_flat
theorem wf_flat {n : Nat} (h1 : 1 ≤ n) (h2 : n ≤ 512) : WF (List.replicate n []) (List.replicate n []) where
  pos := by simpa using h1
  max := by simpa using h2
  len := by simp
  inR := fun r hr b hb => by rw [(List.mem_replicate.1 hr).2] at hb; cases hb
  fine := fun l hl => by rw [(List.mem_replicate.1 hl).2]; rfl
  cond a b _ _ h hne := absurd (reach_flat h) hne
theorem small_flat {n : Nat} (h2 : n ≤ 512) : Small (List.replicate n []) (List.replicate n []) :=
  ⟨by simp; omega, by simp; omega, fun r hr => by rw [(List.mem_replicate.1 hr).2]; simp, fun l hl => by rw [(List.mem_replicate.1 hl).2]; exact ⟨⟨by simp, by simp⟩, by simp⟩⟩
theorem closed_flat {n : Nat} {l : List Bool} (hl : l.length = n) : ClosedU (List.replicate n []) l := ⟨by simpa using hl, fun a b _ _ hab h => by rw [← reach_flat (rb_iff.1 hab)]; exact h⟩
theorem many_flat {V : List (List Bool)} (h : IsUps (List.replicate 7 []) V) : ¬ V.length ≤ 64 := fun hl => by
  have := List.Nodup.length_le_of_subset (allB_nodup 7) (fun s hs => (h.mem s).2 (closed_flat (allB_len 7 s hs)))
  rw [allB_size] at this
  omega
theorem all2_rep {α : Type} {R : AVal → α → Prop} {v : AVal} {x : α} (h : R v x) : ∀ n, All2 R (List.replicate n v) (List.replicate n x)
  | 0 => .nil
  | n + 1 => .cons h (all2_rep h n)
theorem upsFlat_ok (hk : K (.tuple [.agg [.nilsl], .nilsl, .int .i64 231]) h) : ACalls prog 6 [.agg [.lsl 1 (List.replicate 7 .nilsl), .lsl 1 (List.replicate 7 .nilsl)]] h K :=
  upsP_ok (up := List.replicate 7 []) (val := List.replicate 7 []) (small_flat (by decide)) ⟨_, .lsl _ _, all2_rep (.nil 1) 7⟩ ⟨_, .lsl _ _, all2_rep (.nil 1) 7⟩ (fun hb => absurd (wf_flat (by decide) (by decide)) hb) (fun _ _ => hk) fun _ V hV hl => absurd hl (many_flat hV)
/- ---------------- a model of two worlds ---------------- -/
def up2 : List (List Int) := [[1], []]
theorem step2 {a b : Nat} : Step up2 a b ↔ a = 0 ∧ b = 1 := by
  unfold Step up2
  constructor
  · rintro ⟨r, h1, h2⟩
    match a, h1 with
    | 0, h1 => cases h1; simp at h2; omega
    | 1, h1 => cases h1; cases h2
    | a + 2, h1 => simp at h1
  · rintro ⟨rfl, rfl⟩
    exact ⟨_, rfl, by simp⟩
theorem reach2 {a b : Nat} : Reach up2 a b ↔ a = b ∨ a = 0 ∧ b = 1 := by
  constructor
  · intro h
    induction h with
    | refl => exact .inl rfl
    | tail _ hs ih =>
      obtain ⟨rfl, rfl⟩ := step2.1 hs
      rcases ih with rfl | ⟨_, h⟩
      · exact .inr ⟨rfl, rfl⟩
      · cases h
  · rintro (rfl | ⟨rfl, rfl⟩)
    · exact .refl
    · exact .tail .refl (step2.2 ⟨rfl, rfl⟩)
theorem wf2 : WF up2 [[], []] where
  pos := by decide
  max := by decide
  len := rfl
  inR := fun r hr b hb => by
    simp [up2] at hr
    rcases hr with rfl | rfl
    · simp at hb; subst hb; decide
    · cases hb
  fine := fun l hl => by
    simp at hl
    subst hl; rfl
  cond a b ha hb h hne := by
    rcases reach2.1 h with e | ⟨rfl, rfl⟩
    · exact absurd e hne
    · refine ⟨fun h' => ?_, fun s hs => by cases hs⟩
      rcases reach2.1 h' with e | ⟨e, _⟩ <;> cases e
def E2 : List (List Bool) := [[false, false], [false, true], [true, true]]
theorem ups2 {V : List (List Bool)} (h : IsUps up2 V) : V = E2 := by
  refine rising_unique h.rise (by unfold Rising E2; decide) fun s => ?_
  rw [h.mem]
  constructor
  · intro C
    have hl : s.length = 2 := C.len
    match s, hl with
    | [a, b], _ =>
      have := C.cl 0 1 (by decide) (by decide) (rb_iff.2 (reach2.2 (.inr ⟨rfl, rfl⟩)))
      cases a <;> cases b <;> simp [E2] at this ⊢
  · intro hs
    refine ⟨?_, fun a b ha hb hab h => ?_⟩
    · simp [E2] at hs
      rcases hs with rfl | rfl | rfl <;> rfl
    · rcases reach2.1 (rb_iff.1 hab) with rfl | ⟨rfl, rfl⟩
      · exact h
      · simp [E2] at hs
        rcases hs with rfl | rfl | rfl
        · cases h
        · rfl
        · rfl
theorem ups2_ok (hk : ∀ a u, Intss u [[], [1], [0, 1]] → K (.tuple [.agg [a], u, .int .i64 0]) h) : ACalls prog 6 [.agg [.lsl 1 [.lsl 1 [.int .i64 1], .nilsl], .lsl 1 [.nilsl, .nilsl]]] h K := by
  refine upsP_ok (up := up2) (val := [[], []]) ⟨by decide, by decide, fun r hr => ?_, fun l hl => ?_⟩ ⟨_, .lsl _ _, .cons (.inl rfl) (.cons (.nil 1) .nil)⟩ ⟨_, .lsl _ _, .cons (.nil 1) (.cons (.nil 1) .nil)⟩ (fun hb => absurd wf2 hb) (fun _ hm => ?_) fun _ V hV _ a u _ hu => ?_
  · simp [up2] at hr
    rcases hr with rfl | rfl <;> simp
  · simp at hl
    subst hl
    exact ⟨⟨by simp, by simp⟩, by simp⟩
  · obtain ⟨V, h1, h2, h3⟩ := hm
    have := List.Nodup.length_le_of_subset h1 (l₂ := allB 2) fun s hs => by
      have hl : s.length = 2 := (h3 s hs).len
      match s, hl with
      | [a, b], _ => cases a <;> cases b <;> simp [allB]
    rw [h2, allB_size] at this
    omega
  · rw [ups2 hV] at hu
    exact hk a u hu
/- ---------------- chains ---------------- -/
theorem chain3_ok (good : ∀ a, AlgV a (chainL 3) → K (.tuple [.agg [a], .int .i64 0]) h) : ACalls prog 15 [.int .i64 3] h K := chainP_ok (n := 3) (by decide) (by decide) fun a ha => good a ⟨ha, by decide, by decide⟩
theorem chain2_ok (good : ∀ a, AlgV a (chainL 2) → K (.tuple [.agg [a], .int .i64 0]) h) : ACalls prog 15 [.int .i64 2] h K := chainP_ok (n := 2) (by decide) (by decide) fun a ha => good a ⟨ha, by decide, by decide⟩
theorem alg3 : algP (chainL 3) = true := by kernel_rfl
theorem alg2 : algP (chainL 2) = true := by kernel_rfl
theorem two10 : two (chainL 3) (im (chainL 3).length (at2 (chainL 3))) 1 0 = .tuple [.int .i64 0, .int .i64 0] := by kernel_rfl
theorem two01 : two (chainL 3) (im (chainL 3).length (at2 (chainL 3))) 0 1 = .tuple [.int .i64 2, .int .i64 0] := by kernel_rfl
theorem bool3 : boolP (chainL 3).length (at2 (chainL 3)) = false := by kernel_rfl
theorem bool2 : boolP (chainL 2).length (at2 (chainL 2)) = true := by kernel_rfl
theorem primes3 : primesL (chainL 3).length (at2 (chainL 3)) = [1, 2] := by kernel_rfl
theorem notAlg : lookE [[true, true, true], [false, true, false], [false, false, true]] [] = 230 := by kernel_rfl
theorem tidy3 : ∃ row, tidyUp (pUp (chainL 3).length (at2 (chainL 3))) = [row, [0]] := by
  have hl : (pUp (chainL 3).length (at2 (chainL 3))).length = 2 := by rw [pUp_len, primes3]; rfl
  have A := lat_of alg3
  have hp : (primesL (chainL 3).length (at2 (chainL 3))).length = 2 := by rw [primes3]; rfl
  have hr : ∀ a b, a < 2 → b < 2 → (rb (pUp (chainL 3).length (at2 (chainL 3))) a b = true ↔ b ≤ a) := fun a b ha hb => by
    rw [rb_iff, pReach A (by rw [hp]; exact ha), hp, primes3]
    match a, b, ha, hb with
    | 0, 0, _, _ => simp; decide
    | 0, 1, _, _ => simp; decide
    | 1, 0, _, _ => simp; decide
    | 1, 1, _, _ => simp; decide
  refine ⟨natI (tidyRow (pUp (chainL 3).length (at2 (chainL 3))) 0), ?_⟩
  unfold tidyUp
  rw [hl]
  show [_, natI (tidyRow _ 1)] = _
  have : tidyRow (pUp (chainL 3).length (at2 (chainL 3))) 1 = [0] := by
    unfold tidyRow
    rw [hl]
    have e10 : rb (pUp (chainL 3).length (at2 (chainL 3))) 1 0 = true := (hr 1 0 (by decide) (by decide)).2 (by decide)
    have c0 : coverB (pUp (chainL 3).length (at2 (chainL 3))) 1 0 = true := by
      unfold coverB startB
      rw [hl, e10]
      simp [okc, List.range_succ]
    have c1 : coverB (pUp (chainL 3).length (at2 (chainL 3))) 1 1 = false := by
      unfold coverB startB
      simp
    show ([0, 1] : List Nat).filter _ = _
    rw [List.filter_cons_of_pos c0, List.filter_cons_of_neg (by simp [c1])]
    rfl
  rw [this]
  rfl
/- ---------------- the tail of the heads ---------------- -/
def headTail (Ψ : AVal → Heap → Prop) (r r3 : Nat) (u : AVal) (hh : Heap) : Prop :=
  st false hh (.ptr r3 0 0) [.nilsl] fun h_18 =>
  ldN 1 h_18 (.ptr r 0 0) fun l_42 =>
  tCons l_42 fun v49 l_43 =>
  tNil l_43 (
  callG prog 13 [(.agg [v49])] h_18 fun v50 h_19 =>
  tTup v50 fun l_44 =>
  tCons l_44 fun v51 l_45 =>
  tCons l_45 fun v52 l_46 =>
  tCons l_46 fun v53 l_47 =>
  tInt .i64 v53 fun v54 =>
  tNil l_47 (
  tAgg v51 fun l_48 =>
  tCons l_48 fun v55 l_49 =>
  tCons l_49 fun v56 l_50 =>
  tNil l_50 (
  Sym.newRow 2 [(.agg [.nilsl, .nilsl])] h_19 fun r4 h_20 =>
  st false h_20 (.ptr r4 0 0) [v55, v56] fun h_21 =>
  ifT ((0 : Int) == 0) (
  ifT ((0 : Int) == 0) (
  ifT ((0 : Int) == 0) (
  ifT ((0 : Int) == 0) (
  ifT ((0 : Int) == 0) (
  ifT ((0 : Int) == 0) (
  ifT ((0 : Int) == 0) (
  ifT ((2 : Int) == 2) (
  ifT (!false) (
  ifT true (
  ifT ((0 : Int) == 0) (
  lenN u fun n =>
  ifT (n == 3) (
  ixS 1 u 1 fun p =>
  ld1 h_21 p fun v57 =>
  callG prog 18 [v57, (.lsl 1 [(.int .i64 1)])] h_21 fun v58 h_22 =>
  tBool v58 fun v59 =>
  ifT v59 (
  ifT ((231 : Int) == 231) (
  ifT (v54 == 0) (
  callG prog 18 [v52, (.lsl 1 [(.int .i64 1), (.int .i64 2)])] h_22 fun v60 h_23 =>
  tBool v60 fun v61 =>
  ifT v61 (
  ld1 h_23 (.ptr r4 0 0) fun v62 =>
  lenN v62 fun n1 =>
  ifT (n1 == 2) (
  ld1 h_23 (.ptr r4 0 0) fun v63 =>
  ixS 1 v63 1 fun p1 =>
  ld1 h_23 p1 fun v64 =>
  callG prog 18 [v64, (.lsl 1 [(.int .i64 0)])] h_23 fun v65 h_24 =>
  tBool v65 fun v66 =>
  ifT v66 (
  callG prog 45 [(.agg [(.lsl 1 [(.lsl 1 [(.bool true), (.bool true), (.bool true)]), (.lsl 1 [(.bool false), (.bool true), (.bool false)]), (.lsl 1 [(.bool false), (.bool false), (.bool true)])])])] h_24 fun v67 h_25 =>
  tInt .i64 v67 fun v68 =>
  retG (.bool (v68 == 230)) h_25 Ψ) (
  retG (.bool false) h_24 Ψ)) (
  retG (.bool false) h_23 Ψ)) (
  retG (.bool false) h_23 Ψ)) (
  retG (.bool false) h_22 Ψ)) (
  retG (.bool false) h_22 Ψ)) (
  retG (.bool false) h_22 Ψ)) (
  retG (.bool false) h_21 Ψ)) (
  retG (.bool false) h_21 Ψ)) (
  retG (.bool false) h_21 Ψ)) (
  retG (.bool false) h_21 Ψ)) (
  retG (.bool false) h_21 Ψ)) (
  retG (.bool false) h_21 Ψ)) (
  retG (.bool false) h_21 Ψ)) (
  retG (.bool false) h_21 Ψ)) (
  retG (.bool false) h_21 Ψ)) (
  retG (.bool false) h_21 Ψ)) (
  retG (.bool false) h_21 Ψ)) (
  retG (.bool false) h_21 Ψ))))
theorem headTail_ok {r r3 : Nat} {a u X : AVal} {os : List Ow} {hh : Heap} (A : AlgV a (chainL 3)) (hu : Intss u [[], [1], [0, 1]]) (W : Own h0 ([.cell r3 (.row 1 [.agg [X]]), .cell r (.row 1 [.agg [a]])] ++ os) hh) (hk : K (.bool true) h0) : headTail K r r3 u hh := by
  unfold headTail
  refine st_all (W.get 0 _ r3 rfl rfl) rfl ?_
  have W2 := W.put (i := 0) rfl (.row 1 [.agg [.nilsl]])
  generalize Heap.set hh r3 _ = h1 at W2 ⊢
  rw [ldN_fld (n := 1) (W2.get 1 _ r rfl rfl) rfl, tCons_cons, tNil_nil]
  obtain ⟨row, ht⟩ := tidy3
  refine callG_of (primesP_ok A (fun e => by rw [alg3] at e; cases e) (fun _ e => by rw [primes3] at e; cases e) fun _ _ vU vV ev hU hV he => ?_)
  rw [ht] at hU
  rw [primes3] at he
  rw [tTup_tuple, tCons_cons, tCons_cons, tCons_cons, tInt_int, tNil_nil, tAgg_agg, tCons_cons, tCons_cons, tNil_nil]
  refine newRow_in fun r4 hr4 => st_all (Heap.set_same _ _ _) rfl ?_
  rw [Heap.set_set]
  have hq := Heap.set_same h1 r4 (.row 2 [.agg [vU, vV]])
  have old : ∀ q o, h0 q = some o → (h1.set r4 (.row 2 [.agg [vU, vV]])) q = some o := fun q o e => Heap.set_sub hr4 q o (W2.old q o e)
  generalize Heap.set h1 r4 _ = h2 at hq old ⊢
  refine ifT_pos rfl (ifT_pos rfl (ifT_pos rfl (ifT_pos rfl (ifT_pos rfl (ifT_pos rfl (ifT_pos rfl (ifT_pos rfl (ifT_pos rfl (ifT_pos rfl (ifT_pos rfl ?_))))))))))
  rw [hu.len]
  refine ifT_pos rfl ?_
  obtain ⟨e1, he1, hix1⟩ := hu.ix (i := 1) (by decide)
  rw [show (1 : Int) = ((1 : Nat) : Int) from rfl, hix1, ld1_lptr]
  refine callG_of (ints_ok (la := [1]) (lb := [1]) he1 (.inl rfl) (by decide) ?_)
  rw [tBool_bool]
  refine ifT_pos rfl (ifT_pos rfl (ifT_pos rfl (callG_of (ints_ok (la := [1, 2]) (lb := [1, 2]) he (.inl rfl) (by decide) ?_))))
  rw [tBool_bool]
  refine ifT_pos rfl ?_
  rw [ld1_fld hq rfl, hU.len]
  refine ifT_pos rfl ?_
  rw [ld1_fld hq rfl]
  obtain ⟨e2, he2, hix2⟩ := hU.ix (i := 1) (by simp)
  rw [show ((1 : Nat) : Int) = (1 : Int) from rfl] at hix2 ⊢
  rw [hix2, ld1_lptr]
  refine callG_of (ints_ok (la := [0]) (lb := [0]) he2 (.inl rfl) (by decide) ?_)
  rw [tBool_bool]
  refine ifT_pos rfl (callG_of (checkH_ok (L := [[true, true, true], [false, true, false], [false, false, true]]) ⟨⟨_, .lsl _ _, .cons (.inl rfl) (.cons (.inl rfl) (.cons (.inl rfl) .nil))⟩, by decide, by decide⟩ ?_))
  rw [tInt_int, notAlg]
  exact retG_drop old hk
theorem heads_ok23 : Heads23 := by
  intro h K hk
  refine s19_ok ?_
  unfold s19
  refine callG_of (chain3_ok fun a A => ?_)
  rw [tTup_tuple, tCons_cons, tCons_cons, tInt_int, tNil_nil, tAgg_agg, tCons_cons, tNil_nil]
  refine newRow_in fun r hr => st_all (Heap.set_same _ _ _) rfl ?_
  have W1 := ((Own.start h).newC hr (.row 1 [.agg [.nilsl]])).put (i := 0) rfl (.row 1 [.agg [a]])
  generalize Heap.set (Heap.set h r _) r _ = h1 at W1 ⊢
  refine callG_of (chain2_ok fun b B => ?_)
  rw [tTup_tuple, tCons_cons, tCons_cons, tInt_int, tNil_nil, tAgg_agg, tCons_cons, tNil_nil]
  refine newRow_in fun r1 hr1 => st_all (Heap.set_same _ _ _) rfl ?_
  have W2 := (W1.newC hr1 (.row 1 [.agg [.nilsl]])).put (i := 1) rfl (.row 1 [.agg [b]])
  generalize Heap.set (Heap.set h1 r1 _) r1 _ = h2 at W2 ⊢
  rw [ldN1 (W2.get 0 _ r rfl rfl), tCons_cons, tNil_nil]
  refine callG_of (impP_ok A ?_)
  rw [two10, tTup_tuple, tCons_cons, tInt_int, tCons_cons, tInt_int, tNil_nil, ldN1 (W2.get 0 _ r rfl rfl), tCons_cons, tNil_nil]
  refine callG_of (impP_ok A ?_)
  rw [two01, tTup_tuple, tCons_cons, tInt_int, tCons_cons, tInt_int, tNil_nil, ldN1 (W2.get 0 _ r rfl rfl), tCons_cons, tNil_nil]
  refine callG_of (booleanP_ok A (fun e => by rw [alg3] at e; cases e) fun _ => ?_)
  rw [bool3, tTup_tuple, tCons_cons, tBool_bool, tCons_cons, tInt_int, tNil_nil, ldN1 (W2.get 1 _ r1 rfl rfl), tCons_cons, tNil_nil]
  refine callG_of (booleanP_ok B (fun e => by rw [alg2] at e; cases e) fun _ => ?_)
  rw [bool2, tTup_tuple, tCons_cons, tBool_bool, tCons_cons, tInt_int, tNil_nil]
  refine callG_of (ups2_ok fun c u hu => ?_)
  rw [tTup_tuple, tCons_cons, tCons_cons, tCons_cons, tInt_int, tNil_nil, tAgg_agg, tCons_cons, tNil_nil]
  refine newRow_in fun r2 hr2 => st_all (Heap.set_same _ _ _) rfl ?_
  have W3 := (W2.newC hr2 (.row 1 [.agg [.nilsl]])).put (i := 2) rfl (.row 1 [.agg [c]])
  generalize Heap.set (Heap.set h2 r2 _) r2 _ = h3 at W3 ⊢
  have mk : ∀ (hh : Heap) (X : AVal → Heap → Prop), X (.lsl 1 (List.replicate 7 .nilsl)) hh → mkS true 1 24 .nilsl hh 7 7 X := fun hh X hx => ⟨⟨by decide, by decide, by decide, by decide⟩, hx⟩
  have W4 : Own h ([.cell r (.row 1 [.agg [a]])] ++ [.cell r1 (.row 1 [.agg [b]]), .cell r2 (.row 1 [.agg [c]])]) h3 := W3
  have tail : ∀ r3 : Nat, h3 r3 = none → headTail K r r3 u (h3.set r3 (.row 1 [.agg [.nilsl]])) := fun r3 hr3 => by
    have W5 := W4.newC hr3 (.row 1 [.agg [.nilsl]])
    refine headTail_ok (X := .nilsl) (os := [.cell r1 (.row 1 [.agg [b]]), .cell r2 (.row 1 [.agg [c]])]) A hu (W5.renum _ (fun j => if j = 0 then 3 else if j = 1 then 0 else if j = 2 then 1 else 2) (fun j y hj => by
      match j, hj with
      | 0, hj => exact hj
      | 1, hj => exact hj
      | 2, hj => exact hj
      | 3, hj => exact hj
      | j + 4, hj => simp at hj) (show ∀ j, j < 4 → ∀ k, k < 4 → _ = _ → j = k by decide)) hk
  have calls : ∀ (hh : Heap) (X : AVal → Heap → Prop), X (.tuple [.agg [.nilsl], .nilsl, .int .i64 231]) hh → callG prog 6 [(.agg [.lsl 1 (List.replicate 7 .nilsl), .lsl 1 (List.replicate 7 .nilsl)])] hh X := fun hh X hx => callG_of (upsFlat_ok hx)
  refine ⟨⟨⟨?_, ?_⟩, ?_⟩, ?_, ?_, ?_⟩
  · refine mk _ _ (mk _ _ (chk_iff.2 ⟨rfl, chk_iff.2 ⟨rfl, _, calls _ _ ⟨rfl, rfl⟩, ?_⟩⟩))
    rw [tTup_tuple, tCons_cons, tCons_cons, tCons_cons, tInt_int, tNil_nil, tAgg_agg, tCons_cons, tNil_nil]
    exact newRow_in fun r3 hr3 => ⟨calls _ _ ⟨rfl, rfl⟩, tail r3 hr3⟩
  · refine mk _ _ (newRow_in fun r3 hr3 => mk _ _ (chk_iff.2 ⟨rfl, chk_iff.2 ⟨rfl, _, calls _ _ ⟨rfl, rfl⟩, ?_⟩⟩))
    rw [tTup_tuple, tCons_cons, tCons_cons, tCons_cons, tInt_int, tNil_nil, tAgg_agg, tCons_cons, tNil_nil]
    exact tail r3 hr3
  · refine newRow_in fun r3 hr3 => mk _ _ (mk _ _ (chk_iff.2 ⟨rfl, chk_iff.2 ⟨rfl, _, calls _ _ ⟨rfl, rfl⟩, ?_⟩⟩))
    rw [tTup_tuple, tCons_cons, tCons_cons, tCons_cons, tInt_int, tNil_nil, tAgg_agg, tCons_cons, tNil_nil]
    exact tail r3 hr3
  · refine mk _ _ (mk _ _ (chk_iff.2 ⟨rfl, chk_iff.2 ⟨rfl, _, calls _ _ ⟨rfl, rfl⟩, ?_⟩⟩))
    rw [tTup_tuple, tCons_cons, tCons_cons, tCons_cons, tInt_int, tNil_nil, tAgg_agg, tCons_cons, tNil_nil]
    exact newRow_in fun r3 hr3 => ⟨calls _ _ ⟨rfl, rfl⟩, tail r3 hr3⟩
  · refine mk _ _ (newRow_in fun r3 hr3 => mk _ _ (chk_iff.2 ⟨rfl, chk_iff.2 ⟨rfl, _, calls _ _ ⟨rfl, rfl⟩, ?_⟩⟩))
    rw [tTup_tuple, tCons_cons, tCons_cons, tCons_cons, tInt_int, tNil_nil, tAgg_agg, tCons_cons, tNil_nil]
    exact tail r3 hr3
  · refine newRow_in fun r3 hr3 => mk _ _ (mk _ _ (chk_iff.2 ⟨rfl, chk_iff.2 ⟨rfl, _, calls _ _ ⟨rfl, rfl⟩, ?_⟩⟩))
    rw [tTup_tuple, tCons_cons, tCons_cons, tCons_cons, tInt_int, tNil_nil, tAgg_agg, tCons_cons, tNil_nil]
    exact tail r3 hr3
end Go.Proofs.YtljglglbfcgjpaaGreat

namespace Go.Proofs.YtljglglbfcgjpaaGreat
open Go Go.Sym Go.Proofs.Tryz
variable {up : List (List Int)} {val : List (List ByteArray)} {V : List (List Bool)}
def vget (V : List (List Bool)) (i w : Nat) : Bool := (V.getD i []).getD w false
def mkB (N : Nat) (p : Nat → Bool) : List Bool := (List.range N).map p
theorem mkB_len {N : Nat} {p : Nat → Bool} : (mkB N p).length = N := by simp [mkB]
theorem mkB_get {N w : Nat} {p : Nat → Bool} (hw : w < N) : (mkB N p).getD w false = p w := by
  unfold mkB
  rw [List.getD_eq_getElem?_getD, List.getElem?_map, List.getElem?_range hw]
  rfl
section
variable (hV : IsUps up V)
include hV
theorem ups_cl {i : Nat} (hi : i < V.length) : ClosedU up (V.getD i []) := by
  rw [show V.getD i [] = V[i] by simp [List.getD, hi]]
  exact (hV.mem _).1 (List.getElem_mem hi)
theorem ups_inj {i j : Nat} (hi : i < V.length) (hj : j < V.length) (h : ∀ w, w < up.length → vget V i w = vget V j w) : i = j := by
  have h1 := ups_cl hV hi
  have h2 := ups_cl hV hj
  have e : V.getD i [] = V.getD j [] := ext_getD (by rw [h1.len, h2.len]) fun w hw => h w (by rw [← h1.len]; exact hw)
  rw [show V.getD i [] = V[i] by simp [List.getD, hi], show V.getD j [] = V[j] by simp [List.getD, hj]] at e
  rcases Nat.lt_trichotomy i j with h3 | h3 | h3
  · exact absurd e (rise_ne hV.rise hj hi h3)
  · exact h3
  · exact absurd e.symm (rise_ne hV.rise hi hj h3)
theorem ups_ix {s : List Bool} (C : ClosedU up s) : V.idxOf s < V.length ∧ V.getD (V.idxOf s) [] = s := by
  have hm := (hV.mem s).2 C
  have hi := List.idxOf_lt_length_of_mem hm
  refine ⟨hi, ?_⟩
  rw [show V.getD (V.idxOf s) [] = V[V.idxOf s] by simp [List.getD, hi]]
  exact List.getElem_idxOf hi
theorem ups_le {i j : Nat} (hi : i < V.length) (hj : j < V.length) : at2 (leqT V) i j = true ↔ ∀ w, w < up.length → vget V i w = true → vget V j w = true := by
  have h1 := ups_cl hV hi
  have h2 := ups_cl hV hj
  rw [at2_leqT hi hj]
  unfold vget
  rw [show V.getD i [] = V[i] by simp [List.getD, hi]] at h1 ⊢
  rw [show V.getD j [] = V[j] by simp [List.getD, hj]] at h2 ⊢
  exact subB_iff h1.len h2.len
theorem ups_po : PO V.length (at2 (leqT V)) where
  refl x hx := (ups_le hV hx hx).2 fun _ _ h => h
  anti x y hx hy a b := ups_inj hV hx hy fun w hw => by
    rw [Bool.eq_iff_iff]
    exact ⟨(ups_le hV hx hy).1 a w hw, (ups_le hV hy hx).1 b w hw⟩
  trans x y z hx hy hz a b := (ups_le hV hx hz).2 fun w hw h => (ups_le hV hy hz).1 b w hw ((ups_le hV hx hy).1 a w hw h)
theorem ups_up {i a b : Nat} (hi : i < V.length) (ha : a < up.length) (hb : b < up.length) (hr : rb up a b = true) (h : vget V i a = true) : vget V i b = true := (ups_cl hV hi).cl a b ha hb hr h
theorem meet_is {i j : Nat} (hi : i < V.length) (hj : j < V.length) : ∃ g, meetO V.length (at2 (leqT V)) i j = some g ∧ g < V.length ∧ ∀ w, w < up.length → vget V g w = (vget V i w && vget V j w) := by
  have C : ClosedU up (mkB up.length fun w => vget V i w && vget V j w) := ⟨mkB_len, fun a b ha hb hr h => by
    rw [mkB_get ha, Bool.and_eq_true] at h
    rw [mkB_get hb, ups_up hV hi ha hb hr h.1, ups_up hV hj ha hb hr h.2]
    rfl⟩
  obtain ⟨h1, h2⟩ := ups_ix hV C
  have get : ∀ w, w < up.length → vget V (V.idxOf (mkB up.length fun w => vget V i w && vget V j w)) w = (vget V i w && vget V j w) := fun w hw => by
    show (V.getD _ []).getD w false = _
    rw [h2, mkB_get hw]
  refine ⟨_, bestP_is (ups_po hV) h1 ?_ (fun z hz hp => ?_), h1, get⟩
  · rw [Bool.and_eq_true, ups_le hV h1 hi, ups_le hV h1 hj]
    refine ⟨fun w hw h => ?_, fun w hw h => ?_⟩
    · rw [get w hw, Bool.and_eq_true] at h; exact h.1
    · rw [get w hw, Bool.and_eq_true] at h; exact h.2
  · rw [Bool.and_eq_true, ups_le hV hz hi, ups_le hV hz hj] at hp
    exact (ups_le hV hz h1).2 fun w hw h => by rw [get w hw, hp.1 w hw h, hp.2 w hw h]; rfl
theorem join_is {i j : Nat} (hi : i < V.length) (hj : j < V.length) : ∃ g, joinO V.length (at2 (leqT V)) i j = some g ∧ g < V.length ∧ ∀ w, w < up.length → vget V g w = (vget V i w || vget V j w) := by
  have C : ClosedU up (mkB up.length fun w => vget V i w || vget V j w) := ⟨mkB_len, fun a b ha hb hr h => by
    rw [mkB_get ha, Bool.or_eq_true] at h
    rw [mkB_get hb, Bool.or_eq_true]
    exact h.imp (ups_up hV hi ha hb hr) (ups_up hV hj ha hb hr)⟩
  obtain ⟨h1, h2⟩ := ups_ix hV C
  have get : ∀ w, w < up.length → vget V (V.idxOf (mkB up.length fun w => vget V i w || vget V j w)) w = (vget V i w || vget V j w) := fun w hw => by
    show (V.getD _ []).getD w false = _
    rw [h2, mkB_get hw]
  refine ⟨_, bestP_is (ups_po hV).flip h1 ?_ (fun z hz hp => ?_), h1, get⟩
  · rw [Bool.and_eq_true, ups_le hV hi h1, ups_le hV hj h1]
    refine ⟨fun w hw h => ?_, fun w hw h => ?_⟩
    · rw [get w hw, h]; rfl
    · rw [get w hw, h, Bool.or_true]
  · rw [Bool.and_eq_true, ups_le hV hi hz, ups_le hV hj hz] at hp
    exact (ups_le hV h1 hz).2 fun w hw h => by
      rw [get w hw, Bool.or_eq_true] at h
      exact h.elim (hp.1 w hw) (hp.2 w hw)
theorem mt_get {i j w : Nat} (hi : i < V.length) (hj : j < V.length) (hw : w < up.length) : vget V (mt V.length (at2 (leqT V)) i j) w = (vget V i w && vget V j w) := by
  obtain ⟨g, h1, _, h3⟩ := meet_is hV hi hj
  unfold mt
  rw [h1]
  exact h3 w hw
theorem jn_get {i j w : Nat} (hi : i < V.length) (hj : j < V.length) (hw : w < up.length) : vget V (jn V.length (at2 (leqT V)) i j) w = (vget V i w || vget V j w) := by
  obtain ⟨g, h1, _, h3⟩ := join_is hV hi hj
  unfold jn
  rw [h1]
  exact h3 w hw
theorem low_get (h0 : 1 ≤ V.length) {w : Nat} (hw : w < up.length) : vget V (lowP V.length (at2 (leqT V))) w = false := by
  have _ := h0
  obtain ⟨h1, h2⟩ := ups_ix hV (closed_none (up := up))
  have get : ∀ w, vget V (V.idxOf (List.replicate up.length false)) w = false := fun w => by
    show (V.getD _ []).getD w false = _
    rw [h2, getD_rep]
  have e : bestP V.length (fun _ => true) (fun z w => at2 (leqT V) z w) = some (V.idxOf (List.replicate up.length false)) :=
    bestP_is (ups_po hV).flip h1 rfl fun z hz _ => (ups_le hV h1 hz).2 fun w hw h => by rw [get w] at h; cases h
  unfold lowP
  rw [e]
  exact get w
theorem im_get {i j w : Nat} (hi : i < V.length) (hj : j < V.length) (hw : w < up.length) : vget V (im V.length (at2 (leqT V)) i j) w = (List.range up.length).all fun v => !rb up w v || !vget V i v || vget V j v := by
  have C : ClosedU up (mkB up.length fun w => (List.range up.length).all fun v => !rb up w v || !vget V i v || vget V j v) := ⟨mkB_len, fun a b ha hb hr h => by
    rw [mkB_get ha, List.all_eq_true] at h
    rw [mkB_get hb, List.all_eq_true]
    intro v hv
    have := h v hv
    cases e : rb up b v with
    | false => rfl
    | true => rw [rb_trans hr e] at this; exact this⟩
  obtain ⟨h1, h2⟩ := ups_ix hV C
  have get : ∀ w, w < up.length → vget V (V.idxOf (mkB up.length fun w => (List.range up.length).all fun v => !rb up w v || !vget V i v || vget V j v)) w = (List.range up.length).all fun v => !rb up w v || !vget V i v || vget V j v := fun w hw => by
    show (V.getD _ []).getD w false = _
    rw [h2, mkB_get hw]
  have hn : 1 ≤ V.length := by omega
  have e : imO V.length (at2 (leqT V)) i j = some (V.idxOf (mkB up.length fun w => (List.range up.length).all fun v => !rb up w v || !vget V i v || vget V j v)) := by
    refine bestP_is (ups_po hV) h1 ((ups_le hV (mt_lt hn _ _) hj).2 fun w hw h => ?_) fun z hz hp => (ups_le hV hz h1).2 fun w hw h => ?_
    · rw [mt_get hV h1 hi hw, Bool.and_eq_true, get w hw, List.all_eq_true] at h
      have := h.1 w (List.mem_range.2 hw)
      rw [rb_refl, h.2] at this
      simpa using this
    · rw [get w hw, List.all_eq_true]
      intro v hv
      have hv' := List.mem_range.1 hv
      cases e1 : rb up w v with
      | false => rfl
      | true =>
        cases e2 : vget V i v with
        | false => rfl
        | true =>
          have := (ups_le hV (mt_lt hn _ _) hj).1 hp v hv' (by rw [mt_get hV hz hi hv', ups_up hV hz hw hv' e1 h, e2]; rfl)
          rw [this]; rfl
  unfold im
  rw [e]
  exact get w hw
theorem ups_alg (h1 : 1 ≤ V.length) (h2 : V.length ≤ 64) : algP (leqT V) = true := by
  have hlen : (leqT V).length = V.length := by simp [leqT]
  unfold algP
  rw [hlen, decide_eq_true h1, decide_eq_true h2]
  have o : ordP V.length (at2 (leqT V)) = true := by
    have P := ups_po hV
    unfold ordP
    rw [List.all_eq_true]
    intro x hx
    have hx := List.mem_range.1 hx
    rw [P.refl x hx, Bool.true_and, List.all_eq_true]
    intro y hy
    have hy := List.mem_range.1 hy
    rw [Bool.and_eq_true, List.all_eq_true]
    refine ⟨?_, fun z hz => ?_⟩
    · cases e1 : at2 (leqT V) x y with
      | false => simp
      | true =>
        cases e2 : at2 (leqT V) y x with
        | false => simp
        | true => simp [P.anti x y hx hy e1 e2]
    · have hz := List.mem_range.1 hz
      cases e1 : at2 (leqT V) x y with
      | false => simp
      | true =>
        cases e2 : at2 (leqT V) y z with
        | false => simp
        | true => simp [P.trans x y z hx hy hz e1 e2]
  have s : ((leqT V).all fun row => row.length == V.length) = true := by
    rw [List.all_eq_true]
    intro row hr
    unfold leqT at hr
    obtain ⟨x, _, rfl⟩ := List.mem_map.1 hr
    simp
  have t : tabsP V.length (at2 (leqT V)) = true := by
    unfold tabsP
    rw [List.all_eq_true]
    intro x hx
    rw [List.all_eq_true]
    intro y hy
    obtain ⟨a, ha, _⟩ := meet_is hV (List.mem_range.1 hx) (List.mem_range.1 hy)
    obtain ⟨b, hb, _⟩ := join_is hV (List.mem_range.1 hx) (List.mem_range.1 hy)
    unfold tabB
    rw [ha, hb]
    rfl
  have d : distP V.length (at2 (leqT V)) = true := by
    unfold distP
    rw [List.all_eq_true]
    intro x hx
    rw [List.all_eq_true]
    intro y hy
    rw [List.all_eq_true]
    intro z hz
    have hx := List.mem_range.1 hx
    have hy := List.mem_range.1 hy
    have hz := List.mem_range.1 hz
    unfold distB
    rw [beq_iff_eq]
    refine ups_inj hV (mt_lt h1 _ _) (jn_lt h1 _ _) fun w hw => ?_
    rw [mt_get hV hx (jn_lt h1 _ _) hw, jn_get hV hy hz hw, jn_get hV (mt_lt h1 _ _) (mt_lt h1 _ _) hw, mt_get hV hx hy hw, mt_get hV hx hz hw]
    cases vget V x w <;> rfl
  rw [o, s, t, d]
  rfl
theorem ups_pos : 1 ≤ V.length := by
  have := (ups_ix hV (closed_none (up := up))).1
  omega
theorem ups_one {V' : List (List Bool)} (hV' : IsUps up V') : V = V' := by
  have hp : V.Perm V' := (List.perm_ext_iff_of_nodup (rising_nodup hV.rise) (rising_nodup hV'.rise)).2 fun l => by rw [hV.mem, hV'.mem]
  refine hp.eq_of_pairwise (fun a b _ _ h1 h2 => ?_) hV.rise hV'.rise
  have := cmpD_swap a b up.length
  omega
theorem ups_few (h : V.length ≤ 64) : ¬ Many up := fun ⟨W, h1, h2, h3⟩ => by
  have := List.Nodup.length_le_of_subset h1 (l₂ := V) fun s hs => (hV.mem s).2 (h3 s hs)
  omega
end
end Go.Proofs.YtljglglbfcgjpaaGreat

namespace Go.Proofs.YtljglglbfcgjpaaGreat
open Go Go.Sym Go.Proofs.Tryz
noncomputable def aboveL (up : List (List Int)) (a : Nat) : List Nat := (List.range up.length).filter (rb up a)
noncomputable def ordUp (up : List (List Int)) : List (List Int) := (List.range up.length).map fun a => natI (aboveL up a)
theorem Own.ne {hb h : Heap} {os : List Ow} (W : Own hb os h) {i j p q : Nat} {o o' : AObj} (hi : os[i]? = some (.cell p o)) (hj : os[j]? = some (.cell q o')) (hij : i ≠ j) : p ≠ q := fun e => by
  subst e
  exact hij (W.one i j _ _ p hi hj rfl rfl)
theorem st_one {h : Heap} {r es : Nat} {e c : AVal} {K : Heap → Prop} (hr : h r = some (.row es [e])) (ha : e.isAgg = false) (hk : K (h.set r (.row es [c]))) : st true h (.ptr r 0 0) [c] K := st_elem hr rfl ha hk
structure RT (up : List (List Int)) (a : Nat) (R : List AVal) : Prop where
  len : R.length = up.length
  done : ∀ a', a' < a → ∃ e, R[a']? = some e ∧ Ints e (natI (aboveL up a'))
  rest : ∀ a', a' < up.length → a ≤ a' → R[a']? = some .nilsl
section
variable {up : List (List Int)}
theorem mem_aboveL {a x : Nat} (hi : InR up) (ha : a < up.length) : x ∈ aboveL up a ↔ Reach up a x := by
  unfold aboveL
  rw [List.mem_filter, List.mem_range, rb_iff]
  exact ⟨fun h => h.2, fun h => ⟨h.lt hi ha, h⟩⟩
theorem ordUp_get {a : Nat} (ha : a < up.length) : (ordUp up)[a]'(by simpa [ordUp] using ha) = natI (aboveL up a) := by simp [ordUp]
theorem ordUp_len : (ordUp up).length = up.length := by simp [ordUp]
theorem above_len {a : Nat} : (aboveL up a).length ≤ up.length := by
  have := List.length_filter_le (rb up a) (List.range up.length)
  simpa [aboveL] using this
end
end Go.Proofs.YtljglglbfcgjpaaGreat

namespace Go.Proofs.YtljglglbfcgjpaaGreat
open Go Go.Sym Go.Proofs.Tryz
variable {K : AVal → Heap → Prop} {h0 hb h : Heap} {up : List (List Int)} {mU mV : AVal} {os : List Ow}
theorem Own.appQ (W : Own hb os h) {i es bytes r : Nat} {x : AVal} {pre q : List AVal} {X : AVal → Heap → Prop} (hi : os[i]? = some (.cell r (.row es (pre ++ q))))
    (h1 : q.length < 4611686018427387904) (h2 : (q.length + 1) * bytes ≤ 140737488355328) (hk : ∀ r' h', Own hb (os.set i (.cell r' (.row es (q ++ [x])))) h' → X (.sl r' es 0 (q.length + 1)) h') : appC es bytes h (.sl r es pre.length q.length) (.lsl es [x]) X := by
  have hr := W.get i _ r hi rfl
  have hx : elemsA es h (.lsl es [x]) = some [x] := by simp [elemsA]
  unfold appC
  rw [hx]
  simp only
  unfold app
  simp only [Nat.beq_refl, chk_true, hr, Ow.obj]
  refine ⟨⟨by simp only [List.length_singleton]; omega, by simpa using h2⟩, by simp, fun _ r' hr' _ => ?_, fun e => absurd (by simp) e⟩
  rw [List.drop_left]
  refine hk _ _ (W.change hi trivial (fun n e => .inr (by rw [show n = r' from e]; exact hr')) (fun n e => by rw [show n = r' from e, Heap.set_same]; rfl) (fun p o e hne => ?_))
  have hq : p ≠ r := hne
  rw [Heap.set_ne _ _ (fun e1 => by rw [e1, hr'] at e; cases e)]
  unfold Heap.del
  simpa [hq] using e
theorem slX_end1 {es r off len : Nat} {X : AVal → Prop} (hk : X (.sl r es (off + 1) len)) : slX es (.sl r es off (len + 1)) 1 none X := by
  show slA es (.sl r es off (len + 1)) 1 ((len + 1 : Nat) : Int) X
  rw [slA_eq]
  refine chk_iff.2 ⟨Nat.beq_refl _, ⟨by omega, by omega, Int.le_refl _⟩, ?_⟩
  simpa using hk
structure SQ (up : List (List Int)) (a : Nat) (V q : List Nat) : Prop where
  self : a ∈ V
  reach : ∀ x ∈ V, x < up.length ∧ Reach up a x
  sub : ∀ x ∈ q, x ∈ V
  closed : ∀ x ∈ V, x ∉ q → ∀ y, Step up x y → y ∈ V
theorem SQ.all {a : Nat} {V : List Nat} (S : SQ up a V []) (x : Nat) : x ∈ V ↔ Reach up a x := by
  refine ⟨fun hx => (S.reach x hx).2, fun h => ?_⟩
  induction h with
  | refl => exact S.self
  | tail _ hs ih => exact S.closed _ ih (by simp) _ hs
theorem SQ.add {a x b : Nat} {V q : List Nat} (S : SQ up a V q) (hi : InR up) (hx : x ∈ V) (hs : Step up x b) : SQ up a (V ++ [b]) (q ++ [b]) where
  self := List.mem_append_left _ S.self
  reach y hy := by
    rcases List.mem_append.1 hy with h | h
    · exact S.reach y h
    · rw [List.mem_singleton.1 h]
      have := (S.reach x hx)
      have hR := Reach.tail this.2 hs
      obtain ⟨r, hr, hb⟩ := hs
      have := hi r (List.mem_of_getElem? hr) _ hb
      exact ⟨by omega, hR⟩
  sub y hy := by
    rcases List.mem_append.1 hy with h | h
    · exact List.mem_append_left _ (S.sub y h)
    · exact List.mem_append_right _ h
  closed y hy hq z hz := by
    rcases List.mem_append.1 hy with h | h
    · exact List.mem_append_left _ (S.closed y h (fun e => hq (List.mem_append_left _ e)) z hz)
    · exact absurd (List.mem_append_right _ h) hq
theorem SQ.next {a x : Nat} {V q : List Nat} {row : List Int} (S : SQ up a V (x :: q)) (hr : up[x]? = some row) (hd : ∀ b ∈ row, b.toNat ∈ V) : SQ up a V q where
  self := S.self
  reach := S.reach
  sub y hy := S.sub y (List.mem_cons_of_mem _ hy)
  closed y hy hq z hz := by
    by_cases e : y = x
    · subst e
      obtain ⟨r, hr', hb⟩ := hz
      rw [hr] at hr'
      cases hr'
      have := hd _ hb
      simpa using this
    · exact S.closed y hy (fun h => by
        rcases List.mem_cons.1 h with h | h
        · exact e h
        · exact hq h) z hz
abbrev MQ (h0 : Heap) (ro : Nat) (R : List AVal) (rm : Nat) (V : List Nat) (rq : Nat) (pre : List AVal) (q : List Nat) (h : Heap) : Prop :=
  Own h0 [.cell ro (.row 1 R), .cell rm (.map (mapV V)), .cell rq (.row 1 (pre ++ natV q))] h
section
variable {ro rm a N : Nat} {R : List AVal} {out : AVal} {L1 : AVal → AVal → Int → Int → Heap → Prop} {L2 : AVal → AVal → Int → AVal → AVal → Int → Int → Heap → Prop}
theorem orderF_l3 (hn : up.length ≤ 512) (hi : InR up) {x : Nat} {row : List Int} {e : AVal} (he : Ints e row) (hrl : row.length ≤ 1048576) (hr : up[x]? = some row)
    (next : ∀ V q rq pre h', SQ up a V (x :: q) → (∀ b ∈ row, b.toNat ∈ V) → outN up.length V + q.length ≤ N → MQ h0 ro R rm V rq pre (x :: q) h' → L2 (.lptr [mU, mV]) out (a : Int) (.mapr rm) (.sl rq 1 (pre.length + 1) q.length) (up.length : Int) (a : Int) h') :
    ∀ d j : Nat, j + d = row.length → ∀ V q rq pre h, SQ up a V (x :: q) → (∀ i b, i < j → row[i]? = some b → b.toNat ∈ V) → outN up.length V + q.length ≤ N → N ≤ 1024 → MQ h0 ro R rm V rq pre (x :: q) h →
      s98l3 K L1 L2 (d + 1) (.lptr [mU, mV]) out (a : Int) (.mapr rm) (.sl rq 1 pre.length (q.length + 1)) (up.length : Int) (a : Int) e (row.length : Int) (j : Int) h
  | 0, j, hd, V, q, rq, pre, h, S, D, hm, hN, M => by
    unfold s98l3
    obtain rfl : j = row.length := by omega
    refine ifT_neg (by simp) ?_
    refine slX_end1 ?_
    refine next V q rq pre h S (fun b hb => ?_) hm M
    obtain ⟨i, hi, e⟩ := List.mem_iff_getElem.1 hb
    exact D i b hi (by rw [List.getElem?_eq_getElem hi, e])
  | d + 1, j, hd, V, q, rq, pre, h, S, D, hm, hN, M => by
    have hj : j < row.length := by omega
    have hb := hi _ (List.mem_of_getElem? hr) _ (List.getElem_mem hj)
    unfold s98l3
    refine ifT_pos (decide_eq_true (by omega)) ?_
    rw [he.ix hj, ld1_lptr, tInt_int]
    have hcast : row[j] = ((row[j].toNat : Nat) : Int) := by omega
    rw [hcast]
    have hs : Step up x row[j].toNat := ⟨row, hr, by rw [← hcast]; exact List.getElem_mem hj⟩
    by_cases hin : row[j].toNat ∈ V
    · refine mapGet_in (M.get 1 _ rm rfl rfl) hin ?_
      rw [tInt_int]
      refine ifT_neg rfl (rg_of (by omega) (by omega) (s98l3_go ?_))
      refine orderF_l3 hn hi he hrl hr next d (j + 1) (by omega) V q rq pre h S (fun i b hi hb' => ?_) hm hN M
      by_cases e1 : i = j
      · subst e1
        rw [List.getElem?_eq_getElem hj] at hb'
        cases hb'
        exact hin
      · exact D i b (by omega) hb'
    · refine mapGet_out (M.get 1 _ rm rfl rfl) hin ?_
      rw [tInt_int]
      refine ifT_pos rfl ?_
      refine mapGet_out (M.get 1 _ rm rfl rfl) hin ?_
      rw [tInt_int]
      refine rg_of (by omega) (by omega) (mapPut_out (M.get 1 _ rm rfl rfl) hin ?_)
      have M2 := M.put (i := 1) rfl (.map (mapV (V ++ [row[j].toNat])))
      have hlt := outN_lt (n := up.length) (V := V) (v := row[j].toNat) (by omega) hin
      have hql : (natV (x :: q)).length = q.length + 1 := by simp [natV]
      rw [show q.length + 1 = (natV (x :: q)).length from hql.symm]
      refine Own.appQ M2 (i := 2) rfl (by omega) (by omega) fun r' h' M3 => ?_
      refine rg_of (by omega) (by omega) (s98l3_go ?_)
      have := orderF_l3 hn hi he hrl hr next d (j + 1) (by omega) (V ++ [row[j].toNat]) (q ++ [row[j].toNat]) r' [] h' (S.add hi (S.sub x (by simp)) hs) (fun i b hi hb' => ?_) (by simp; omega) hN (by unfold MQ; rw [List.nil_append, ← List.cons_append, natV_app]; exact M3)
      · simpa [natV] using this
      · by_cases e1 : i = j
        · subst e1
          rw [List.getElem?_eq_getElem hj] at hb'
          cases hb'
          simp
        · exact List.mem_append_left _ (D i b (by omega) hb')
theorem orderF_l2 (hn : up.length ≤ 512) (hi : InR up) (hU : Intss mU up) (hrl : ∀ r ∈ up, r.length ≤ 1048576)
    (next : ∀ V rq pre h', SQ up a V [] → MQ h0 ro R rm V rq pre [] h' → s98l5_E (s98l5 K L1) (.lptr [mU, mV]) out (a : Int) (.mapr rm) (up.length : Int) (a : Int) (up.length : Int) 0 h') :
    ∀ d V q rq pre h, SQ up a V q → outN up.length V + q.length ≤ d → d ≤ 1024 → MQ h0 ro R rm V rq pre q h →
      s98l2 K L1 (d + 1) (.lptr [mU, mV]) out (a : Int) (.mapr rm) (.sl rq 1 pre.length q.length) (up.length : Int) (a : Int) h := by
  intro d
  induction d with
  | zero =>
    intro V q rq pre h S hm hd M
    have : q = [] := List.eq_nil_of_length_eq_zero (by omega)
    subst this
    unfold s98l2
    rw [lenN_sl]
    refine ifT_neg (by simp) ?_
    rw [addOff_lptr]
    simp only [List.drop_zero, ld1_lptr]
    rw [hU.len]
    exact next V rq pre h S M
  | succ d ih =>
    intro V q rq pre h S hm hd M
    unfold s98l2
    rw [lenN_sl]
    cases q with
    | nil =>
      refine ifT_neg (by simp) ?_
      rw [addOff_lptr]
      simp only [List.drop_zero, ld1_lptr]
      rw [hU.len]
      exact next V rq pre h S M
    | cons x q =>
      have hx := S.reach x (S.sub x (by simp))
      obtain ⟨e, he, hie⟩ := hU.ix hx.1
      refine ifT_pos (by simp) ?_
      rw [addOff_lptr]
      simp only [List.drop_zero, ld1_lptr]
      refine ixS_sl (i := 0) (by omega) (by simp) ?_
      rw [show pre.length + (0 : Int).toNat = pre.length by simp]
      rw [ld1_ptr (e := .int .i64 (x : Int)) (M.get 2 _ rq rfl rfl) (by simp [natV]) rfl, tInt_int, hie, ld1_lptr, he.len]
      simp only [List.length_cons] at hm
      refine s98l3_in (up[x].length + 1) ?_
      refine orderF_l3 (N := d) hn hi he (hrl _ (List.getElem_mem hx.1)) (List.getElem?_eq_getElem hx.1) (fun V' q' rq' pre' h' S' D' hm' M' => ?_) up[x].length 0 (by omega) V q rq pre h S (fun i b hi => absurd hi (by omega)) (by omega) (by omega) M
      refine s98l2_go ?_
      have := ih V' q' rq' (pre' ++ [.int .i64 (x : Int)]) h' (S'.next (List.getElem?_eq_getElem hx.1) D') hm' (by omega) (by unfold MQ; rw [List.append_assoc]; exact M')
      simpa using this
end
end Go.Proofs.YtljglglbfcgjpaaGreat

namespace Go.Proofs.YtljglglbfcgjpaaGreat
open Go Go.Sym Go.Proofs.Tryz
variable {K : AVal → Heap → Prop} {h0 : Heap} {up : List (List Int)} {mU mV : AVal}
noncomputable def rowLit (l : List Nat) : AVal := .lsl 1 ((natI l).map (.int .i64))
noncomputable def ordLit (up : List (List Int)) : AVal := .lsl 1 ((List.range up.length).map fun a => rowLit (aboveL up a))
theorem ordLit_rows : Intss (ordLit up) (ordUp up) := by
  refine ⟨_, .lsl 1 _, ?_⟩
  unfold ordUp
  have : ∀ l : List Nat, All2 Ints (l.map fun a => rowLit (aboveL up a)) (l.map fun a => natI (aboveL up a)) := fun l => by
    induction l with
    | nil => exact .nil
    | cons a l ih => exact .cons (.lsl 1 _) ih
  exact this _
structure RO (up : List (List Int)) (a : Nat) (R : List AVal) : Prop where
  len : R.length = up.length
  done : ∀ a', a' < a → R[a']? = some (rowLit (aboveL up a'))
  rest : ∀ a', a' < up.length → a ≤ a' → R[a']? = some .nilsl
theorem orderF_l5 (hn : up.length ≤ 512) {a : Nat} (ha : a < up.length) {ro rm rq : Nat} {Wc : List Nat} (hW : ∀ x, x ∈ Wc ↔ Reach up a x) {Q : AObj} {F : AVal → AVal → Int → Int → Heap → Prop}
    (good : ∀ R' h', RO up (a + 1) R' → Own h0 [.cell ro (.row 1 R')] h' → F (.lptr [mU, mV]) (.sl ro 1 0 up.length) up.length ((a : Int) + 1) h') :
    ∀ d b : Nat, b + d = up.length → ∀ R x h, R.length = up.length → (∀ a', a' < a → R[a']? = some (rowLit (aboveL up a'))) → (∀ a', a' < up.length → a < a' → R[a']? = some .nilsl) → R[a]? = some x →
      Own h0 [.cell ro (.row 1 R), .slc 1 x ((natI ((List.range b).filter (rb up a))).map (.int .i64)), .cell rm (.map (mapV Wc)), .cell rq Q] h →
      s98l5 K (s98l1_G F) (d + 1) (.lptr [mU, mV]) (.sl ro 1 0 up.length) (a : Int) (.mapr rm) up.length (a : Int) up.length (b : Int) h
  | 0, b, hd, R, x, h, hl, hdone, hrest, hx, W => by
    obtain rfl : b = up.length := by omega
    unfold s98l5
    refine ifT_neg (by simp) (rg_of (by omega) (by omega) ?_)
    have hne : (natI ((List.range up.length).filter (rb up a))).map (AVal.int .i64) ≠ [] := by
      have : a ∈ (List.range up.length).filter (rb up a) := List.mem_filter.2 ⟨List.mem_range.2 ha, rb_iff.2 .refl⟩
      intro e
      simp only [natI, List.map_eq_nil_iff] at e
      rw [e] at this
      cases this
    have lx : Go.Sym.Lit h (nameOf x) x (rowLit (aboveL up a)) := by
      rcases W.fit 1 _ rfl with ⟨_, e⟩ | ⟨r, rfl⟩
      · exact absurd e hne
      · exact .sl rfl (W.get 1 _ r rfl rfl) (by simp) (by rw [List.drop_zero, List.take_of_length_le (Nat.le_refl _)]; exact Lits.refl _)
    obtain ⟨h', g, W'⟩ := W.step (nameOf x) [.cell ro (.row 1 (R.set a (rowLit (aboveL up a))))] (fun n hn => W.new 1 _ n rfl hn) (fun j y' hj => by
      match j, hj with
      | 0, hj =>
        cases hj
        exact ⟨_, rfl, trivial, fun n hn => ⟨hn, fun hm => absurd (W.one 0 1 _ _ n rfl rfl hn hm) (by decide)⟩, .row (Lits.set hx lx)⟩
      | j + 1, hj => simp at hj)
    refine ⟨_, _, h', Lits.refl _, g, rfl, good (R.set a (rowLit (aboveL up a))) h' ⟨by simp [hl], fun a' ha' => ?_, fun a' ha' hle => ?_⟩ W'⟩
    · by_cases e : a' = a
      · subst e
        exact List.getElem?_set_self (by rw [hl]; exact ha)
      · rw [List.getElem?_set_ne (Ne.symm e)]
        exact hdone a' (by omega)
    · rw [List.getElem?_set_ne (by omega)]
      exact hrest a' ha' (by omega)
  | d + 1, b, hd, R, x, h, hl, hdone, hrest, hx, W => by
    have hb : b < up.length := by omega
    unfold s98l5
    refine ifT_pos (by simp; omega) ?_
    have hlen : ((natI ((List.range b).filter (rb up a))).map (AVal.int .i64)).length ≤ b := by
      simp only [natI, List.length_map]
      have := List.length_filter_le (rb up a) (List.range b)
      simpa using this
    have hsucc := range_filter_succ (rb up a) b
    by_cases hin : b ∈ Wc
    · have hrb : rb up a b = true := rb_iff.2 ((hW b).1 hin)
      refine mapGet_in (W.get 2 _ rm rfl rfl) hin ?_
      rw [tInt_int]
      have hagg := (W.sc (i := 1) rfl).2.2
      refine ifT_pos rfl (ixS_sl0 ha ?_)
      rw [ld1_ptr (W.get 0 _ ro rfl rfl) hx hagg]
      refine W.app (i := 1) rfl (by omega) (by omega) fun x2 h2 W2 => ixS_sl0 ha (chk_iff.2 ⟨(W2.sc (i := 1) rfl).1, st_elem (W2.get 0 _ ro rfl rfl) hx hagg ?_⟩)
      refine rg_of (by omega) (by omega) (s98l5_go ?_)
      refine orderF_l5 (rm := rm) (rq := rq) (Q := Q) hn ha hW good d (b + 1) (by omega) (R.set a x2) x2 _ (by simp [hl]) (fun a' ha' => ?_) (fun a' ha' hlt => ?_) (List.getElem?_set_self (by rw [hl]; exact ha)) ?_
      · rw [List.getElem?_set_ne (by omega)]; exact hdone a' ha'
      · rw [List.getElem?_set_ne (by omega)]; exact hrest a' ha' hlt
      · rw [hsucc, if_pos hrb]
        have W3 := W2.put (i := 0) rfl (.row 1 (R.set a x2))
        simpa [natI] using W3
    · have hrb : rb up a b = false := by
        cases e : rb up a b with
        | false => rfl
        | true => exact absurd ((hW b).2 (rb_iff.1 e)) hin
      refine mapGet_out (W.get 2 _ rm rfl rfl) hin ?_
      rw [tInt_int]
      refine ifT_neg rfl (rg_of (by omega) (by omega) (s98l5_go ?_))
      refine orderF_l5 (rm := rm) (rq := rq) (Q := Q) hn ha hW good d (b + 1) (by omega) R x h hl hdone hrest hx ?_
      rw [hsucc, hrb]
      simpa using W
theorem orderF_l1 (hn : up.length ≤ 512) (hU : Intss mU up) (hrl : ∀ r ∈ up, r.length ≤ 1048576) (hi : InR up) {ro : Nat} (good : K (ordLit up) h0) :
    ∀ d a : Nat, a + d = up.length → ∀ R h, RO up a R → Own h0 [.cell ro (.row 1 R)] h → s98l1 K (d + 1) (.lptr [mU, mV]) (.sl ro 1 0 up.length) (up.length : Int) (a : Int) h
  | 0, a, hd, R, h, T, W => by
    obtain rfl : a = up.length := by omega
    unfold s98l1
    refine ifT_neg (by simp) ?_
    have hR : R = (List.range up.length).map fun a => rowLit (aboveL up a) := List.ext_getElem (by rw [T.len]; simp) fun i h1 h2 => by
      have := T.done i (by rw [← T.len]; exact h1)
      rw [List.getElem?_eq_getElem h1] at this
      simpa using this
    refine ⟨fun q => q = ro, .lsl 1 R, h0, .whole rfl (W.get 0 _ ro rfl rfl) T.len.symm, ⟨fun _ _ => trivial, fun q o hq => ⟨o, W.old q o hq, (fun e => by
      have := W.new 0 _ q rfl e
      rw [this] at hq; cases hq), .refl o⟩⟩, ?_⟩
    rw [hR]
    exact good
  | d + 1, a, hd, R, h, T, W => by
    have ha : a < up.length := by omega
    unfold s98l1
    refine ifT_pos (by simp; omega) (fun rm hrm _ => ?_)
    have W1 := W.newC hrm (.map (mapV []))
    refine mapPut_out (W1.get 1 _ rm rfl rfl) (by simp) ?_
    have W2 := W1.put (i := 1) rfl (.map (mapV ([] ++ [a])))
    refine newRow_in fun rq hrq => ?_
    have W3 := (W2.newC hrq (.row 1 ([] ++ natV [a])))
    have S0 : SQ up a [a] [a] := ⟨by simp, fun x hx => by rw [List.mem_singleton.1 hx]; exact ⟨ha, .refl⟩, fun x hx => hx, fun x hx hq => absurd hx hq⟩
    have ho := outN_le (n := up.length) (V := []) (W := [a]) (by simp)
    have hz : outN up.length [] ≤ up.length := by
      unfold outN
      have := List.length_filter_le (fun x => decide (x ∉ ([] : List Nat))) (List.range up.length)
      simpa using this
    refine s98l2_in (514 + 1) ?_
    refine orderF_l2 (ro := ro) (rm := rm) (R := R) hn hi hU hrl (fun V rq' pre h' S M => ?_) 514 [a] [a] rq [] _ S0 (by simp only [List.length_singleton]; omega) (by omega) W3
    refine s98l5_in (up.length + 1) ?_
    have W5 := M.newN 1
    have W6 : Own h0 [.cell ro (.row 1 R), .slc 1 .nilsl ((natI ((List.range 0).filter (rb up a))).map (.int .i64)), .cell rm (.map (mapV V)), .cell rq' (.row 1 (pre ++ natV []))] h' := by
      refine W5.renum _ (fun m => if m = 0 then 0 else if m = 1 then 3 else if m = 2 then 1 else 2) (fun m w hm => ?_) (fun m hm p hp e => ?_)
      · match m, hm with
        | 0, hm => cases hm; rfl
        | 1, hm => cases hm; rfl
        | 2, hm => cases hm; rfl
        | 3, hm => cases hm; rfl
        | m + 4, hm => simp at hm
      · have hm : m < 4 := hm
        have hp : p < 4 := hp
        split at e <;> split at e <;> (try split at e) <;> (try split at e) <;> (try split at e) <;> (try split at e) <;> omega
    refine orderF_l5 hn ha S.all (fun R' h' T' W' => ?_) up.length 0 (by omega) R .nilsl _ T.len (fun a' ha' => T.done a' ha') (fun a' ha' hlt => T.rest a' ha' (by omega)) (T.rest a ha (Nat.le_refl _)) W6
    exact orderF_l1 hn hU hrl hi good d (a + 1) (by omega) R' h' T' W'
theorem orderF_ok (hn : up.length ≤ 512) (hU : Intss mU up) (hrl : ∀ r ∈ up, r.length ≤ 1048576) (hi : InR up) (good : K (ordLit up) h0) : ACalls prog 98 [.agg [mU, mV]] h0 K := by
  refine s98_ok ?_
  unfold s98
  rw [hU.len]
  refine mkS_own (bytes := 24) (n := up.length) (by omega) (by omega) fun ro hro => ?_
  rw [hU.len]
  refine s98l1_in (up.length + 1) ?_
  refine orderF_l1 hn hU hrl hi good up.length 0 (by omega) (List.replicate up.length .nilsl) _ ⟨by simp, fun a' ha' => by omega, fun a' ha' _ => by rw [List.getElem?_replicate, if_pos ha']⟩ ((Own.start h0).newC hro _)
end Go.Proofs.YtljglglbfcgjpaaGreat

namespace Go.Proofs.YtljglglbfcgjpaaGreat
open Go Go.Sym Go.Proofs.Tryz
variable {K : AVal → Heap → Prop} {h h0 hb : Heap}
/- ---- a memo ---- -/
def keyA (p : Nat × Nat) : AVal := .agg [.int .i64 (p.1 : Int), .int .i64 (p.2 : Int)]
def kv2 (f : Nat × Nat → Int) (L : List (Nat × Nat)) : List (AVal × AVal) := L.map fun p => (keyA p, .int .i64 (f p))
theorem keyEq_pair (p q : Nat × Nat) : keyEq (keyA p) (keyA q) = some (decide (p = q)) := by
  obtain ⟨a, b⟩ := p
  obtain ⟨c, d⟩ := q
  have e : keyEq (keyA (a, b)) (keyA (c, d)) = some (((a : Int) == (c : Int)) && (((b : Int) == (d : Int)) && true)) := rfl
  rw [e]
  congr 1
  rw [Bool.eq_iff_iff]
  simp
  omega
theorem findM_kv2 (f : Nat × Nat → Int) (k : Nat × Nat) : ∀ (L : List (Nat × Nat)) (p : Nat), findM (keyA k) (kv2 f L) p = some (if k ∈ L then some (p + L.idxOf k, .int .i64 (f k)) else none)
  | [], p => by simp [kv2, findM]
  | j :: L, p => by
    show findM _ ((keyA j, .int .i64 (f j)) :: kv2 f L) p = _
    unfold findM
    rw [keyEq_pair]
    by_cases hij : k = j
    · subst hij
      simp
    · rw [decide_eq_false hij]
      simp only
      rw [findM_kv2 f k L (p + 1)]
      by_cases hm : k ∈ L
      · rw [if_pos hm, if_pos (List.mem_cons_of_mem _ hm), List.idxOf_cons]
        rw [show (j == k) = false by rw [beq_eq_false_iff_ne]; exact fun e => hij e.symm]
        simp only [cond_false]
        rw [show p + 1 + L.idxOf k = p + (L.idxOf k + 1) by omega]
      · rw [if_neg hm, if_neg (fun h => (List.mem_cons.1 h).elim hij hm)]
theorem findM_app (k : Nat × Nat) (c : Int) (f : Nat × Nat → Int) : ∀ (L : List (Nat × Nat)) (p : Nat), k ∉ L → findM (keyA k) (kv2 f L ++ [(keyA k, .int .i64 c)]) p = some (some (p + L.length, .int .i64 c))
  | [], p, _ => by
    show findM _ [(keyA k, .int .i64 c)] p = _
    unfold findM
    rw [keyEq_pair]
    simp
  | j :: L, p, h => by
    have hj : k ≠ j ∧ k ∉ L := by simpa using h
    show findM _ ((keyA j, .int .i64 (f j)) :: (kv2 f L ++ [(keyA k, .int .i64 c)])) p = _
    unfold findM
    rw [keyEq_pair, decide_eq_false hj.1]
    simp only
    rw [findM_app k c f L (p + 1) hj.2]
    simp only [List.length_cons]
    rw [show p + 1 + L.length = p + (L.length + 1) by omega]
theorem findM_set (k : Nat × Nat) (c : Int) (f : Nat × Nat → Int) : ∀ (L : List (Nat × Nat)) (p : Nat), k ∈ L → findM (keyA k) ((kv2 f L).set (L.idxOf k) (keyA k, .int .i64 c)) p = some (some (p + L.idxOf k, .int .i64 c))
  | [], p, h => by simp at h
  | j :: L, p, h => by
    by_cases hij : k = j
    · subst hij
      show findM _ (((keyA k, .int .i64 (f k)) :: kv2 f L).set ((k :: L).idxOf k) _) p = _
      rw [List.idxOf_cons_self, List.set_cons_zero]
      unfold findM
      rw [keyEq_pair]
      simp
    · have hm : k ∈ L := (List.mem_cons.1 h).resolve_left hij
      show findM _ (((keyA j, .int .i64 (f j)) :: kv2 f L).set ((j :: L).idxOf k) _) p = _
      rw [List.idxOf_cons, show (j == k) = false by rw [beq_eq_false_iff_ne]; exact fun e => hij e.symm]
      simp only [cond_false, List.set_cons_succ]
      unfold findM
      rw [keyEq_pair, decide_eq_false hij]
      simp only
      rw [findM_set k c f L (p + 1) hm]
      rw [show p + 1 + L.idxOf k = p + (L.idxOf k + 1) by omega]
theorem set_self_kv2 (k : Nat × Nat) (f : Nat × Nat → Int) : ∀ (L : List (Nat × Nat)), k ∈ L → (kv2 f L).set (L.idxOf k) (keyA k, .int .i64 (f k)) = kv2 f L := fun L hk => by
  have hlt := List.idxOf_lt_length_of_mem hk
  refine List.ext_getElem (by simp) fun i h1 h2 => ?_
  rw [List.getElem_set]
  split
  · rename_i e
    subst e
    simp [kv2]
  · rfl
theorem memo_put (f : Nat × Nat → Int) (L : List (Nat × Nat)) (k : Nat × Nat) : ∃ (X : Int → List (AVal × AVal)) (p : Nat) (L2 : List (Nat × Nat)), (∀ c, putM (keyA k) (.int .i64 c) (kv2 f L) = some (X c)) ∧ (∀ c, findM (keyA k) (X c) 0 = some (some (p, .int .i64 c))) ∧
    (∀ c, p < (X c).length) ∧ (∀ c c', (X c).set p (keyA k, .int .i64 c') = X c') ∧ X (f k) = kv2 f L2 := by
  by_cases hk : k ∈ L
  · refine ⟨fun c => (kv2 f L).set (L.idxOf k) (keyA k, .int .i64 c), L.idxOf k, L, fun c => ?_, fun c => ?_, fun c => ?_, fun c c' => ?_, set_self_kv2 k f L hk⟩
    · unfold putM
      rw [findM_kv2, if_pos hk]
      simp
    · have := findM_set k c f L 0 hk
      simpa using this
    · have := List.idxOf_lt_length_of_mem hk
      simpa [kv2] using this
    · simp
  · refine ⟨fun c => kv2 f L ++ [(keyA k, .int .i64 c)], L.length, L ++ [k], fun c => ?_, fun c => ?_, fun c => ?_, fun c c' => ?_, by simp [kv2]⟩
    · unfold putM
      rw [findM_kv2, if_neg hk]
    · have := findM_app k c f L 0 hk
      simpa using this
    · simp [kv2]
    · have : (kv2 f L).length = L.length := by simp [kv2]
      rw [← this]
      simp
/- ---- where a formula is forced ---- -/
noncomputable def frc (up : List (List Int)) (val : List (List ByteArray)) (xs : List Nd) (i : Nat) (w : Nat) : Bool :=
  match xs[i]? with
  | none => false
  | some x =>
    if x.k = 1 then inS (val.getD w []) x.s
    else if hh : (0 ≤ x.l ∧ x.l < i) ∧ 0 ≤ x.r ∧ x.r < i then
      (if x.k = 3 then frc up val xs x.l.toNat w && frc up val xs x.r.toNat w
       else if x.k = 4 then frc up val xs x.l.toNat w || frc up val xs x.r.toNat w
       else if x.k = 5 then !((aboveL up w).any fun b => frc up val xs x.l.toNat b && !frc up val xs x.r.toNat b)
       else false)
    else false
  termination_by i
  decreasing_by all_goals omega
section
variable {up : List (List Int)} {val : List (List ByteArray)} {xs : List Nd} {i w : Nat} {x : Nd}
theorem frc_1 (hx : xs[i]? = some x) (hk : x.k = 1) : frc up val xs i w = inS (val.getD w []) x.s := by
  rw [frc, hx]
  exact if_pos hk
theorem frc_2 (hx : xs[i]? = some x) (hk : x.k = 2) : frc up val xs i w = false := by
  rw [frc, hx]
  simp only
  rw [if_neg (by omega)]
  split
  · rw [if_neg (by omega), if_neg (by omega), if_neg (by omega)]
  · rfl
theorem frc_3 (hx : xs[i]? = some x) (hk : x.k = 3) {a b : Nat} (ha : x.l = (a : Int)) (hb : x.r = (b : Int)) (hai : a < i) (hbi : b < i) : frc up val xs i w = (frc up val xs a w && frc up val xs b w) := by
  rw [frc, hx]
  simp only
  rw [if_neg (by omega), dif_pos ⟨⟨by omega, by omega⟩, by omega, by omega⟩, if_pos hk, ha, hb]
  simp only [Int.toNat_natCast]
theorem frc_4 (hx : xs[i]? = some x) (hk : x.k = 4) {a b : Nat} (ha : x.l = (a : Int)) (hb : x.r = (b : Int)) (hai : a < i) (hbi : b < i) : frc up val xs i w = (frc up val xs a w || frc up val xs b w) := by
  rw [frc, hx]
  simp only
  rw [if_neg (by omega), dif_pos ⟨⟨by omega, by omega⟩, by omega, by omega⟩, if_neg (by omega), if_pos hk, ha, hb]
  simp only [Int.toNat_natCast]
theorem frc_5 (hx : xs[i]? = some x) (hk : x.k = 5) {a b : Nat} (ha : x.l = (a : Int)) (hb : x.r = (b : Int)) (hai : a < i) (hbi : b < i) : frc up val xs i w = !((aboveL up w).any fun v => frc up val xs a v && !frc up val xs b v) := by
  rw [frc, hx]
  simp only
  rw [if_neg (by omega), dif_pos ⟨⟨by omega, by omega⟩, by omega, by omega⟩, if_neg (by omega), if_neg (by omega), if_pos hk, ha, hb]
  simp only [Int.toNat_natCast]
end
/- ---- is there one? asked of a function that remembers ---- -/
theorem idxFIm_loop {J : Heap → Prop} {v f : AVal} {l : List Int} {p : Int → Bool} (hv : Ints v l) (hm : l.length ≤ 1073741824)
    (hf : ∀ s ∈ l, ∀ (h : Heap) (K : AVal → Heap → Prop), J h → (∀ h', J h' → K (.bool (p s)) h') → callV prog f [.int .i64 s] h K) (hk : ∀ (n : Int) (h' : Heap), (0 ≤ n ↔ ∃ s ∈ l, p s = true) → J h' → K (.int .i64 n) h') : ∀ (d i : Nat) (h : Heap), i + d = l.length → (∀ s ∈ l.take i, p s = false) → J h →
    s117l1 K (d + 1) v f (l.length : Int) (i : Int) h
  | 0, i, h, hd, hn, j => by
    unfold s117l1
    refine ifT_neg (by simp; omega) (retG_of (hk _ _ ?_ j))
    rw [List.take_of_length_le (by omega)] at hn
    constructor
    · intro h0; omega
    · rintro ⟨s, hs, hp⟩; rw [hn s hs] at hp; cases hp
  | d + 1, i, h, hd, hn, j => by
    have hi : i < l.length := by omega
    unfold s117l1
    refine ifT_pos (by simp; omega) ?_
    rw [hv.ix hi, ld1_lptr, tInt_int]
    refine hf _ (List.getElem_mem hi) _ _ j fun h' j' => ?_
    rw [tBool_bool]
    cases he : p l[i] with
    | true => exact ifT_pos rfl (retG_of (hk _ _ ⟨fun _ => ⟨_, List.getElem_mem hi, he⟩, fun _ => by omega⟩ j'))
    | false =>
      refine ifT_neg rfl (rg_of (by omega) (by omega) (s117l1_go (idxFIm_loop hv hm hf hk d (i + 1) h' (by omega) ?_ j')))
      rw [List.take_succ_eq_append_getElem hi]
      intro s hs
      rcases List.mem_append.1 hs with hs | hs
      · exact hn s hs
      · simp at hs; rw [hs, he]
theorem containsFIm_ok {J : Heap → Prop} {v f : AVal} {l : List Int} {p : Int → Bool} (hv : Ints v l) (hm : l.length ≤ 1073741824)
    (hf : ∀ s ∈ l, ∀ (h : Heap) (K : AVal → Heap → Prop), J h → (∀ h', J h' → K (.bool (p s)) h') → callV prog f [.int .i64 s] h K) (j : J h) (hk : ∀ h', J h' → K (.bool (l.any p)) h') : ACalls prog 83 [v, f] h K := by
  refine s83_ok (callG_of (s117_ok ?_))
  unfold s117
  rw [hv.len]
  refine s117l1_in (l.length + 1) (idxFIm_loop hv hm hf (fun n h' hn j' => ?_) l.length 0 h (by omega) (by simp) j)
  rw [tInt_int]
  refine retG_of ?_
  have := hk h' j'
  rwa [show decide (0 ≤ n) = l.any p by rw [Bool.eq_iff_iff]; simpa using hn]
end Go.Proofs.YtljglglbfcgjpaaGreat

namespace Go.Proofs.YtljglglbfcgjpaaGreat
open Go Go.Sym Go.Proofs.Tryz
variable {up : List (List Int)} {val : List (List ByteArray)} {V : List (List Bool)} {xs : List Nd} {L : List ByteArray}
theorem nmS_atomHs (N : Nat) (L : List ByteArray) : nmS (atomHs val N V L) = L := by
  unfold nmS atomHs
  rw [List.map_map]
  exact List.map_id _
theorem atomHs_byF {N : Nat} {s : ByteArray} : ∀ {L : List ByteArray}, s ∈ L → byF (atomHs val N V L) s = ((V.idxOf (atomS val N s) : Nat) : Int)
  | [], h => by simp at h
  | x :: L, h => by
    by_cases e : x = s
    · subst e
      unfold byF byN atomHs
      simp [strEq_dec]
    · have h2 := atomHs_byF (N := N) (L := L) (by simpa [Ne.symm e] using h)
      unfold byF byN atomHs at h2 ⊢
      rw [List.map_cons, List.find?_cons_of_neg (by rw [strEq_dec]; simpa using e)]
      exact h2
section
variable (W : WF up val) (hV : IsUps up V) (h2 : V.length ≤ 64)
include W hV h2
theorem atomHs_ok (hL : L.Nodup) : HyOK V.length (atomHs val up.length V L) where
  el x hx := by
    have _ := h2
    unfold atomHs at hx
    obtain ⟨s, _, rfl⟩ := List.mem_map.1 hx
    have := (ups_ix hV (atomS_closed W s)).1
    unfold inE
    simp only [Bool.and_eq_true, decide_eq_true_eq]
    omega
  nd := by rw [nmS_atomHs]; exact hL
omit h2 in
theorem val_frc (G : GoodT xs) (hin : ∀ (i : Nat) (x : Nd), xs[i]? = some x → x.k = 1 → x.s ∈ L) : ∀ j, j < xs.length → ∀ w, w < up.length →
    vget V (Go.Proofs.YtljglglbfcgjpaaGreat.val V.length (at2 (leqT V)) (atomHs val up.length V L) xs j) w = frc up val xs j w := by
  have hpos := ups_pos hV
  have hel : ∀ x ∈ atomHs val up.length V L, inE V.length x.f = true := fun x hx => by
    unfold atomHs at hx
    obtain ⟨s, _, rfl⟩ := List.mem_map.1 hx
    have := (ups_ix hV (atomS_closed W s)).1
    unfold inE
    simp only [Bool.and_eq_true, decide_eq_true_eq]
    omega
  intro j
  induction j using Nat.strongRecOn with
  | ind j ih =>
    intro hj w hw
    have hx : xs[j]? = some xs[j] := List.getElem?_eq_getElem hj
    generalize xs[j] = x at hx
    by_cases k1 : x.k = 1
    · rw [val_1 hx k1, frc_1 hx k1, atomHs_byF (hin j x hx k1), Int.toNat_natCast]
      obtain ⟨_, h4⟩ := ups_ix hV (atomS_closed W x.s)
      unfold vget
      rw [h4, atomS_get hw]
    · by_cases k2 : x.k = 2
      · rw [val_2 hx k2, frc_2 hx k2]
        exact low_get hV hpos hw
      · obtain ⟨e, ⟨l1, l2⟩, r1, r2⟩ := ((G j x hx).resolve_left k1).resolve_left k2
        obtain ⟨a, ha⟩ := Int.eq_ofNat_of_zero_le l1
        obtain ⟨b, hb⟩ := Int.eq_ofNat_of_zero_le r1
        have ia := ih a (by omega) (by omega)
        have ib := ih b (by omega) (by omega)
        have va := val_lt (n := V.length) (r := at2 (leqT V)) (xs := xs) hpos hel a
        have vb := val_lt (n := V.length) (r := at2 (leqT V)) (xs := xs) hpos hel b
        rw [val_k G hx (by omega), ha, hb, Int.toNat_natCast, Int.toNat_natCast]
        by_cases k3 : x.k = 3
        · rw [if_pos k3, mt_get hV va vb hw, ia w hw, ib w hw, frc_3 hx k3 ha hb (by omega) (by omega)]
        · by_cases k4 : x.k = 4
          · rw [if_neg k3, if_pos k4, jn_get hV va vb hw, ia w hw, ib w hw, frc_4 hx k4 ha hb (by omega) (by omega)]
          · have k5 : x.k = 5 := by omega
            rw [if_neg k3, if_neg k4, im_get hV va vb hw, frc_5 hx k5 ha hb (by omega) (by omega)]
            rw [Bool.eq_iff_iff, List.all_eq_true, Bool.not_eq_true', List.any_eq_false]
            constructor
            · intro h v hv
              unfold aboveL at hv
              obtain ⟨hv1, hv2⟩ := List.mem_filter.1 hv
              have hv1' := List.mem_range.1 hv1
              have := h v hv1
              rw [hv2, ia v hv1', ib v hv1'] at this
              intro hc
              rw [Bool.and_eq_true, Bool.not_eq_true'] at hc
              rw [hc.1, hc.2] at this
              simp at this
            · intro h v hv
              have hv' := List.mem_range.1 hv
              rw [ia v hv', ib v hv']
              cases e1 : rb up w v with
              | false => rfl
              | true =>
                have := h v (by unfold aboveL; exact List.mem_filter.2 ⟨hv, e1⟩)
                cases e2 : frc up val xs a v with
                | false => rfl
                | true =>
                  rw [e2] at this
                  simpa using this
end
end Go.Proofs.YtljglglbfcgjpaaGreat

namespace Go.Proofs.YtljglglbfcgjpaaGreat
open Go Go.Proofs Go.Shelf
def layI_ren : Ren := ⟨fun | 189 => 94 | 125 => 67 | 257 => 121 | 128 => 113 | 129 => 114 | 294 => 144 | 295 => 145 | 296 => 146 | 297 => 147 | 298 => 148 | 299 => 149 | 216 => 150 | 300 => 151 | 301 => 152 | 328 => 160 | 329 => 134 | 330 => 135 | 331 => 161 | 332 => 162 | 215 => 163 | 343 => 165 | n => n, fun | 28 => 42 | 3 => 3 | 46 => 89 | 0 => 0 | 51 => 187 | 53 => 88 | 4 => 4 | 183 => 180 | 182 => 179 | 131 => 105 | 5 => 5 | 9 => 9 | 218 => 205 | 222 => 209 | 228 => 219 | 229 => 62 | n => n, fun n => n⟩
set_option maxRecDepth 100000 in
theorem layI : Lays.n189 Tryz.prog layI_ren := {
  mixed := by kernel_rfl,
  f125 := Tryz.func67.trans (congrArg some (by kernel_rfl)),
  f128 := Tryz.func113.trans (congrArg some (by kernel_rfl)),
  f129 := Tryz.func114.trans (congrArg some (by kernel_rfl)),
  f189 := Tryz.func94.trans (congrArg some (by kernel_rfl)),
  f215 := Tryz.func163.trans (congrArg some (by kernel_rfl)),
  f216 := Tryz.func150.trans (congrArg some (by kernel_rfl)),
  f257 := Tryz.func121.trans (congrArg some (by kernel_rfl)),
  f294 := Tryz.func144.trans (congrArg some (by kernel_rfl)),
  f295 := Tryz.func145.trans (congrArg some (by kernel_rfl)),
  f296 := Tryz.func146.trans (congrArg some (by kernel_rfl)),
  f297 := Tryz.func147.trans (congrArg some (by kernel_rfl)),
  f298 := Tryz.func148.trans (congrArg some (by kernel_rfl)),
  f299 := Tryz.func149.trans (congrArg some (by kernel_rfl)),
  f300 := Tryz.func151.trans (congrArg some (by kernel_rfl)),
  f301 := Tryz.func152.trans (congrArg some (by kernel_rfl)),
  f328 := Tryz.func160.trans (congrArg some (by kernel_rfl)),
  f329 := Tryz.func134.trans (congrArg some (by kernel_rfl)),
  f330 := Tryz.func135.trans (congrArg some (by kernel_rfl)),
  f331 := Tryz.func161.trans (congrArg some (by kernel_rfl)),
  f332 := Tryz.func162.trans (congrArg some (by kernel_rfl)),
  f343 := Tryz.func165.trans (congrArg some (by kernel_rfl)),
  t0 := Tryz.underlying0,
  a0 := Tryz.isAgg0,
  z0 := Tryz.sizeOf0,
  v0 := Tryz.zeroValue0,
  t3 := Tryz.underlying3,
  a3 := Tryz.isAgg3,
  z3 := Tryz.sizeOf3,
  v3 := Tryz.zeroValue3,
  t4 := Tryz.underlying4,
  a4 := Tryz.isAgg4,
  z4 := Tryz.sizeOf4,
  v4 := Tryz.zeroValue4,
  t5 := Tryz.underlying5,
  a5 := Tryz.isAgg5,
  z5 := Tryz.sizeOf5,
  v5 := Tryz.zeroValue5,
  t9 := Tryz.underlying9,
  a9 := Tryz.isAgg9,
  z9 := Tryz.sizeOf9,
  v9 := Tryz.zeroValue9,
  t28 := Tryz.underlying42,
  a28 := Tryz.isAgg42,
  z28 := Tryz.sizeOf42,
  v28 := Tryz.zeroValue42,
  t46 := Tryz.underlying89,
  a46 := Tryz.isAgg89,
  z46 := Tryz.sizeOf89,
  v46 := Tryz.zeroValue89,
  t51 := Tryz.underlying187,
  a51 := Tryz.isAgg187,
  z51 := Tryz.sizeOf187,
  v51 := Tryz.zeroValue187,
  t53 := Tryz.underlying88,
  a53 := Tryz.isAgg88,
  z53 := Tryz.sizeOf88,
  v53 := Tryz.zeroValue88,
  t131 := Tryz.underlying105,
  a131 := Tryz.isAgg105,
  z131 := Tryz.sizeOf105,
  v131 := Tryz.zeroValue105,
  t182 := Tryz.underlying179,
  a182 := Tryz.isAgg179,
  z182 := Tryz.sizeOf179,
  v182 := Tryz.zeroValue179,
  t183 := Tryz.underlying180,
  a183 := Tryz.isAgg180,
  z183 := Tryz.sizeOf180,
  v183 := Tryz.zeroValue180,
  t218 := Tryz.underlying205,
  a218 := Tryz.isAgg205,
  z218 := Tryz.sizeOf205,
  v218 := Tryz.zeroValue205,
  t222 := Tryz.underlying209,
  a222 := Tryz.isAgg209,
  z222 := Tryz.sizeOf209,
  v222 := Tryz.zeroValue209,
  t228 := Tryz.underlying219,
  a228 := Tryz.isAgg219,
  z228 := Tryz.sizeOf219,
  v228 := Tryz.zeroValue219,
  t229 := Tryz.underlying62,
  a229 := Tryz.isAgg62,
  z229 := Tryz.sizeOf62,
  v229 := Tryz.zeroValue62 }
end Go.Proofs.YtljglglbfcgjpaaGreat

namespace Go.Proofs.YtljglglbfcgjpaaGreat
open Go Go.Sym Go.Proofs.Tryz
variable {K : AVal → Heap → Prop} {h h0 hb : Heap}
theorem marks_erase (i : Nat) : ∀ (L : List Nat), (marks L).eraseIdx i = marks (L.eraseIdx i) := by
  intro L
  unfold marks
  rw [List.eraseIdx_eq_take_drop_succ, List.eraseIdx_eq_take_drop_succ, List.map_append, List.map_take, List.map_drop]
theorem erase_perm {i j : Nat} : ∀ {L : List Nat}, L[i]? = some j → (j :: L.eraseIdx i).Perm L := by
  induction i with
  | zero =>
    intro L h
    cases L with
    | nil => simp at h
    | cons a L => simp at h; subst h; exact .refl _
  | succ i ih =>
    intro L h
    cases L with
    | nil => simp at h
    | cons a L =>
      simp only [List.getElem?_cons_succ] at h
      simp only [List.eraseIdx_cons_succ]
      exact (List.Perm.swap a j _).trans ((ih h).cons a)
theorem below_end {os : List Ow} {l_ : AVal} {acc : List Nat} {i : Nat} (O : Own h0 os h) (hi : os[i]? = some (.slc 1 l_ ((natI acc).map (.int .i64)))) (hne : acc ≠ []) (hlen : acc.length ≤ 1048576) {l : List Nat} (hp : acc.Perm l) (hs : l.Pairwise (· ≤ ·))
    (yes : ∀ v, Ints v (natI l) → K (.tuple [v, .int .i64 0]) h0) :
    callG prog 94 [l_] h fun v15 h_11 => retG (.tuple [l_, (.int .i64 0)]) h_11 K := by
  rcases O.fit i _ hi with ⟨_, e⟩ | ⟨r, rfl⟩
  · have := List.map_eq_nil_iff.1 e
    unfold natI at this
    exact absurd (List.map_eq_nil_iff.1 this) hne
  · have hr := O.get i _ r hi rfl
    have hn : ((natI acc).map (AVal.int .i64)).length = (natI acc).length := List.length_map _
    have hn2 : (natI acc).length = acc.length := by simp [natI]
    have hpos : 0 < acc.length := List.length_pos_iff.2 hne
    rw [hn] at hi hr ⊢
    have hsort : sortI (natI acc) = natI l := sorted_unique ((sortI_perm _).trans (hp.map _)) (sortI_sorted _) (natI_sorted hs)
    refine callG_of (sortI_ok (ρ := layI_ren) layI (by kernel_rfl) (by omega) (by omega) hr ?_)
    rw [hsort]
    have hll : (natI l).length = (natI acc).length := by rw [← hsort]; exact List.length_mergeSort _
    have O2 := O.putS (i := i) (r := r) (es := 1) (l := (natI acc).map (.int .i64)) (by rw [hn]; exact hi) (l' := (natI l).map (.int .i64)) (by simp [hll])
    have hi2 : (os.set i (.slc 1 (.sl r 1 0 ((natI acc).map (AVal.int .i64)).length) ((natI l).map (.int .i64))))[i]? = some (.slc 1 (.sl r 1 0 ((natI acc).map (AVal.int .i64)).length) ((natI l).map (.int .i64))) := by
      rw [List.getElem?_set_self (List.getElem?_eq_some_iff.1 hi).1]
    obtain ⟨v', lv, sv⟩ := O2.lit hi2 (S := nameOf (.sl r 1 0 (natI acc).length)) (fun n hn => hn) (Lits.refl _)
    rw [hn] at lv
    exact ⟨_, .tuple [v', .int .i64 0], h0, .tuple (.cons lv (.cons (.refl _) .nil)), toBaseG O2 _ (fun n hn => O2.new i _ n hi2 hn), yes v' sv⟩
theorem extr {l : List AVal} {i : Nat} {x : AVal} (h : l[i]? = some x) (K : AVal → Prop) : extractA (.tuple l) i K = K x := by
  simp [extractA, h]
theorem below_l1 {r r1 r2 q : Nat} {o0 o1 o2 : AObj} {l : List Nat} (hs : l.Pairwise (· ≤ ·)) (hl : l.length ≤ 1048576) (hne : l ≠ []) (yes : ∀ v, Ints v (natI l) → K (.tuple [v, .int .i64 0]) h0) :
    ∀ (d : Nat) (left acc : List Nat) (l_ : AVal) (cur : Option (AVal × AVal)) (h : Heap), left.length = d → (acc ++ left).Perm l → Own h0 [.cell r o0, .cell r1 o1, .cell r2 o2, .cell q (.miter (marks left) cur), .slc 1 l_ ((natI acc).map (.int .i64))] h →
      s48l1 K (d + 1) l_ (.iter q) h
  | 0, left, acc, l_, cur, h, hd, hp, O => by
    obtain rfl := List.length_eq_zero_iff.1 hd
    rw [List.append_nil] at hp
    unfold s48l1
    unfold nextM
    simp only [O.get 3 _ q rfl rfl, Ow.obj, marks, List.map_nil]
    rw [extr rfl, tBool_bool]
    refine ifT_neg rfl (below_end O (i := 4) rfl (fun e => hne ?_) (by rw [hp.length_eq]; exact hl) hp hs yes)
    subst e
    exact List.Perm.eq_nil hp.symm
  | d + 1, left, acc, l_, cur, h, hd, hp, O => by
    have hlen : acc.length + left.length = l.length := by rw [← hp.length_eq, List.length_append]
    unfold s48l1
    unfold nextM
    have hq := O.get 3 _ q rfl rfl
    cases left with
    | nil => simp at hd
    | cons a left =>
      simp only [hq, Ow.obj, marks, List.map_cons]
      intro i kv hkv
      have hkv' : (marks (a :: left))[i]? = some kv := hkv
      unfold marks at hkv'
      rw [List.getElem?_map] at hkv'
      obtain ⟨j, hj, rfl⟩ := Option.map_eq_some_iff.1 hkv'
      have O1 := O.put (i := 3) rfl (.miter (marks ((a :: left).eraseIdx i)) (some (.int .i64 (j : Int), .int .i64 1)))
      rw [extr rfl, tBool_bool]
      refine ifT_pos rfl ?_
      have e0 : ((.int .i64 (a : Int), .int .i64 1) :: left.map fun (j : Nat) => (AVal.int .i64 (j : Int), AVal.int .i64 1)).eraseIdx i = marks ((a :: left).eraseIdx i) := marks_erase i (a :: left)
      rw [e0]
      unfold entryA
      have hq1 := O1.get 3 _ q rfl rfl
      simp only [Ow.obj] at hq1
      simp only [hq1]
      rw [extr rfl, tInt_int]
      refine O1.app (i := 4) rfl (by simp [natI]; omega) (by simp [natI]; omega) fun v2 h2 O2 => s48l1_go ?_
      have e2 : (natI (acc ++ [j])).map (AVal.int .i64) = (natI acc).map (.int .i64) ++ [.int .i64 (j : Int)] := by simp [natI]
      refine below_l1 (r := r) (r1 := r1) (r2 := r2) (q := q) (o0 := o0) (o1 := o1) (o2 := o2) hs hl hne yes d ((a :: left).eraseIdx i) (acc ++ [j]) v2 (some (.int .i64 (j : Int), .int .i64 1)) h2 ?_ ?_ ?_
      · rw [List.length_eraseIdx, if_pos (List.getElem?_eq_some_iff.1 hj).1]
        simp at hd ⊢
        omega
      · rw [List.append_assoc]
        exact ((erase_perm hj).append_left acc).trans hp
      · rw [e2]
        exact O2
theorem belowF_ok {t : AVal} {xs : List Nd} (P : PRd h t xs) (G : GoodT xs) (hl : xs.length ≤ 1024) (i : Int) (no : hasN xs.length i = false → K (.tuple [.nilsl, .int .i64 31]) h)
    (yes : ∀ j : Nat, i = (j : Int) → j < xs.length → ∀ v, Ints v (natI (subL xs j)) → K (.tuple [v, .int .i64 0]) h) : ACalls prog 48 [t, .int .i64 i] h K := by
  refine s48_ok ?_
  unfold s48
  have hsc : sc t = true := by
    obtain ⟨rt, vN, q, es, rfl, _⟩ := P
    rfl
  refine chk_iff.2 ⟨hsc, callG_of (aliveP_ok P ?_)⟩
  rw [tBool_bool]
  refine ifT_neg rfl (callG_of (hasP_ok P i ?_))
  rw [tBool_bool]
  cases e : hasN xs.length i with
  | false => exact ifT_pos rfl (retG_of (no e))
  | true =>
    obtain ⟨j, x, rfl, hx⟩ := hasN_get e
    have hj := (List.getElem?_eq_some_iff.1 hx).1
    refine ifT_neg rfl ?_
    intro r hr _
    have O0 := (Own.start h).newC hr (.map [])
    refine newRow_in fun r1 hr1 => ?_
    have O1 := O0.newC hr1 (.row 1 [.nilmap])
    refine st_elem (Heap.set_same _ _ _) rfl rfl ?_
    have O2 := O1.put (i := 1) rfl (.row 1 [.mapr r])
    refine newRow_in fun r2 hr2 => ?_
    have O3 := O2.newC hr2 (.row 1 [.nilfunc])
    refine st_elem (Heap.set_same _ _ _) rfl rfl ?_
    have O4 : DS h r r1 r2 t [] [] _ := O3.put (i := 2) rfl (.row 1 [.func (.func 93) [] [(.ptr r1 0 0), (.lptr [t]), (.ptr r2 0 0)]])
    refine Eq.mpr (ld1_one (O4.get 2 _ r2 rfl rfl) rfl _) ?_
    show callG prog 93 ([] ++ [.int .i64 (j : Int)] ++ [(.ptr r1 0 0), (.lptr [t]), (.ptr r2 0 0)]) _ _
    refine callG_of (down_ok P G j [] [] _ _ hj O4 fun L h7 _ hn hm hc O5 => ?_)
    rw [ld1_one (O5.get 1 _ r1 rfl rfl) rfl]
    unfold rangeM
    simp only [O5.get 0 _ r rfl rfl, Ow.obj]
    intro q hq _
    have hqr : q ≠ r := fun e => by rw [e, O5.get 0 _ r rfl rfl] at hq; cases hq
    have O6 := O5.put (i := 0) rfl (.fmap (marks L))
    have O7 := (O6.newC (r := q) (by rw [Heap.set_ne _ _ hqr]; exact hq) (.miter (marks L) none)).newN 1
    have hmem : ∀ c, c ∈ L ↔ c ∈ subL xs j := fun c => by
      rw [mem_subL G]
      constructor
      · exact fun h => (hc c h (by simp)).1
      · intro s
        have : ∀ a b, Sub xs a b → a ∈ L → b ∈ L := fun a b s => by
          induction s with
          | refl => exact fun h => h
          | step k _ ih => exact fun h => ih ((hc _ h (by simp)).2 _ k)
        exact this j c s hm
    have hperm : L.Perm (subL xs j) := (List.perm_ext_iff_of_nodup (hn List.nodup_nil) (subL_nodup xs j)).2 hmem
    have hlen : (subL xs j).length ≤ j + 1 := by
      unfold subL
      exact Nat.le_trans (List.length_filter_le _ _) (by simp)
    refine s48l1_in (L.length + 1) (below_l1 (subL_sorted xs j) (by omega) (fun e => ?_) (yes j rfl hj) L.length L [] .nilsl none _ rfl (by simpa using hperm) O7)
    have := (mem_subL G).2 (Sub.refl (xs := xs) j)
    rw [e] at this
    cases this
/- ---- atoms ---- -/
end Go.Proofs.YtljglglbfcgjpaaGreat

namespace Go.Proofs.YtljglglbfcgjpaaGreat
open Go Go.Sym Go.Proofs.Tryz
variable {K : AVal → Heap → Prop} {h h0 hb : Heap}
theorem ldN2_lptr (h : Heap) (a b : AVal) (X : List AVal → Prop) : ldN 2 h (.lptr [a, b]) X = X [a, b] := rfl
theorem subL_kid {xs : List Nd} (G : GoodT xs) {i j k : Nat} (hj : j ∈ subL xs i) (hk : Kid xs j k) : k ∈ subL xs i := (mem_subL G).2 (((mem_subL G).1 hj).trans (.step hk (.refl _)))
theorem subL_lt {xs : List Nd} (i : Nat) : (subL xs i).Pairwise (· < ·) := List.pairwise_lt_range.sublist List.filter_sublist
theorem subL_lt_len {xs : List Nd} {i j : Nat} (hi : i < xs.length) (h : j ∈ subL xs i) : j < xs.length := by
  unfold subL at h
  have := List.mem_range.1 (List.mem_filter.1 h).1
  omega
theorem take_of_lt {l : List Nat} (hp : l.Pairwise (· < ·)) {i : Nat} (hi : i < l.length) {k : Nat} (hk : k ∈ l) (h : k < l[i]) : k ∈ l.take i := by
  obtain ⟨j, hj, rfl⟩ := List.getElem_of_mem hk
  have : j < i := by
    rcases Nat.lt_or_ge j i with e | e
    · exact e
    · rcases Nat.eq_or_lt_of_le e with e | e
      · subst e; omega
      · have := List.pairwise_iff_getElem.1 hp i j hi hj e
        omega
  rw [List.mem_take_iff_getElem]
  exact ⟨j, by omega, rfl⟩
theorem not_take {l : List Nat} (hp : l.Pairwise (· < ·)) {i : Nat} (hi : i < l.length) : l[i] ∉ l.take i := fun h => by
  obtain ⟨j, hj, e⟩ := List.mem_take_iff_getElem.1 h
  have := List.pairwise_iff_getElem.1 hp j i (by omega) hi (by omega)
  omega
section
variable {n : Nat} {r : Nat → Nat → Bool} {f : AVal} {hs : List Hy} {xs : List Nd} {t bv : AVal} {q q1 q2 j0 : Nat}
def VS (hb : Heap) (q q1 q2 n : Nat) (f : AVal) (r : Nat → Nat → Bool) (hs : List Hy) (xs : List Nd) (L : List Nat) (h : Heap) : Prop :=
  Own hb [.cell q (.row 2 [.agg (latC n f)]), .cell q1 (.map (kmap kS (byF hs) (nmS hs))), .cell q2 (.map (kmap kN (fun j => ((val n r hs xs j : Nat) : Int)) L))] h
theorem valueP_l3 (P : PRd h0 t xs) (G : GoodT xs) (hl : xs.length ≤ 1024) (hf : T2 f n r) (hn : n ≤ 1073741824) (h1 : 1 ≤ n) (HY : HyOK n hs) (hj0 : j0 < xs.length) (hbv : Ints bv (natI (subL xs j0)))
    (no : ¬ (∀ c ∈ subL xs j0, NamedB hs xs c) → K (.tuple [.int .i64 0, .int .i64 2]) h0) (yes : (∀ c ∈ subL xs j0, NamedB hs xs c) → K (.tuple [.int .i64 ((val n r hs xs j0 : Nat) : Int), .int .i64 0]) h0) :
    ∀ (d i : Nat) (h : Heap), i + d = (subL xs j0).length → (∀ c ∈ (subL xs j0).take i, NamedB hs xs c) → VS h0 q q1 q2 n f r hs xs ((subL xs j0).take i) h →
      s21l3 K (d + 1) t (j0 : Int) (.ptr q 0 0) (.mapr q1) ((lowP n r : Nat) : Int) (.mapr q2) bv ((subL xs j0).length : Int) (i : Int) h
  | 0, i, h, hd, hnm, O => by
    unfold s21l3
    refine ifT_neg (by simp; omega) ?_
    rw [List.take_of_length_le (by omega)] at O hnm
    rw [getN (O.get 2 _ q2 rfl rfl), if_pos ((mem_subL G).2 (.refl j0)), tInt_int]
    exact retG_drop O.old (yes hnm)
  | d + 1, i, h, hd, hnm, O => by
    have hlen : (subL xs j0).length ≤ j0 + 1 := by
      unfold subL
      exact Nat.le_trans (List.length_filter_le _ _) (by simp)
    have hi : i < (subL xs j0).length := by omega
    have hsorted := subL_lt (xs := xs) j0
    have hmem : (subL xs j0)[i] ∈ subL xs j0 := List.getElem_mem hi
    have hnt := not_take hsorted hi
    have htk : ∀ k, Kid xs (subL xs j0)[i] k → k ∈ (subL xs j0).take i := fun k hk => take_of_lt hsorted hi (subL_kid G hmem hk) (hk.lt G)
    have htS : (subL xs j0).take (i + 1) = (subL xs j0).take i ++ [(subL xs j0)[i]] := List.take_succ_eq_append_getElem hi
    unfold s21l3
    refine ifT_pos (by simp; omega) ?_
    have hni : i < (natI (subL xs j0)).length := by simpa [natI] using hi
    rw [hbv.ix hni, ld1_lptr, tInt_int]
    have ej : (natI (subL xs j0))[i] = (((subL xs j0)[i] : Nat) : Int) := by simp [natI]
    rw [ej]
    generalize hjj : (subL xs j0)[i] = j at *
    refine callG_of (nodeP_ok (P.ext O.old) _ (fun j' x ej' hx => ?_) (fun e => ?_))
    · obtain rfl : j = j' := by omega
      rw [tTup_tuple, tCons_cons, tCons_cons, tBool_bool, tNil_nil, nodeV, tAgg_agg, nodeC, tCons_cons, tInt_int, tCons_cons, tStr_str, tCons_cons, tInt_int, tCons_cons, tInt_int, tNil_nil]
      refine newRow_in fun r4 hr4 => st_z (Heap.set_same _ _ _) ?_
      rw [Heap.set_set]
      have O1 := Own.skip O hr4 (.row 4 [.agg [.int .i64 x.k, .str x.s, .int .i64 x.l, .int .i64 x.r]])
      have go : ∀ (w : Int), NamedB hs xs j → w = ((val n r hs xs j : Nat) : Int) → mapPut (h.set r4 (.row 4 [.agg [.int .i64 x.k, .str x.s, .int .i64 x.l, .int .i64 x.r]])) (.mapr q2) (.int .i64 (j : Int)) (.int .i64 w) fun h14 =>
          s21c4 K (s21l3_G (s21l3 K (d + 1))) t (j0 : Int) (.ptr q 0 0) (.mapr q1) ((lowP n r : Nat) : Int) (.mapr q2) bv ((subL xs j0).length : Int) (i : Int) h14 := fun w hnb hw => by
        subst hw
        rw [putN (f := fun j => ((val n r hs xs j : Nat) : Int)) (O1.get 2 _ q2 rfl rfl) hnt]
        unfold s21c4
        refine rg_of (by omega) (by omega) (s21l3_go (valueP_l3 P G hl hf hn h1 HY hj0 hbv no yes d (i + 1) _ (by omega) (fun c hc => ?_) ?_))
        · rw [htS] at hc
          rcases List.mem_append.1 hc with e | e
          · exact hnm c e
          · rw [List.mem_singleton.1 e]; exact hnb
        · rw [htS]
          exact O1.put (i := 2) rfl _
      have f0 := fun X => ld1_fld (o := 0) (Heap.set_same h r4 (.row 4 [.agg [.int .i64 x.k, .str x.s, .int .i64 x.l, .int .i64 x.r]])) rfl X
      have f1 := fun X => ld1_fld (o := 1) (Heap.set_same h r4 (.row 4 [.agg [.int .i64 x.k, .str x.s, .int .i64 x.l, .int .i64 x.r]])) rfl X
      have f2 := fun X => ld1_fld (o := 2) (Heap.set_same h r4 (.row 4 [.agg [.int .i64 x.k, .str x.s, .int .i64 x.l, .int .i64 x.r]])) rfl X
      have f3 := fun X => ld1_fld (o := 3) (Heap.set_same h r4 (.row 4 [.agg [.int .i64 x.k, .str x.s, .int .i64 x.l, .int .i64 x.r]])) rfl X
      have lat := ldN2 (O1.get 0 _ q rfl rfl)
      have g2 := fun a X => getN (f := fun j => ((val n r hs xs j : Nat) : Int)) (O1.get 2 _ q2 rfl rfl) a X
      have nb2 : x.k ≠ 1 → NamedB hs xs j := fun hk y hy hk2 => by rw [hx] at hy; cases hy; exact absurd hk2 hk
      rw [f0, tInt_int]
      by_cases k1 : x.k = 1
      · refine ifT_pos (by simpa using k1) ?_
        rw [f1, tStr_str]
        refine getS (O1.get 1 _ q1 rfl rfl) x.s (fun hin => ?_) (fun hout => ?_)
        · rw [tInt_int]
          refine ifT_neg rfl (go _ (fun y hy _ => ?_) ?_)
          · rw [hx] at hy; cases hy; exact hin
          · rw [val_1 hx k1]
            obtain ⟨c, hc⟩ := Option.isSome_iff_exists.1 (byN_isSome.2 hin)
            obtain ⟨y, hy, e⟩ := byN_in hc
            have := HY.el y hy
            simp only [inE, Bool.and_eq_true, decide_eq_true_eq] at this
            unfold byF
            rw [hc]
            simp only [Option.getD_some]
            omega
        · rw [tInt_int]
          refine ifT_pos rfl (retG_drop O1.old (no fun hall => hout (hall j hmem x hx k1)))
      · refine ifT_neg (by simpa using k1) ?_
        by_cases k2 : x.k = 2
        · refine ifT_pos (by simpa using k2) (go _ (nb2 k1) ?_)
          rw [val_2 hx k2]
        · refine ifT_neg (by simpa using k2) ?_
          have g := G j x hx
          obtain ⟨e, ⟨l1, l2⟩, r1, r2⟩ := (g.resolve_left k1).resolve_left k2
          obtain ⟨a, ha⟩ := Int.eq_ofNat_of_zero_le l1
          obtain ⟨b, hb'⟩ := Int.eq_ofNat_of_zero_le r1
          have hva : val n r hs xs a < n := val_lt h1 HY.el a
          have hvb : val n r hs xs b < n := val_lt h1 HY.el b
          have ma : a ∈ (subL xs j0).take i := htk a ⟨x, hx, by omega, .inl ha⟩
          have mb : b ∈ (subL xs j0).take i := htk b ⟨x, hx, by omega, .inr hb'⟩
          have hv := val_k (n := n) (r := r) (hs := hs) G hx (by omega)
          rw [ha, hb', Int.toNat_natCast, Int.toNat_natCast] at hv
          have ga := fun X => g2 a X
          have gb := fun X => g2 b X
          rw [← ha] at ga
          rw [← hb'] at gb
          by_cases k3 : x.k = 3
          · refine ifT_pos (by simpa using k3) ?_
            rw [lat, tCons_cons, tInt_int, tCons_cons, tNil_nil, f2, tInt_int, ga, if_pos ma, tInt_int, f3, tInt_int, gb, if_pos mb, tInt_int]
            refine callG_of (meetH_ok hf hn hva hvb ?_)
            unfold bestV
            rw [tTup_tuple, tCons_cons, tInt_int, tCons_cons, tBool_bool, tNil_nil]
            refine go _ (nb2 k1) ?_
            rw [hv, if_pos k3]
            rfl
          · refine ifT_neg (by simpa using k3) ?_
            by_cases k4 : x.k = 4
            · refine ifT_pos (by simpa using k4) ?_
              rw [lat, tCons_cons, tInt_int, tCons_cons, tNil_nil, f2, tInt_int, ga, if_pos ma, tInt_int, f3, tInt_int, gb, if_pos mb, tInt_int]
              refine callG_of (joinH_ok hf hn hva hvb ?_)
              unfold bestV
              rw [tTup_tuple, tCons_cons, tInt_int, tCons_cons, tBool_bool, tNil_nil]
              refine go _ (nb2 k1) ?_
              rw [hv, if_neg k3, if_pos k4]
              rfl
            · refine ifT_neg (by simpa using k4) ?_
              refine ifT_pos (by simp; omega) ?_
              rw [lat, tCons_cons, tInt_int, tCons_cons, tNil_nil, f2, tInt_int, ga, if_pos ma, tInt_int, f3, tInt_int, gb, if_pos mb, tInt_int]
              refine callG_of (impH_ok hf hn hva hvb ?_)
              rw [tInt_int]
              refine go _ (nb2 k1) ?_
              rw [hv, if_neg k3, if_neg k4]
    · have := subL_lt_len hj0 hmem
      rw [hasN_iff.2 (by omega)] at e
      cases e
theorem valueP_l1 (P : PRd h0 t xs) (G : GoodT xs) (hl : xs.length ≤ 1024) (hf : T2 f n r) (hn : n ≤ 1073741824) (h1 : 1 ≤ n) {v : AVal} (H : Hyps v hs) (hhs : hs.length ≤ 1099511627776) (hj0 : j0 < xs.length) (hbv : Ints bv (natI (subL xs j0)))
    (no : ¬ (HyOK n hs ∧ ∀ c ∈ subL xs j0, NamedB hs xs c) → K (.tuple [.int .i64 0, .int .i64 2]) h0) (yes : (HyOK n hs ∧ ∀ c ∈ subL xs j0, NamedB hs xs c) → K (.tuple [.int .i64 ((val n r hs xs j0 : Nat) : Int), .int .i64 0]) h0) :
    ∀ (d i : Nat) (h : Heap), i + d = hs.length → HyOK n (hs.take i) → Own h0 [.cell q (.row 2 [.agg (latC n f)]), .cell q1 (.map (kmap kS (byF hs) (nmS (hs.take i))))] h →
      s21l1 K (d + 1) t (j0 : Int) (.ptr q 0 0) bv (.mapr q1) v (hs.length : Int) (i : Int) h
  | 0, i, h, hd, HY, O => by
    unfold s21l1
    refine ifT_neg (by simp; omega) ?_
    rw [List.take_of_length_le (by omega)] at HY O
    rw [ldN2 (O.get 0 _ q rfl rfl), tCons_cons, tInt_int, tCons_cons, tNil_nil]
    refine callG_of (boundsH_ok hf hn ?_)
    rw [tTup_tuple, tCons_cons, tInt_int, tCons_cons, tInt_int, tNil_nil]
    intro q2 hq2 _
    have O2 := O.newC hq2 (.map [])
    rw [hbv.len]
    have e : (natI (subL xs j0)).length = (subL xs j0).length := by simp [natI]
    rw [e]
    exact s21l3_in ((subL xs j0).length + 1) (valueP_l3 P G hl hf hn h1 HY hj0 hbv (fun hno => no fun h => hno h.2) (fun hy => yes ⟨HY, hy⟩) (subL xs j0).length 0 _ (by omega) (fun c hc => by simp at hc) O2)
  | d + 1, i, h, hd, HY, O => by
    have hi : i < hs.length := by omega
    have htS : hs.take (i + 1) = hs.take i ++ [hs[i]] := List.take_succ_eq_append_getElem hi
    have hall : HyOK n hs → HyOK n (hs.take i ++ [hs[i]]) := fun W => by
      rw [← htS]
      rw [← List.take_append_drop (i + 1) hs] at W
      exact W.mono
    unfold s21l1
    refine ifT_pos (by simp; omega) ?_
    rw [H.ix hi, hyC, ldN2_lptr, tCons_cons, tStr_str, tCons_cons, tInt_int, tNil_nil]
    refine newRow_in fun r4 hr4 => st_all (Heap.set_same _ _ _) rfl ?_
    rw [Heap.set_set]
    have O1 := Own.skip O hr4 (.row 2 [.agg [.str hs[i].s, .int .i64 hs[i].f]])
    have f0 := fun X => ld1_fld (o := 0) (Heap.set_same h r4 (.row 2 [.agg [.str hs[i].s, .int .i64 hs[i].f]])) rfl X
    have f1 := fun X => ld1_fld (o := 1) (Heap.set_same h r4 (.row 2 [.agg [.str hs[i].s, .int .i64 hs[i].f]])) rfl X
    have bad : ¬ HyOK n (hs.take i ++ [hs[i]]) → s21c2 K (s21l1_G (s21l1 K (d + 1))) t (j0 : Int) (.ptr q 0 0) bv (.mapr q1) (.ptr r4 0 0) v (hs.length : Int) (i : Int) true (h.set r4 (.row 2 [.agg [.str hs[i].s, .int .i64 hs[i].f]])) := fun hb => by
      unfold s21c2
      exact ifT_pos rfl (retG_drop O1.old (no fun hw => hb (hall hw.1)))
    rw [f0, tStr_str]
    refine getS (O1.get 1 _ q1 rfl rfl) hs[i].s (fun hin => ?_) (fun hout => ?_)
    · rw [tInt_int]
      exact ifT_pos rfl (bad fun W => (HyOK.snoc.1 W).2.2 hin)
    · rw [tInt_int]
      refine ifT_neg rfl ?_
      rw [f1, tInt_int]
      by_cases e1 : hs[i].f < 0
      · refine ifT_pos (by simpa using e1) (bad fun W => ?_)
        have := (HyOK.snoc.1 W).2.1
        simp only [inE, Bool.and_eq_true, decide_eq_true_eq] at this
        omega
      · refine ifT_neg (by simpa using e1) ?_
        rw [f1, tInt_int]
        show ld1 _ (.ptr q 0 0) _
        rw [ld1_fld (O1.get 0 _ q rfl rfl) rfl, tInt_int]
        by_cases e2 : (n : Int) ≤ hs[i].f
        · rw [decide_eq_true e2]
          refine bad fun W => ?_
          have := (HyOK.snoc.1 W).2.1
          simp only [inE, Bool.and_eq_true, decide_eq_true_eq] at this
          omega
        · rw [decide_eq_false e2]
          unfold s21c2
          refine ifT_neg rfl ?_
          show ld1 _ (.ptr r4 0 0) _
          rw [f0, tStr_str]
          show ld1 _ (.ptr r4 0 1) _
          rw [f1, tInt_int]
          have ef : hs[i].f = byF hs hs[i].s := by
            unfold byF
            rw [byN_at hi hout]
            rfl
          have pp := fun X => putS (f := byF hs) (O1.get 1 _ q1 rfl rfl) hout X
          rw [← ef] at pp
          rw [pp]
          refine rg_of (by omega) (by omega) (s21l1_go (valueP_l1 P G hl hf hn h1 H hhs hj0 hbv no yes d (i + 1) _ (by omega) ?_ ?_))
          · rw [htS]
            exact HyOK.snoc.2 ⟨HY, by unfold inE; simp; omega, hout⟩
          · have e3 : nmS (hs.take (i + 1)) = nmS (hs.take i) ++ [hs[i].s] := by rw [htS]; unfold nmS; rw [List.map_append]; rfl
            rw [e3]
            exact O1.put (i := 1) rfl _
end
section
variable {a t v : AVal} {L : List (List Bool)} {hs : List Hy} {xs : List Nd}
theorem valueP_ok (A : AlgV a L) (P : PRd h t xs) (G : GoodT xs) (hl : xs.length ≤ 1024) (H : Hyps v hs) (hhs : hs.length ≤ 1099511627776) (id : Int) (hk : K (valV L hs xs id) h) : ACalls prog 21 [.agg [a], t, .int .i64 id, v] h K := by
  refine s21_ok ?_
  unfold s21
  refine callG_of (look_ok A.v A.len A.row (els := []) (.inr ⟨rfl, rfl⟩) (by simp) ?_)
  rw [tTup_tuple, tCons_cons, tCons_cons, tInt_int, tNil_nil, tAgg_agg, tCons_cons, tInt_int, tCons_cons, tNil_nil]
  refine newRow_in fun q hq => st_all (Heap.set_same _ _ _) rfl ?_
  rw [Heap.set_set]
  unfold lookE
  cases e : algP L with
  | false =>
    rw [valV_alg e] at hk
    exact ifT_pos rfl (retG_drop (Heap.set_sub hq) hk)
  | true =>
    obtain ⟨hf, hn, h1⟩ := A.alg e
    refine ifT_neg rfl ?_
    refine callG_of (belowF_ok (P.ext (Heap.set_sub hq)) G hl id (fun e2 => ?_) (fun j0 e2 hj0 bv hbv => ?_))
    · rw [tTup_tuple, tCons_cons, tCons_cons, tInt_int, tNil_nil]
      rw [valV_has e e2] at hk
      exact ifT_pos rfl (retG_drop (Heap.set_sub hq) hk)
    · subst e2
      rw [tTup_tuple, tCons_cons, tCons_cons, tInt_int, tNil_nil]
      refine ifT_neg rfl ?_
      intro q1 hq1 _
      have O := ((Own.start h).newC hq (.row 2 [.agg (latC L.length (leqV a))])).newC hq1 (.map [])
      rw [H.len]
      have e3 : hasN xs.length (j0 : Int) = true := hasN_iff.2 (by omega)
      refine s21l1_in (hs.length + 1) (valueP_l1 P G hl hf hn h1 H hhs hj0 hbv (fun hno => ?_) (fun hy => ?_) hs.length 0 _ (by omega) ⟨fun x hx => by simp at hx, by simp [nmS]⟩ O)
      · rw [valV_no e e3 (by rwa [Int.toNat_natCast])] at hk
        exact hk
      · rw [valV_yes e e3 (by rwa [Int.toNat_natCast]), Int.toNat_natCast] at hk
        exact hk
theorem belowNil_ok (i : Int) (hk : K (.tuple [.nilsl, .int .i64 1]) h) : ACalls prog 48 [.nilptr, .int .i64 i] h K := by
  refine s48_ok ?_
  unfold s48
  refine chk_iff.2 ⟨rfl, callG_of (s91_ok ?_)⟩
  unfold s91
  rw [nilP_nil]
  refine ifT_neg rfl (retG_of ?_)
  rw [tBool_bool]
  exact ifT_pos rfl (retG_of hk)
theorem valueNil_ok (A : AlgV a L) (id : Int) (hk : ∀ x : Int, K (.tuple [.int .i64 x, .int .i64 (if algP L = true then 1 else 230)]) h) : ACalls prog 21 [.agg [a], .nilptr, .int .i64 id, v] h K := by
  refine s21_ok ?_
  unfold s21
  refine callG_of (look_ok A.v A.len A.row (els := []) (.inr ⟨rfl, rfl⟩) (by simp) ?_)
  rw [tTup_tuple, tCons_cons, tCons_cons, tInt_int, tNil_nil, tAgg_agg, tCons_cons, tInt_int, tCons_cons, tNil_nil]
  refine newRow_in fun q hq => st_all (Heap.set_same _ _ _) rfl ?_
  rw [Heap.set_set]
  unfold lookE
  cases e : algP L with
  | false =>
    have := hk 0
    rw [if_neg (by rw [e]; simp)] at this
    exact ifT_pos rfl (retG_drop (Heap.set_sub hq) this)
  | true =>
    have := hk 0
    rw [if_pos e] at this
    refine ifT_neg rfl ?_
    refine callG_of (belowNil_ok _ ?_)
    rw [tTup_tuple, tCons_cons, tCons_cons, tInt_int, tNil_nil]
    exact ifT_pos rfl (retG_drop (Heap.set_sub hq) this)
end
end Go.Proofs.YtljglglbfcgjpaaGreat

namespace Go.Proofs.YtljglglbfcgjpaaGreat
open Go Go.Sym Go.Proofs.Tryz
variable {h h0 hb : Heap}
theorem nilCheckA_lptr (l : List AVal) (X : AVal → Prop) : nilCheckA (.lptr l) X = X (.lptr l) := rfl
noncomputable def knV (up : List (List Int)) (val : List (List ByteArray)) (xs : List Nd) (p : Nat × Nat) : Int := if frc up val xs p.2 p.1 = true then 2 else 1
noncomputable def eyeV (t mU mV : AVal) (up : List (List Int)) (rm : Nat) : AVal := .lptr [t, mU, mV, ordLit up, .mapr rm]
abbrev EM (hb : Heap) (rm : Nat) (up : List (List Int)) (val : List (List ByteArray)) (xs : List Nd) (L : List (Nat × Nat)) (R : List Ow) (h : Heap) : Prop := Own hb (.cell rm (.map (kv2 (knV up val xs) L)) :: R) h
section
variable {t mU mV : AVal} {up : List (List Int)} {val : List (List ByteArray)} {xs : List Nd} {rm : Nat}
theorem memo_write {L : List (Nat × Nat)} {R : List Ow} (W : EM hb rm up val xs L R h) {i w : Nat} {b : Bool} (hf : frc up val xs i w = b) {K : AVal → Heap → Prop} (hk : ∀ L' h', EM hb rm up val xs L' R h' → K (.bool b) h') :
    s58c1 K (w : Int) (i : Int) (.lptr [eyeV t mU mV up rm]) b h := by
  obtain ⟨X, p, L2, h1, h2, h3, h4, h5⟩ := memo_put (knV up val xs) L (w, i)
  have hkey : AVal.agg [.int .i64 (w : Int), .int .i64 (i : Int)] = keyA (w, i) := rfl
  unfold s58c1
  rw [ld1_lptr]
  unfold eyeV
  rw [nilCheckA_lptr, addOff_lptr]
  simp only [List.drop_succ_cons, List.drop_zero, ld1_lptr]
  rw [hkey]
  refine Eq.mpr (mapPut_map (W.get 0 _ rm rfl rfl) (h1 1) _) ?_
  have W2 : Own hb (.cell rm (.map (X 1)) :: R) _ := W.put (i := 0) rfl (.map (X 1))
  cases b with
  | false =>
    refine ifT_neg rfl (retG_of ?_)
    have e : knV up val xs (w, i) = 1 := by unfold knV; rw [if_neg (by simp [hf])]
    rw [e] at h5
    rw [h5] at W2 ⊢
    exact hk L2 _ W2
  | true =>
    refine ifT_pos rfl ?_
    rw [nilCheckA_lptr, addOff_lptr]
    simp only [List.drop_succ_cons, List.drop_zero, ld1_lptr]
    have hr := W2.get 0 _ rm rfl rfl
    have hr' : (h.set rm (.map (X 1))) rm = some (.map (X 1)) := hr
    have get1 : ∀ (H : Heap) (Y : AVal → Bool → Prop), H rm = some (.map (X 1)) → Y (.int .i64 1) true → mapGet (.int .i64 0) H (.mapr rm) (keyA (w, i)) Y := fun H Y hH hY => by
      unfold mapGet mapGetR entsA
      simp only [hH, h2 1]
      exact hY
    refine get1 _ _ hr' ?_
    rw [tInt_int]
    refine rg_of (by omega) (by omega) ?_
    unfold mapEnt
    simp only [hr', h2 1]
    intro b
    rw [h4 1 1]
    refine ⟨?_, ?_⟩
    · unfold mapGet mapGetR entsA
      simp only [Heap.set_same, h2 1]
    · unfold entSt
      simp only [Heap.set_same]
      refine ⟨trivial, ?_⟩
      have hp := h3 1
      have hx : (X 1)[p]? = some (X 1)[p] := List.getElem?_eq_getElem hp
      have hkey1 : (X 1)[p].1 = keyA (w, i) := by
        have e := h4 1 1
        have := congrArg (fun l => l[p]?) e
        simp only [List.getElem?_set_self hp] at this
        rw [hx] at this
        rw [← Option.some.inj this]
      rw [hx]
      simp only
      rw [hkey1]
      have e2 : (X 1).set p (keyA (w, i), .int .i64 (1 + 1)) = X 2 := h4 1 2
      rw [e2, Heap.set_set]
      have W3 : Own hb (.cell rm (.map (X 2)) :: R) _ := W2.put (i := 0) rfl (.map (X 2))
      have e : knV up val xs (w, i) = 2 := by unfold knV; rw [if_pos (by simpa using hf)]
      rw [e] at h5
      rw [h5] at W3 ⊢
      exact retG_of (hk L2 _ W3)
end
end Go.Proofs.YtljglglbfcgjpaaGreat

namespace Go.Proofs.YtljglglbfcgjpaaGreat
open Go Go.Sym Go.Proofs.Tryz
variable {h h0 hb : Heap} {t mU mV : AVal} {up : List (List Int)} {val : List (List ByteArray)} {xs : List Nd} {rm : Nat}
theorem EM.known {L : List (Nat × Nat)} {R : List Ow} (W : EM hb rm up val xs L R h) (w i : Nat) {X : AVal → Bool → Prop} (yes : ∀ b, X (.int .i64 (knV up val xs (w, i))) b) (no : X (.int .i64 0) false) : mapGet (.int .i64 0) h (.mapr rm) (.agg [.int .i64 (w : Int), .int .i64 (i : Int)]) X := by
  show mapGet (.int .i64 0) h (.mapr rm) (keyA (w, i)) X
  unfold mapGet mapGetR entsA
  have := W.get 0 _ rm rfl rfl
  simp only [this, Ow.obj, findM_kv2]
  by_cases hk : (w, i) ∈ L
  · simp only [if_pos hk]
    exact yes true
  · simp only [if_neg hk]
    exact no
theorem forces_ok (P : PRd hb t xs) (G : GoodT xs) (S : Small up val) (hn : up.length ≤ 512) (hV : Strss mV val) (hvl : val.length = up.length) :
    ∀ (i w : Nat) (L : List (Nat × Nat)) (R : List Ow) (h : Heap) (K : AVal → Heap → Prop), i < xs.length → w < up.length → EM hb rm up val xs L R h → (∀ L' h', EM hb rm up val xs L' R h' → K (.bool (frc up val xs i w)) h') →
      ACalls prog 58 [eyeV t mU mV up rm, .int .i64 (w : Int), .int .i64 (i : Int)] h K := by
  intro i
  induction i using Nat.strongRecOn with
  | ind i ih =>
  intro w L R h K hi hw W hk
  refine s58_ok ?_
  unfold s58
  refine chk_iff.2 ⟨rfl, ?_⟩
  unfold eyeV
  rw [nilCheckA_lptr, addOff_lptr]
  simp only [List.drop_succ_cons, List.drop_zero, ld1_lptr]
  refine W.known w i (fun b => ?_) ?_
  · rw [tInt_int]
    have hk2 := hk L h W
    unfold knV
    cases hf : frc up val xs i w with
    | true =>
      rw [hf] at hk2
      rw [if_pos rfl]
      exact ifT_pos rfl (retG_of hk2)
    | false =>
      rw [hf] at hk2
      rw [if_neg (by simp)]
      exact ifT_pos rfl (retG_of hk2)
  rw [tInt_int]
  refine ifT_neg rfl ?_
  rw [nilCheckA_lptr, addOff_lptr]
  simp only [List.drop_zero, ld1_lptr]
  refine callG_of (nodeP_ok (P.ext W.old) _ (fun a x ha hx => ?_) (fun hno => ?_))
  rotate_left
  · have := hasN_iff.2 (⟨by omega, by omega⟩ : 0 ≤ (i : Int) ∧ (i : Int) < xs.length)
    rw [this] at hno
    cases hno
  obtain rfl : i = a := by omega
  rw [tTup_tuple, tCons_cons, tCons_cons, tBool_bool, tNil_nil]
  unfold nodeV nodeC
  rw [tAgg_agg, tCons_cons, tInt_int, tCons_cons, tStr_str, tCons_cons, tInt_int, tCons_cons, tInt_int, tNil_nil]
  refine newRow_in fun r1 hr1 => st4 (Heap.set_same _ _ _) rfl rfl ?_
  rw [Heap.set_set, ld1_fld (o := 0) (Heap.set_same _ _ _) rfl, tInt_int]
  have W1 : EM hb rm up val xs L (R ++ [.cell r1 (.row 4 [.agg [.int .i64 x.k, .str x.s, .int .i64 x.l, .int .i64 x.r]])]) (h.set r1 (.row 4 [.agg [.int .i64 x.k, .str x.s, .int .i64 x.l, .int .i64 x.r]])) := W.newC hr1 _
  have rd : ∀ L' h', EM hb rm up val xs L' (R ++ [.cell r1 (.row 4 [.agg [.int .i64 x.k, .str x.s, .int .i64 x.l, .int .i64 x.r]])]) h' → h' r1 = some (.row 4 [.agg [.int .i64 x.k, .str x.s, .int .i64 x.l, .int .i64 x.r]]) := fun L' h' W' => W'.get (R.length + 1) (.cell r1 (.row 4 [.agg [.int .i64 x.k, .str x.s, .int .i64 x.l, .int .i64 x.r]])) r1 (by simp) rfl
  have fin : ∀ (b : Bool) L' h', frc up val xs i w = b → EM hb rm up val xs L' (R ++ [.cell r1 (.row 4 [.agg [.int .i64 x.k, .str x.s, .int .i64 x.l, .int .i64 x.r]])]) h' → s58c1 K (w : Int) (i : Int) (.lptr [.lptr [t, mU, mV, ordLit up, .mapr rm]]) b h' := fun b L' h' hb' W' => by
    have W2 : EM hb rm up val xs L' R h' := Own.pop W'
    exact memo_write W2 hb' (fun L2 h2 W3 => by rw [← hb']; exact hk L2 h2 W3)
  generalize h.set r1 (.row 4 [.agg [.int .i64 x.k, .str x.s, .int .i64 x.l, .int .i64 x.r]]) = H1 at W1 ⊢
  rcases G _ x hx with e | e | ⟨e, ⟨l1, l2⟩, r1', r2'⟩
  · refine ifT_pos (by simpa using e) ?_
    rw [nilCheckA_lptr, addOff_lptr]
    simp only [List.drop_succ_cons, List.drop_zero]
    rw [addOff_lptr]
    simp only [List.drop_succ_cons, List.drop_zero, ld1_lptr]
    have hwl : w < val.length := by omega
    obtain ⟨c, hc, hic⟩ := hV.ix hwl
    rw [hic, ld1_lptr, ld1_fld (o := 1) (rd L _ W1) rfl, tStr_str]
    refine callG_of (containsS_ok hc (S.names _ (List.getElem_mem hwl)).1.1 ?_)
    rw [tBool_bool]
    exact fin _ L _ (by rw [frc_1 hx e, List.getD_eq_getElem?_getD, List.getElem?_eq_getElem hwl]; rfl) W1
  · refine ifT_neg (by simp [e]) (ifT_neg (by simp [e]) (ifT_neg (by simp [e]) (ifT_neg (by simp [e]) ?_)))
    exact fin _ L _ (frc_2 hx e) W1
  · obtain ⟨a, ha'⟩ := Int.eq_ofNat_of_zero_le l1
    obtain ⟨b, hb'⟩ := Int.eq_ofNat_of_zero_le r1'
    have hai : a < i := by omega
    have hbi : b < i := by omega
    rcases e with e | e | e
    · refine ifT_neg (by simp [e]) (ifT_pos (by simp [e]) ?_)
      rw [ld1_fld (o := 2) (rd L _ W1) rfl, tInt_int, ha']
      refine callG_of (ih a hai w L _ _ _ (by omega) hw W1 fun L2 h2 W2 => ?_)
      rw [tBool_bool]
      have hf := frc_3 (up := up) (val := val) (w := w) hx e ha' hb' hai hbi
      cases he : frc up val xs a w with
      | false => exact ifT_neg rfl (fin _ L2 h2 (by rw [hf, he]; rfl) W2)
      | true =>
        refine ifT_pos rfl ?_
        rw [ld1_fld (o := 3) (rd L2 _ W2) rfl, tInt_int, hb']
        refine callG_of (ih b hbi w L2 _ _ _ (by omega) hw W2 fun L3 h3 W3 => ?_)
        rw [tBool_bool]
        exact fin _ L3 h3 (by rw [hf, he]; rfl) W3
    · refine ifT_neg (by simp [e]) (ifT_neg (by simp [e]) (ifT_pos (by simp [e]) ?_))
      rw [ld1_fld (o := 2) (rd L _ W1) rfl, tInt_int, ha']
      refine callG_of (ih a hai w L _ _ _ (by omega) hw W1 fun L2 h2 W2 => ?_)
      rw [tBool_bool]
      have hf := frc_4 (up := up) (val := val) (w := w) hx e ha' hb' hai hbi
      cases he : frc up val xs a w with
      | true => exact ifT_pos rfl (fin _ L2 h2 (by rw [hf, he]; rfl) W2)
      | false =>
        refine ifT_neg rfl ?_
        rw [ld1_fld (o := 3) (rd L2 _ W2) rfl, tInt_int, hb']
        refine callG_of (ih b hbi w L2 _ _ _ (by omega) hw W2 fun L3 h3 W3 => ?_)
        rw [tBool_bool]
        exact fin _ L3 h3 (by rw [hf, he]; rfl) W3
    · refine ifT_neg (by simp [e]) (ifT_neg (by simp [e]) (ifT_neg (by simp [e]) (ifT_pos (by simp [e]) ?_)))
      rw [nilCheckA_lptr, addOff_lptr]
      simp only [List.drop_succ_cons, List.drop_zero, ld1_lptr]
      obtain ⟨eo, heo, hio⟩ := (ordLit_rows (up := up)).ix (i := w) (by rw [ordUp_len]; exact hw)
      rw [ordUp_get hw] at heo
      rw [hio, ld1_lptr]
      have hlen := above_len (up := up) (a := w)
      refine callG_of (containsFIm_ok (J := fun h' => ∃ L', EM hb rm up val xs L' (R ++ [.cell r1 (.row 4 [.agg [.int .i64 x.k, .str x.s, .int .i64 x.l, .int .i64 x.r]])]) h') (p := fun s => frc up val xs a s.toNat && !frc up val xs b s.toNat) heo (by simp [natI]; omega) (fun s hs h2 K2 j hk2 => ?_) ⟨L, W1⟩ fun h2 ⟨L2, W2⟩ => ?_)
      · obtain ⟨c, hc, rfl⟩ := mem_natI.1 hs
        have hcl : c < up.length := List.mem_range.1 (List.mem_filter.1 hc).1
        obtain ⟨L2, W2⟩ := j
        simp only [Int.toNat_natCast] at hk2
        show callG prog 100 ([] ++ [.int .i64 (c : Int)] ++ [.lptr [.lptr [t, mU, mV, ordLit up, .mapr rm]], .ptr r1 0 0]) h2 K2
        refine callG_of (s100_ok ?_)
        unfold s100
        rw [ld1_lptr, addOff_ptr, ld1_fld (o := 0 + 2) (rd L2 _ W2) rfl, tInt_int, ha']
        refine callG_of (ih a hai c L2 _ _ _ (by omega) hcl W2 fun L3 h3 W3 => ?_)
        rw [tBool_bool]
        cases he : frc up val xs a c with
        | false =>
          refine ifT_neg rfl (retG_of ?_)
          have := hk2 h3 ⟨L3, W3⟩
          rw [he] at this
          exact this
        | true =>
          refine ifT_pos rfl ?_
          rw [ld1_lptr, addOff_ptr, ld1_fld (o := 0 + 3) (rd L3 _ W3) rfl, tInt_int, hb']
          refine callG_of (ih b hbi c L3 _ _ _ (by omega) hcl W3 fun L4 h4 W4 => ?_)
          rw [tBool_bool]
          have := hk2 h4 ⟨L4, W4⟩
          rw [he] at this
          exact retG_of this
      · rw [tBool_bool]
        refine fin _ L2 h2 ?_ W2
        rw [frc_5 hx e ha' hb' hai hbi]
        unfold natI
        rw [List.any_map]
        rfl
end Go.Proofs.YtljglglbfcgjpaaGreat

namespace Go.Proofs.YtljglglbfcgjpaaGreat
open Go Go.Sym Go.Proofs.Tryz
variable {K : AVal → Heap → Prop} {h h0 hb : Heap}
def NKeys (es : List (AVal × AVal)) : Prop := ∀ e ∈ es, ∃ x, e.1 = nodeV x
theorem findM_keys (y : Nd) : ∀ (es : List (AVal × AVal)) (p : Nat), NKeys es → ∃ r, findM (nodeV y) es p = some r
  | [], p, _ => ⟨none, rfl⟩
  | (k, v) :: es, p, hk => by
    obtain ⟨x, e⟩ := hk _ List.mem_cons_self
    dsimp only at e
    subst e
    unfold findM
    rw [keyEq_node]
    cases ndB y x with
    | true => exact ⟨_, rfl⟩
    | false => exact findM_keys y es (p + 1) fun e he => hk e (List.mem_cons_of_mem _ he)
theorem putM_keys {es : List (AVal × AVal)} (hk : NKeys es) (y : Nd) (v : AVal) : ∃ es', putM (nodeV y) v es = some es' ∧ NKeys es' := by
  obtain ⟨r, hr⟩ := findM_keys y es 0 hk
  unfold putM
  rw [hr]
  cases r with
  | none =>
    refine ⟨_, rfl, fun e he => ?_⟩
    rcases List.mem_append.1 he with he | he
    · exact hk e he
    · rw [List.mem_singleton.1 he]; exact ⟨y, rfl⟩
  | some r =>
    refine ⟨_, rfl, fun e he => ?_⟩
    rcases List.mem_or_eq_of_mem_set he with he | he
    · exact hk e he
    · rw [he]; exact ⟨y, rfl⟩
theorem ents_keys : ∀ (xs : List Nd) (s : Nat), NKeys (ents s xs)
  | [], s => fun e he => by cases he
  | x :: xs, s => fun e he => by
    rcases List.mem_cons.1 he with he | he
    · rw [he]; exact ⟨x, rfl⟩
    · exact ents_keys xs (s + 1) e he
theorem mapDel_keys {h : Heap} {q : Nat} {es : List (AVal × AVal)} (hq : h q = some (.map es)) (hk : NKeys es) (y : Nd) {K : Heap → Prop} (hK : ∀ es', NKeys es' → K (h.set q (.map es'))) : mapDel h (.mapr q) (nodeV y) K := by
  obtain ⟨r, hr⟩ := findM_keys y es 0 hk
  unfold mapDel mapDelR
  simp only [hq, hr]
  cases r with
  | none => exact hK _ hk
  | some r => exact hK _ fun e he => hk e (List.mem_of_mem_eraseIdx he)
def PX (hb : Heap) (rc : Nat) (L : List AVal) (R : List Ow) (h : Heap) : Prop := ∃ vN q es, NKeys es ∧ Own hb ([.slc 4 vN L, .cell rc (.row 2 [.agg [vN, .mapr q]]), .cell q (.map es)] ++ R) h
theorem copyP_l1 {rc : Nat} {v : AVal} {xs : List Nd} (hv : RdN h0 v xs) (hx : xs.length ≤ 1048576) (hk : K (.ptr rc 0 0) h0) :
    ∀ d i : Nat, i + d = xs.length → ∀ L h, L.length = i → PX h0 rc L [] h → s97l1 K (d + 1) (.ptr rc 0 0) v (xs.length : Int) (i : Int) h
  | 0, i, hd, L, h, hL, W => by
    obtain ⟨vN, q, es, _, O⟩ := W
    unfold s97l1
    exact ifT_neg (by simp; omega) (retG_drop O.old hk)
  | d + 1, i, hd, L, h, hL, W => by
    have hil : i < xs.length := by omega
    obtain ⟨vN, q, es, hes, O⟩ := W
    have hv' := hv.ext O.old
    unfold s97l1
    refine ifT_pos (by simp; omega) (hv'.ix (List.getElem?_eq_getElem hil) ?_)
    rw [nodeC, tCons_cons, tInt_int, tCons_cons, tStr_str, tCons_cons, tInt_int, tCons_cons, tInt_int, tNil_nil]
    refine newRow_in fun r hr => st4 (Heap.set_same _ _ _) rfl rfl ?_
    rw [Heap.set_set]
    have O1 := O.newC hr (.row 4 [nodeV xs[i]])
    have rc1 := O1.get 1 _ rc rfl rfl
    rw [nilCheck_ptr, addOff_ptr]
    refine Eq.mpr (ld1_fld rc1 rfl _) ?_
    refine Eq.mpr (ldN_elem (n := 4) (i := 0) (cs := nodeC xs[i]) (Heap.set_same _ _ _) rfl rfl _) ?_
    rw [nodeC, tCons_cons, tInt_int, tCons_cons, tStr_str, tCons_cons, tInt_int, tCons_cons, tInt_int, tNil_nil]
    refine ⟨Eq.mpr (ld1_fld rc1 rfl _) rfl, O1.app (x := nodeV xs[i]) (i := 0) rfl (by omega) (by omega) fun v2 h2 O2 => ?_⟩
    rw [nilCheck_ptr, addOff_ptr]
    refine chk_iff.2 ⟨(O2.sc (i := 0) rfl).1, st_fld (O2.get 1 _ rc rfl rfl) (by simp) ?_⟩
    have O3 := O2.put (i := 1) rfl (.row 2 [.agg [v2, .mapr q]])
    rw [nilCheck_ptr, addOff_ptr]
    refine Eq.mpr (ld1_fld (O3.get 1 _ rc rfl rfl) rfl _) ?_
    refine Eq.mpr (ldN_elem (n := 4) (i := 0) (cs := nodeC xs[i]) (O3.get 3 _ r rfl rfl) rfl rfl _) ?_
    rw [nodeC, tCons_cons, tInt_int, tCons_cons, tStr_str, tCons_cons, tInt_int, tCons_cons, tInt_int, tNil_nil]
    obtain ⟨es', he, hes'⟩ := putM_keys hes xs[i] (.int .i64 (i : Int))
    refine Eq.mpr (mapPut_map (O3.get 2 _ q rfl rfl) he _) (rg_of (by omega) (by omega) (s97l1_go ?_))
    have O4 := O3.put (i := 2) rfl (.map es')
    have O5 : Own h0 ([.slc 4 v2 (L ++ [nodeV xs[i]]), .cell rc (.row 2 [.agg [v2, .mapr q]]), .cell q (.map es')] ++ [.cell r (.row 4 [nodeV xs[i]])]) _ := O4
    exact copyP_l1 hv hx hk d (i + 1) (by omega) (L ++ [nodeV xs[i]]) _ (by simp; omega) ⟨v2, q, es', hes', O5.pop⟩
theorem copyP_ok {t : AVal} {xs : List Nd} (P : PRd h0 t xs) (hx : xs.length ≤ 1048576) (hk : ∀ r, K (.ptr r 0 0) h0) : ACalls prog 97 [t] h0 K := by
  refine s97_ok ?_
  unfold s97
  refine callG_of (aliveP_ok P ?_)
  rw [tBool_bool]
  refine ifT_neg rfl (callG_of (newP_ok (Own.start h0) fun rc h' W => ?_))
  obtain ⟨vN, q, O⟩ := W
  obtain ⟨v, hv, hl⟩ := (P.ext O.old).ld
  obtain ⟨v0, hv0, hl0⟩ := P.ld
  have e : v = v0 := by
    obtain ⟨rt, vT, qT, eT, rfl, h2, h3, h4⟩ := P
    have a := hl (fun x => x = vT)
    have b := hl0 (fun x => x = vT)
    rw [nilCheck_ptr, addOff_ptr, ld1_fld (O.old _ _ h2) rfl] at a
    rw [nilCheck_ptr, addOff_ptr, ld1_fld h2 rfl] at b
    have a' : v = vT := a ▸ rfl
    have b' : v0 = vT := b ▸ rfl
    rw [a', b']
  subst e
  rw [hl, hv.len]
  exact s97l1_in (xs.length + 1) (copyP_l1 hv0 hx (hk rc) xs.length 0 (by omega) [] h' rfl ⟨vN, q, [], (fun e he => by cases he), O⟩)
end Go.Proofs.YtljglglbfcgjpaaGreat

namespace Go.Proofs.YtljglglbfcgjpaaGreat
open Go Go.Sym Go.Proofs.Tryz
variable {K : AVal → Heap → Prop} {h h0 hb : Heap} {t mU mV : AVal} {up : List (List Int)} {val : List (List ByteArray)} {xs : List Nd}
theorem lookF_ok (P : PRd h t xs) (hx : xs.length ≤ 1024) (ht : sc t = true) (S : Small up val) (hU : Intss mU up) (hV : Strss mV val) (bad : ¬ WF up val → K (.tuple [.nilptr, .int .i64 170]) h)
    (good : WF up val → ∀ rm h', EM h rm up val xs [] [] h' → K (.tuple [eyeV t mU mV up rm, .int .i64 0]) h') : ACalls prog 55 [t, .agg [mU, mV]] h K := by
  refine s55_ok ?_
  unfold s55
  refine callG_of (copyP_ok P (by omega) fun r => ?_)
  rw [nilP_ptr]
  refine ifT_neg rfl (callG_of (check_ok S hU hV (fun hW => ?_) (fun W => ?_)))
  · rw [tInt_int]
    exact ifT_pos rfl (retG_of (bad hW))
  · rw [tInt_int]
    have ord : ∀ H : Heap, callG prog 98 [.agg [mU, mV]] H fun v h2 => v = ordLit up ∧ h2 = H := fun H => callG_of (orderF_ok W.max hU S.row W.inR ⟨rfl, rfl⟩)
    refine ifT_neg rfl ⟨ordLit up, ord h, fun rm hrm _ => ⟨ord _, rfl, rfl, chk_iff.2 ⟨ht, chk_iff.2 ⟨rfl, retG_of (good W rm _ ?_)⟩⟩⟩⟩
    exact (Own.start h).newC hrm (.map [])
theorem hasF_ok (P : PRd h t xs) (i : Int) (hk : ∀ h', Ext h h' → K (.bool (hasN xs.length i)) h') : ACalls prog 57 [t, .int .i64 i] h K := by
  refine s57_ok ?_
  unfold s57
  refine callG_of (nodeP_ok P i (fun j x hj hx => ?_) (fun hno => ?_))
  · rw [tTup_tuple, tCons_cons, tCons_cons, tBool_bool, tNil_nil]
    unfold nodeV nodeC
    rw [tAgg_agg, tCons_cons, tInt_int, tCons_cons, tStr_str, tCons_cons, tInt_int, tCons_cons, tInt_int, tNil_nil]
    refine newRow_in fun r hr => st4 (Heap.set_same _ _ _) rfl rfl (retG_of ?_)
    rw [Heap.set_set]
    have hh : hasN xs.length i = true := by
      have := (List.getElem?_eq_some_iff.1 hx).1
      exact hasN_iff.2 ⟨by omega, by omega⟩
    have := hk _ (Ext.new hr (.row 4 [.agg [.int .i64 x.k, .str x.s, .int .i64 x.l, .int .i64 x.r]]))
    rwa [hh] at this
  · rw [tTup_tuple, tCons_cons, tCons_cons, tBool_bool, tNil_nil]
    unfold nodeV nodeC
    rw [tAgg_agg, tCons_cons, tInt_int, tCons_cons, tStr_str, tCons_cons, tInt_int, tCons_cons, tInt_int, tNil_nil]
    refine newRow_in fun r hr => st4 (Heap.set_same _ _ _) rfl rfl (retG_of ?_)
    rw [Heap.set_set]
    have := hk _ (Ext.new hr (.row 4 [.agg [.int .i64 ndZ.k, .str ndZ.s, .int .i64 ndZ.l, .int .i64 ndZ.r]]))
    rwa [hno] at this
end Go.Proofs.YtljglglbfcgjpaaGreat

namespace Go.Proofs.YtljglglbfcgjpaaGreat
open Go Go.Sym Go.Proofs.Tryz
variable {K : AVal → Heap → Prop} {h h0 hb : Heap} {up : List (List Int)} {val : List (List ByteArray)} {mU mV t : AVal} {xs : List Nd}
/- ---- force.At ---- -/
theorem worldE_ok {rm w : Nat} (hU : Intss mU up) (hw : w < up.length) (hk : K (.bool true) h) : ACalls prog 56 [eyeV t mU mV up rm, .int .i64 (w : Int)] h K := by
  refine s56_ok ?_
  unfold s56
  refine ifT_pos (decide_eq_true (by omega)) ?_
  unfold eyeV
  rw [nilCheckA_lptr, addOff_lptr, addOff_lptr]
  show ld1 h (.lptr [mU, mV, ordLit up, .mapr rm]) _
  rw [ld1_lptr, hU.len, decide_eq_true (show (w : Int) < (up.length : Int) by omega)]
  exact retG_of hk
theorem atF_ok (P : PRd h t xs) (G : GoodT xs) (hx : xs.length ≤ 1024) (ht : sc t = true) (S : Small up val) (hU : Intss mU up) (hV : Strss mV val) (W : WF up val) {w j : Nat} (hw : w < up.length) (hj : j < xs.length) (hk : K (.tuple [.bool (frc up val xs j w), .int .i64 0]) h) :
    ACalls prog 26 [t, .agg [mU, mV], .int .i64 (w : Int), .int .i64 (j : Int)] h K := by
  refine s26_ok ?_
  unfold s26
  refine callG_of (lookF_ok P hx ht S hU hV (fun hW => absurd W hW) (fun _ rm h' M => ?_))
  rw [tTup_tuple, tCons_cons, tCons_cons, tInt_int, tNil_nil]
  refine ifT_neg rfl (callG_of (worldE_ok hU hw ?_))
  rw [tBool_bool]
  refine ifT_neg rfl (callG_of (hasF_ok (P.ext M.old) _ fun h2 x => ?_))
  rw [tBool_bool, hasN_iff.2 (show 0 ≤ (j : Int) ∧ (j : Int) < xs.length by omega)]
  have M2 : EM h rm up val xs [] [] h2 := Own.ext M x
  refine ifT_neg rfl (callG_of (forces_ok P G S W.max hV W.len j w [] _ _ _ hj hw M2 fun L2 h3 M3 => ?_))
  rw [tBool_bool]
  exact retG_drop M3.old hk
/- ---- a slice of ours of what names stand for ---- -/
theorem own_nm {os : List Ow} {i k : Nat} {v : AVal} {hs : List Hy} (O : Own hb os h) (hi : os[i]? = some (.slc 2 v (hs.map hyV))) (hk : k < hs.length) {X : AVal → Prop} (hX : X (.str hs[k].s)) : ixS 2 v (k : Int) fun p => addOff p 0 fun p => ld1 h p X := by
  rcases O.fit i _ hi with ⟨_, e⟩ | ⟨r, rfl⟩
  · have := congrArg List.length e
    simp only [List.length_map, List.length_nil] at this
    omega
  · have hr := O.get i _ r hi rfl
    rw [List.length_map]
    refine ixS_sl0 hk ?_
    rw [addOff_ptr]
    unfold ld1 ldCells
    have hl : (hs.map hyV)[k]? = some (hyV hs[k]) := by simp [hk]
    simp only [hr, Ow.obj, hl, hyV, cellsOf_agg, Nat.zero_add, hyC, List.drop_zero]
    exact hX
section
variable {V : List (List Bool)} {a sets v : AVal} {id : Int} {r : Nat} (HH : Heads23) (hk : ∀ h', K (.bool true) h') (S : Small up val) (hU : Intss mU up) (hV : Strss mV val) (W : WF up val) (hUp : IsUps up V) (hl : V.length ≤ 64)
    (A : AlgV a (leqT V)) (hsets : Intss sets (V.map fun l => natI (idxL l))) (P : PRd h0 t xs) (ht : sc t = true) (G : GoodT xs) (hx : xs.length ≤ 1024)
include HH hk S hU hV W hUp hl hsets P ht G hx
omit hl in
theorem forcesH_l7 {j x : Nat} (hj : j < xs.length) (hxl : x < V.length) (hg : ∀ w, w < up.length → vget V x w = frc up val xs j w) :
    ∀ (d w : Nat) (on : AVal) (h : Heap), w + d = up.length → Own h0 [.slc 1 on ((natI ((List.range w).filter (frc up val xs j))).map (.int .i64))] h →
      s5l7 K (d + 1) (j : Int) (.lptr [mU, mV]) t sets (x : Int) on (w : Int) h
  | 0, w, on, h, hd, O => by
    have hmax := W.max
    obtain rfl : w = up.length := by omega
    unfold s5l7
    rw [addOff_lptr, List.drop_zero, ld1_lptr, hU.len]
    refine ifT_neg (by simp) ?_
    obtain ⟨e, he, hix⟩ := hsets.ix (i := x) (by simpa using hxl)
    rw [hix, ld1_lptr]
    obtain ⟨v', lv, sv⟩ := O.lit (i := 0) rfl (S := nameOf on) (fun n hn => hn) (Lits.refl _)
    have heq : natI ((List.range up.length).filter (frc up val xs j)) = (V.map fun l => natI (idxL l))[x]'(by simpa using hxl) := by
      rw [List.getElem_map]
      congr 1
      have hcl := ups_cl hUp hxl
      have ev : V.getD x [] = V[x] := by simp [List.getD, hxl]
      rw [ev] at hcl
      unfold idxL
      rw [hcl.len]
      refine List.filter_congr fun w hw => ?_
      rw [← hg w (List.mem_range.1 hw)]
      unfold vget
      rw [ev]
    refine ⟨_, [v', e], h0, .cons lv (.cons (.refl _) .nil), Own.toBase O _ (fun n hn => O.new 0 _ n rfl hn), ?_⟩
    have hfl := List.length_filter_le (frc up val xs j) (List.range up.length)
    rw [List.length_range] at hfl
    refine ints_ok sv he (by unfold natI; rw [List.length_map]; omega) ?_
    rw [decide_eq_true heq, tBool_bool]
    exact ifT_pos rfl (headsRet HH hk)
  | d + 1, w, on, h, hd, O => by
    have hmax := W.max
    have hw : w < up.length := by omega
    unfold s5l7
    rw [addOff_lptr, List.drop_zero, ld1_lptr, hU.len]
    refine ifT_pos (decide_eq_true (by omega)) ?_
    rw [ldN2_lptr, tCons_cons, tCons_cons, tNil_nil]
    refine callG_of (atF_ok (P.ext O.old) G hx ht S hU hV W hw hj ?_)
    rw [tTup_tuple, tCons_cons, tBool_bool, tCons_cons, tInt_int, tNil_nil]
    refine ifT_neg rfl ?_
    have hsucc := range_filter_succ (frc up val xs j) w
    have hfl := List.length_filter_le (frc up val xs j) (List.range w)
    rw [List.length_range] at hfl
    have hlen : ((natI ((List.range w).filter (frc up val xs j))).map (AVal.int .i64)).length ≤ w := by
      rw [List.length_map]
      unfold natI
      rw [List.length_map]
      exact hfl
    cases hf : frc up val xs j w with
    | true =>
      refine ifT_pos rfl (O.app (i := 0) rfl (by omega) (by omega) fun v2 h2 O2 => ?_)
      unfold s5c8
      refine rg_of (by omega) (by omega) (s5l7_go (forcesH_l7 hj hxl hg d (w + 1) v2 h2 (by omega) ?_))
      rw [hsucc, hf]
      simpa [natI] using O2
    | false =>
      refine ifT_neg rfl ?_
      unfold s5c8
      refine rg_of (by omega) (by omega) (s5l7_go (forcesH_l7 hj hxl hg d (w + 1) on h (by omega) ?_))
      rw [hsucc, hf]
      simpa using O
omit W hUp hl hsets P ht G hx hk S hU hV HH in
theorem atomS_none {N : Nat} {s : ByteArray} (hs : ∀ u, u < N → s ∉ val.getD u []) : atomS val N s = List.replicate N false := by
  refine ext_getD (by rw [atomS_len, List.length_replicate]) fun i hi => ?_
  rw [atomS_len] at hi
  rw [atomS_get hi, getD_rep]
  cases e : inS (val.getD i []) s with
  | false => rfl
  | true => exact absurd (inS_iff.1 e) (hs i hi)
omit W hl hsets P ht G hx hk S hU hV HH in
theorem low_ix : lowP V.length (at2 (leqT V)) = V.idxOf (List.replicate up.length false) := by
  have hpos := ups_pos hUp
  obtain ⟨h1, h2⟩ := ups_ix hUp (closed_none (up := up))
  refine ups_inj hUp (low_lt hpos) h1 fun w hw => ?_
  rw [low_get hUp hpos hw]
  show false = (V.getD _ []).getD w false
  rw [h2, getD_rep]
omit HH hk S hU hV W hl hsets P ht G hx in
theorem forcesH_l4 {i : Nat} {x : Nd} {L2 : s5l2_T} (hv : Nodes v xs) (hi : xs[i]? = some x) {L : List ByteArray} {by_ : AVal} (hL : L.length ≤ 1099511627776) (O : Own h0 [.slc 2 by_ ((atomHs val up.length V L).map hyV)] h) (hnew : x.k = 1 → x.s ∉ L → ∀ u, u < up.length → x.s ∉ val.getD u [])
    (skip : (x.k = 1 → x.s ∈ L) → L2 v id (.lptr [mU, mV]) t (.ptr r 0 0) sets by_ ((lowP V.length (at2 (leqT V)) : Nat) : Int) ((i : Int) + 1) h)
    (put : x.k = 1 → x.s ∉ L → ∀ by' h', Own h0 [.slc 2 by' ((atomHs val up.length V (L ++ [x.s])).map hyV)] h' → L2 v id (.lptr [mU, mV]) t (.ptr r 0 0) sets by' ((lowP V.length (at2 (leqT V)) : Nat) : Int) ((i : Int) + 1) h') (hil : i < 1048576) :
    ∀ (d k : Nat), k + d = L.length → s5l4 K L2 (d + 1) v id (.lptr [mU, mV]) t (.ptr r 0 0) sets by_ ((lowP V.length (at2 (leqT V)) : Nat) : Int) (i : Int) (x.k != 1 || inS (L.take k) x.s) (k : Int) h := by
  have hlen : (atomHs val up.length V L).length = L.length := by simp [atomHs]
  have hil' := (List.getElem?_eq_some_iff.1 hi).1
  have hxe := (List.getElem?_eq_some_iff.1 hi).2
  intro d
  induction d with
  | zero =>
    intro k hd
    unfold s5l4
    rw [O.len (i := 0) rfl, List.length_map, hlen]
    refine ifT_neg (decide_eq_false (by omega)) ?_
    rw [List.take_of_length_le (by omega)]
    cases e : (x.k != 1 || inS L x.s) with
    | true =>
      refine ifT_neg rfl ?_
      unfold s5c3
      refine rg_of (by omega) (by omega) (skip fun h1 => ?_)
      rw [h1] at e
      exact inS_iff.1 (by simpa using e)
    | false =>
      simp only [Bool.or_eq_false_iff, bne_eq_false_iff_eq] at e
      have hni : x.s ∉ L := fun hm => by rw [inS_iff.2 hm] at e; exact absurd e.2 (by simp)
      refine ifT_pos rfl ?_
      rw [hv.ix hil', hxe, addOff_lptr]
      show ld1 h (.lptr [.str x.s, .int .i64 x.l, .int .i64 x.r]) _
      rw [ld1_lptr, tStr_str]
      refine O.app (i := 0) rfl (by rw [List.length_map, hlen]; omega) (by rw [List.length_map, hlen]; omega) fun by' h' O2 => ?_
      unfold s5c3
      refine rg_of (by omega) (by omega) (put e.1 hni by' h' ?_)
      have e2 : (atomHs val up.length V (L ++ [x.s])).map hyV = (atomHs val up.length V L).map hyV ++ [.agg [.str x.s, .int .i64 ((lowP V.length (at2 (leqT V)) : Nat) : Int)]] := by
        unfold atomHs
        rw [List.map_append, List.map_append, low_ix hUp, ← atomS_none (hnew e.1 hni)]
        rfl
      rw [e2]
      exact O2
  | succ d ih =>
    intro k hd
    have hk : k < L.length := by omega
    have hk2 : k < (atomHs val up.length V L).length := by omega
    have hnm : (atomHs val up.length V L)[k].s = L[k] := by simp [atomHs]
    unfold s5l4
    rw [O.len (i := 0) rfl, List.length_map, hlen]
    refine ifT_pos (decide_eq_true (by omega)) ?_
    have nx := ih (k + 1) (by omega)
    have htk : inS (L.take (k + 1)) x.s = (inS (L.take k) x.s || decide (L[k] = x.s)) := by
      rw [List.take_succ_eq_append_getElem hk, Bool.eq_iff_iff, Bool.or_eq_true, inS_iff, inS_iff, List.mem_append, List.mem_singleton, decide_eq_true_eq, eq_comm (a := x.s)]
    rw [htk] at nx
    cases e : (x.k != 1 || inS (L.take k) x.s) with
    | true =>
      refine ifT_pos rfl ?_
      unfold s5c5
      rw [← Bool.or_assoc, e, Bool.true_or] at nx
      exact rg_of (by omega) (by omega) (s5l4_go nx)
    | false =>
      refine ifT_neg rfl (own_nm O (i := 0) rfl hk2 ?_)
      rw [hnm, tStr_str, hv.ix hil', hxe, addOff_lptr]
      show ld1 h (.lptr [.str x.s, .int .i64 x.l, .int .i64 x.r]) _
      rw [ld1_lptr, tStr_str, strEq_dec]
      unfold s5c5
      rw [← Bool.or_assoc, e, Bool.false_or] at nx
      exact rg_of (by omega) (by omega) (s5l4_go nx)
include A in
theorem forcesH_l2 (hr : h0 r = some (.row 1 [.agg [a]])) (hv : Nodes v xs) {j : Nat} (hj : j < xs.length) :
    ∀ (d i : Nat) (L : List ByteArray) (by_ : AVal) (h : Heap), i + d = xs.length → L.Nodup → L.length ≤ 549755813888 + i → (∀ s, (∃ u, u < up.length ∧ s ∈ val.getD u []) → s ∈ L) → (∀ (i' : Nat) (x : Nd), i' < i → xs[i']? = some x → x.k = 1 → x.s ∈ L) →
      Own h0 [.slc 2 by_ ((atomHs val up.length V L).map hyV)] h → s5l2 K (d + 1) v (j : Int) (.lptr [mU, mV]) t (.ptr r 0 0) sets by_ ((lowP V.length (at2 (leqT V)) : Nat) : Int) (i : Int) h
  | 0, i, L, by_, h, hd, hnd, hLl, hall, hin, O => by
    have hpos := ups_pos hUp
    have hlt : (leqT V).length = V.length := by simp [leqT]
    have alg := ups_alg hUp hpos hl
    unfold s5l2
    rw [hv.len]
    refine ifT_neg (decide_eq_false (by omega)) ?_
    rw [ldN1 (O.old _ _ hr), tCons_cons, tNil_nil]
    obtain ⟨v', lv, sv⟩ := O.lit (i := 0) rfl (S := nameOf by_) (fun n hn => hn) (Lits.refl _)
    have hin' : ∀ (i : Nat) (x : Nd), xs[i]? = some x → x.k = 1 → x.s ∈ L := fun i' x hx hk => hin i' x (by have := (List.getElem?_eq_some_iff.1 hx).1; omega) hx hk
    have hHy := atomHs_ok W hUp hl (L := L) hnd
    have hvf := val_frc W hUp (xs := xs) G hin' j hj
    have hvl := val_lt (n := V.length) (r := at2 (leqT V)) (xs := xs) hpos hHy.el j
    refine ⟨_, [.agg [a], t, .int .i64 (j : Int), v'], h0, .cons (.refl _) (.cons (.refl _) (.cons (.refl _) (.cons lv .nil))), Own.toBase O _ (fun n hn => O.new 0 _ n rfl hn), ?_⟩
    have hlen : (atomHs val up.length V L).length = L.length := by simp [atomHs]
    refine valueP_ok A P G hx sv (by rw [hlen]; omega) (j : Int) ?_
    rw [valV_yes alg (hasN_iff.2 (by omega)) ⟨by rw [hlt]; exact hHy, fun c _ x hx hk => by rw [nmS_atomHs]; exact hin' c x hx hk⟩, Int.toNat_natCast, hlt]
    rw [tTup_tuple, tCons_cons, tInt_int, tCons_cons, tInt_int, tNil_nil]
    refine ifT_neg rfl (ifT_neg (decide_eq_false (by omega)) ?_)
    rw [hsets.len, List.length_map, decide_eq_false (by omega)]
    unfold s5c6
    refine ifT_neg rfl (s5l7_in (up.length + 1) (forcesH_l7 HH hk S hU hV W hUp hsets P ht G hx hj hvl hvf up.length 0 .nilsl h0 (by omega) ((Own.start h0).newN 1)))
  | d + 1, i, L, by_, h, hd, hnd, hLl, hall, hin, O => by
    have hi : i < xs.length := by omega
    have hxi : xs[i]? = some xs[i] := List.getElem?_eq_getElem hi
    have IH := forcesH_l2 hr hv hj d (i + 1)
    unfold s5l2
    rw [hv.len]
    refine ifT_pos (decide_eq_true (by omega)) ?_
    rw [hv.ix hi, addOff_lptr]
    show ld1 h (.lptr (nodeC xs[i])) _
    unfold nodeC
    rw [ld1_lptr, tInt_int]
    generalize xs[i] = x at hxi
    refine s5l4_in (L.length + 1) ?_
    have e0 : (x.k != 1) = (x.k != 1 || inS (L.take 0) x.s) := by simp [inS]
    rw [e0]
    refine forcesH_l4 hUp hv hxi (by omega) O (fun _ hn u hu hm => hn (hall _ ⟨u, hu, hm⟩)) (fun hs => ?_) (fun hk1 hn by' h' O' => ?_) (by omega) L.length 0 (by omega)
    · refine s5l2_go (IH L by_ h (by omega) hnd (by omega) hall (fun i' y hi' hy hky => ?_) O)
      by_cases e : i' = i
      · subst e; rw [hxi] at hy; cases hy; exact hs hky
      · exact hin i' y (by omega) hy hky
    · refine s5l2_go (IH (L ++ [x.s]) by' h' (by omega) ?_ (by rw [List.length_append, List.length_singleton]; omega) (fun s hs => List.mem_append_left _ (hall s hs)) (fun i' y hi' hy hky => ?_) O')
      · rw [List.nodup_append]
        refine ⟨hnd, by simp, fun a ha b hb e => ?_⟩
        rw [List.mem_singleton.1 hb] at e
        exact hn (e ▸ ha)
      · rw [List.mem_append]
        by_cases e : i' = i
        · subst e; rw [hxi] at hy; cases hy; exact .inr (by simp)
        · exact .inl (hin i' y (by omega) hy hky)
end
/- ---- the law ---- -/
theorem forcesH_c1t (HH : Heads23) (hk : ∀ h', K (.bool true) h') {v t a l_ by_ : AVal} {id e f : Int} (he : e = f) : s5c1 K v id (.lptr [mU, mV]) t a l_ e by_ f true h := by
  unfold s5c1
  exact ifT_pos rfl (ifT_pos (by simpa using he) (headsRet HH hk))
theorem forcesH_ok (HH : Heads23) (hk : ∀ h', K (.bool true) h') (S : Small up val) (hU : Intss mU up) (hV : Strss mV val) {v : AVal} (hv : Nodes v xs) (hxs : xs.length ≤ 1048576) (hsz : ∀ x ∈ xs, x.s.size ≤ 1073741824) (id : Int) :
    ACalls prog 5 [.agg [mU, mV], v, .int .i64 id] h K := by
  refine s5_ok ?_
  unfold s5
  -- what comes where there is no algebra
  have err : ∀ (t d : AVal) (ok : Bool) (h1 : Heap), (ok = true → ∃ xs, DRd h1 d xs) → ∀ e : Int, (¬ WF up val ∧ e = 170) ∨ (WF up val ∧ Many up ∧ e = 231) →
      (Go.Sym.newRow 1 [(.agg [.nilsl])] h1 fun r h_2 => st false h_2 (.ptr r 0 0) [.nilsl] fun h_3 => callG prog 10 [(.agg [mU, mV])] h_3 fun v11 h_4 =>
        tTup v11 fun l_10 => tCons l_10 fun v12 l_11 => tCons l_11 fun v13 l_12 => tInt .i64 v13 fun v14 => tNil l_12 (
          ifT (!ok) (s5c1 K v id (.lptr [mU, mV]) t (.ptr r 0 0) .nilsl e v12 v14 true h_4) (
            callG prog 24 [d, (.int .i64 id)] h_4 fun v54 h_13 => tBool v54 fun v55 =>
            ifT (!v55) (s5c1 K v id (.lptr [mU, mV]) t (.ptr r 0 0) .nilsl e v12 v14 true h_13) (
              ifT (e != 0) (s5c1 K v id (.lptr [mU, mV]) t (.ptr r 0 0) .nilsl e v12 v14 true h_13) (
                s5c1 K v id (.lptr [mU, mV]) t (.ptr r 0 0) .nilsl e v12 v14 (v14 != 0) h_13))))) := by
    intro t d ok h1 hD e he
    refine newRow_in fun r hr => st_all (Heap.set_same _ _ _) rfl ?_
    rw [Heap.set_set]
    have fin : tTup (.tuple [.nilsl, .int .i64 e]) fun l_10 => tCons l_10 fun v12 l_11 => tCons l_11 fun v13 l_12 => tInt .i64 v13 fun v14 => tNil l_12 (
          ifT (!ok) (s5c1 K v id (.lptr [mU, mV]) t (.ptr r 0 0) .nilsl e v12 v14 true (h1.set r (.row 1 [.agg [.nilsl]]))) (
            callG prog 24 [d, (.int .i64 id)] (h1.set r (.row 1 [.agg [.nilsl]])) fun v54 h_13 => tBool v54 fun v55 =>
            ifT (!v55) (s5c1 K v id (.lptr [mU, mV]) t (.ptr r 0 0) .nilsl e v12 v14 true h_13) (
              ifT (e != 0) (s5c1 K v id (.lptr [mU, mV]) t (.ptr r 0 0) .nilsl e v12 v14 true h_13) (
                s5c1 K v id (.lptr [mU, mV]) t (.ptr r 0 0) .nilsl e v12 v14 (v14 != 0) h_13)))) := by
      rw [tTup_tuple, tCons_cons, tCons_cons, tInt_int, tNil_nil]
      cases ok with
      | false => exact ifT_pos rfl (forcesH_c1t HH hk rfl)
      | true =>
        obtain ⟨ys, D⟩ := hD rfl
        refine ifT_neg rfl (callG_of (hasT_ok (D.ext (Heap.set_sub hr)) id ?_))
        rw [tBool_bool]
        cases hasN ys.length id with
        | false => exact ifT_pos rfl (forcesH_c1t HH hk rfl)
        | true => exact ifT_neg rfl (ifT_pos (by rcases he with ⟨_, rfl⟩ | ⟨_, _, rfl⟩ <;> rfl) (forcesH_c1t HH hk rfl))
    refine callG_of (atomsH_ok S hU hV (fun hW => ?_) (fun hW hm => ?_) fun hW V hUp hl _ _ _ _ _ _ _ => ?_)
    · rcases he with ⟨_, rfl⟩ | ⟨h2, _, _⟩
      · exact fin
      · exact absurd h2 hW
    · rcases he with ⟨h2, _⟩ | ⟨_, _, rfl⟩
      · exact absurd hW h2
      · exact fin
    · rcases he with ⟨h2, _⟩ | ⟨_, h3, _⟩
      · exact absurd hW h2
      · exact absurd h3 (ups_few hUp hl)
  refine callG_of (both_ok hv hxs hsz (fun nok => ?_) fun ok hl' rt rd h1 W1 => ?_)
  · rw [tTup_tuple, tCons_cons, tCons_cons, tCons_cons, tBool_bool, tNil_nil]
    refine callG_of (upsP_ok S hU hV (fun hW => ?_) (fun hW hm => ?_) fun hW V hUp hl a sets hA hsets => ?_)
    · rw [tTup_tuple, tCons_cons, tCons_cons, tCons_cons, tInt_int, tNil_nil, tAgg_agg, tCons_cons, tNil_nil]
      exact err .nilptr .nilptr false h (fun e => by cases e) 170 (.inl ⟨hW, rfl⟩)
    · rw [tTup_tuple, tCons_cons, tCons_cons, tCons_cons, tInt_int, tNil_nil, tAgg_agg, tCons_cons, tNil_nil]
      exact err .nilptr .nilptr false h (fun e => by cases e) 231 (.inr ⟨hW, hm, rfl⟩)
    · rw [tTup_tuple, tCons_cons, tCons_cons, tCons_cons, tInt_int, tNil_nil, tAgg_agg, tCons_cons, tNil_nil]
      refine newRow_in fun r hr => st_all (Heap.set_same _ _ _) rfl ?_
      rw [Heap.set_set]
      refine callG_of (atomsH_ok S hU hV (fun hW2 => absurd hW hW2) (fun _ hm => absurd hm (ups_few hUp hl)) fun _ V' hUp' hl' N hN hNl hNs by_ h4 O => ?_)
      rw [tTup_tuple, tCons_cons, tCons_cons, tInt_int, tNil_nil]
      exact ifT_pos rfl (forcesH_c1t HH hk rfl)
  · rw [tTup_tuple, tCons_cons, tCons_cons, tCons_cons, tBool_bool, tNil_nil]
    obtain ⟨P, D⟩ := TT.reads W1
    have G := okTab_good ok
    refine callG_of (upsP_ok S hU hV (fun hW => ?_) (fun hW hm => ?_) fun hW V hUp hl a sets hA hsets => ?_)
    · rw [tTup_tuple, tCons_cons, tCons_cons, tCons_cons, tInt_int, tNil_nil, tAgg_agg, tCons_cons, tNil_nil]
      exact err _ _ true h1 (fun _ => ⟨xs, D⟩) 170 (.inl ⟨hW, rfl⟩)
    · rw [tTup_tuple, tCons_cons, tCons_cons, tCons_cons, tInt_int, tNil_nil, tAgg_agg, tCons_cons, tNil_nil]
      exact err _ _ true h1 (fun _ => ⟨xs, D⟩) 231 (.inr ⟨hW, hm, rfl⟩)
    · rw [tTup_tuple, tCons_cons, tCons_cons, tCons_cons, tInt_int, tNil_nil, tAgg_agg, tCons_cons, tNil_nil]
      refine newRow_in fun r hr => st_all (Heap.set_same _ _ _) rfl ?_
      rw [Heap.set_set]
      have hr3 := Heap.set_same h1 r (.row 1 [.agg [a]])
      have P3 := P.ext (h' := h1.set r (.row 1 [.agg [a]])) (Heap.set_sub hr)
      have D3 := D.ext (h' := h1.set r (.row 1 [.agg [a]])) (Heap.set_sub hr)
      generalize h1.set r (.row 1 [.agg [a]]) = h3 at hr3 P3 D3
      refine callG_of (atomsH_ok S hU hV (fun hW2 => absurd hW hW2) (fun _ hm => absurd hm (ups_few hUp hl)) fun _ V' hUp' hl2 N hN hNl hNs by_ h4 O => ?_)
      obtain rfl := ups_one hUp hUp'
      rw [tTup_tuple, tCons_cons, tCons_cons, tInt_int, tNil_nil]
      refine ifT_neg rfl (callG_of (hasT_ok (D3.ext O.old) id ?_))
      rw [tBool_bool]
      cases hh : hasN xs.length id with
      | false => exact ifT_pos rfl (forcesH_c1t HH hk rfl)
      | true =>
        obtain ⟨j, x, rfl, hx⟩ := hasN_get hh
        have hj := (List.getElem?_eq_some_iff.1 hx).1
        have hpos := ups_pos hUp
        have hlt : (leqT V).length = V.length := by simp [leqT]
        have A : AlgV a (leqT V) := ⟨hA, by omega, fun row hrow => by
          unfold leqT at hrow
          obtain ⟨y, _, rfl⟩ := List.mem_map.1 hrow
          rw [List.length_map]
          omega⟩
        have alg := ups_alg hUp hpos hl
        refine ifT_neg rfl (ifT_neg rfl ?_)
        unfold s5c1
        refine ifT_neg rfl ?_
        rw [ldN1 (O.old _ _ hr3), tCons_cons, tNil_nil]
        refine callG_of (boundsP_ok A (fun e => by rw [alg] at e; cases e) fun _ => ?_)
        rw [tTup_tuple, tCons_cons, tInt_int, tCons_cons, tInt_int, tCons_cons, tInt_int, tNil_nil, hlt]
        have hsl := (sortS_perm N)
        exact s5l2_in (xs.length + 1) (forcesH_l2 HH hk S hU hV hW hUp hl A hsets P3 rfl G hl' hr3 hv hj xs.length 0 (sortS N) by_ h4 (by omega) (hsl.nodup_iff.2 hN) (by rw [hsl.length_eq]; omega) (fun s hs => hsl.mem_iff.2 ((hNs s).2 hs)) (fun i' x hi' => by omega) O)
end Go.Proofs.YtljglglbfcgjpaaGreat

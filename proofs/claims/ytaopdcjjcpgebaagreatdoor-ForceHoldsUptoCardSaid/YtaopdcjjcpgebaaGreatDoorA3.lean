/- Plain: the up-sets of a frame as numbers; what is true in which up-set; tuples of up-sets, one after the other. No condition. Contracts: the up-sets of a frame, one by one (the program). No condition. Contracts: a copy of numbers. No condition. Contracts: the model whose atoms are true in some up-sets (the program). No condition. Printed by lay.py (this repo, wip/tools): where the library's functions stand in the given program. No condition. Contracts: the program's row of a table. No condition. Contracts: the program's Below: its answer. No condition. Printed by lay.py (this repo, wip/tools): where the library's functions stand in the given program. No condition. Contract: the library's sort of no names. No condition. Contracts: the program's Below and Atoms. No condition. Contracts: is a formula valid in a frame (the program)? No condition. Plain: what is forced in the small models of the chapter. No condition. Contracts: the same models. No condition. Contracts: what must come at any rate (heads). No condition. Contracts: is a name among some? names that rise (the document). No condition. Contracts: who is above whom (the document's order). No condition. Contracts: which models are well-formed (the document's look at one). No condition. -/
import Derived.Test.YtaopdcjjcpgebaaGreatDoorA1
import Derived.Test.YtaopdcjjcpgebaaGreatDoorA2
import Derived.Shelf.Sort.Plain
import Derived.Test.YtaopdcjjcpgebaaGreatDoorProg
import Derived.KernelRfl
import Derived.Test.YtaopdcjjcpgebaaGreatDoorM7
import Derived.Test.YtaopdcjjcpgebaaGreatDoorM5

set_option linter.unusedVariables false
set_option linter.unusedSimpArgs false

namespace Go.Proofs.YtaopdcjjcpgebaaGreatDoor
open Go Go.Sym Go.Proofs.Tryz
variable {up : List (List Int)} {val : List (List ByteArray)}
noncomputable def closedN (up : List (List Int)) (s : Nat) : Bool := (List.range up.length).all fun a => (List.range up.length).all fun b => !(s.testBit a && rb up a b) || s.testBit b
theorem closedN_iff {s : Nat} : closedN up s = true ↔ ∀ a b, a < up.length → b < up.length → s.testBit a = true → Reach up a b → s.testBit b = true := by
  unfold closedN
  simp only [List.all_eq_true, List.mem_range]
  constructor
  · intro h a b ha hb hs hr
    have := h a ha b hb
    rw [hs, rb_iff.2 hr] at this
    simpa using this
  · intro h a ha b hb
    cases hs : s.testBit a with
    | false => simp
    | true =>
      cases hr : rb up a b with
      | false => simp
      | true => simpa using h a b ha hb hs (rb_iff.1 hr)
noncomputable def upsN (up : List (List Int)) : List Nat := (List.range (2 ^ up.length)).filter (closedN up)
theorem upsN_pos : 0 < (upsN up).length := by
  have : 0 ∈ upsN up := by
    unfold upsN
    rw [List.mem_filter, List.mem_range]
    exact ⟨Nat.pos_of_ne_zero (by simp), closedN_iff.2 fun a b _ _ h => by simp at h⟩
  exact List.length_pos_of_mem this
theorem upsN_closed {i : Nat} (hi : i < (upsN up).length) : closedN up ((upsN up)[i]) = true := (List.mem_filter.1 (List.getElem_mem hi)).2
theorem upsN_lt {i : Nat} (hi : i < (upsN up).length) : (upsN up)[i] < 2 ^ up.length := List.mem_range.1 (List.mem_filter.1 (List.getElem_mem hi)).1
theorem upsN_le : (upsN up).length ≤ 2 ^ up.length := by
  have := List.length_filter_le (closedN up) (List.range (2 ^ up.length))
  simpa [upsN] using this
def rowO (names : List ByteArray) (on : Nat → Nat) (w : Nat) : List ByteArray := ((List.range names.length).filter fun i => (on i).testBit w).map fun i => names.getD i ByteArray.empty
def valO (W : Nat) (names : List ByteArray) (on : Nat → Nat) : List (List ByteArray) := (List.range W).map (rowO names on)
theorem valO_len {W : Nat} {names : List ByteArray} {on : Nat → Nat} : (valO W names on).length = W := by simp [valO]
theorem valO_get {W : Nat} {names : List ByteArray} {on : Nat → Nat} {w : Nat} (hw : w < W) : (valO W names on).getD w [] = rowO names on w := by
  simp [valO, List.getD_eq_getElem?_getD, hw]
theorem mem_rowO {names : List ByteArray} {on : Nat → Nat} {w : Nat} {s : ByteArray} : s ∈ rowO names on w ↔ ∃ i, ∃ h : i < names.length, (on i).testBit w = true ∧ names[i] = s := by
  unfold rowO
  simp only [List.mem_map, List.mem_filter, List.mem_range]
  constructor
  · rintro ⟨i, ⟨hi, hb⟩, rfl⟩
    exact ⟨i, hi, hb, by simp [List.getD_eq_getElem?_getD, hi]⟩
  · rintro ⟨i, hi, hb, rfl⟩
    exact ⟨i, ⟨hi, hb⟩, by simp [List.getD_eq_getElem?_getD, hi]⟩
theorem rowO_le {names : List ByteArray} {on : Nat → Nat} {w : Nat} : (rowO names on w).length ≤ names.length := by
  unfold rowO
  rw [List.length_map]
  have := List.length_filter_le (fun i => (on i).testBit w) (List.range names.length)
  simpa using this
theorem fine_of {l : List ByteArray} (hw : ∀ s ∈ l, wordB s = true) (hp : l.Pairwise fun a b => strLt a b = true) : fineB l = true := by
  unfold fineB
  rw [List.all_eq_true]
  intro i hi
  rw [List.mem_range'] at hi
  obtain ⟨k, hk, rfl⟩ := hi
  have hk' : k < l.length := by omega
  unfold fine1
  rw [show 0 + 1 * k = k by omega]
  simp only [Bool.and_eq_true, Bool.or_eq_true, beq_iff_eq]
  refine ⟨by rw [List.getD_eq_getElem?_getD, List.getElem?_eq_getElem hk']; exact hw _ (List.getElem_mem hk'), ?_⟩
  by_cases h0 : k = 0
  · exact .inl h0
  · right
    have := (List.pairwise_iff_getElem.1 hp) (k - 1) k (by omega) hk' (by omega)
    rw [List.getD_eq_getElem?_getD, List.getD_eq_getElem?_getD, List.getElem?_eq_getElem hk', List.getElem?_eq_getElem (show k - 1 < l.length by omega)]
    exact this
theorem fine_words {l : List ByteArray} (h : fineB l = true) : ∀ s ∈ l, wordB s = true := by
  intro s hs
  obtain ⟨i, hi, rfl⟩ := List.getElem_of_mem hs
  unfold fineB at h
  rw [List.all_eq_true] at h
  have := h i (by rw [List.mem_range']; exact ⟨i, hi, by omega⟩)
  unfold fine1 at this
  simp only [Bool.and_eq_true] at this
  have h2 := this.1
  rwa [List.getD_eq_getElem?_getD, List.getElem?_eq_getElem hi] at h2
theorem fine_rowO {names : List ByteArray} {on : Nat → Nat} {w : Nat} (h : fineB names = true) : fineB (rowO names on w) = true := by
  refine fine_of (fun s hs => ?_) ?_
  · obtain ⟨i, hi, _, rfl⟩ := mem_rowO.1 hs
    exact fine_words h _ (List.getElem_mem hi)
  · unfold rowO
    rw [List.pairwise_map]
    have hp := List.pairwise_iff_getElem.1 (fine_pair h)
    refine List.Pairwise.imp_of_mem (R := fun a b => a < b) (fun {a b} ha hb hlt => ?_) ((List.pairwise_lt_range (n := names.length)).filter _)
    have ha := List.mem_range.1 (List.mem_filter.1 ha).1
    have hb := List.mem_range.1 (List.mem_filter.1 hb).1
    simpa [List.getD_eq_getElem?_getD, ha, hb] using hp a b ha hb hlt
theorem WF_valO (W : WF up val) {names : List ByteArray} {on : Nat → Nat} (hn : fineB names = true) (hc : ∀ i, i < names.length → closedN up (on i) = true) : WF up (valO up.length names on) where
  pos := W.pos
  max := W.max
  len := valO_len
  inR := W.inR
  fine l hl := by
    simp only [valO, List.mem_map] at hl
    obtain ⟨w, _, rfl⟩ := hl
    exact fine_rowO hn
  cond a b ha hb := fun hr hne => by
    refine ⟨(W.cond a b ha hb hr hne).1, fun s hs => ?_⟩
    rw [valO_get ha] at hs
    rw [valO_get hb]
    obtain ⟨i, hi, h1, h2⟩ := mem_rowO.1 hs
    exact mem_rowO.2 ⟨i, hi, closedN_iff.1 (hc i hi) a b ha hb h1 hr, h2⟩
/- ---- tuples ---- -/
def dig (B n r i : Nat) : Nat := r / B ^ (n - 1 - i) % B
def firstP (p : Nat → Bool) (a m : Nat) : Option Nat := (List.range' a (m - a)).find? p
theorem firstP_none {p : Nat → Bool} {a m : Nat} : firstP p a m = none ↔ ∀ r, a ≤ r → r < m → p r = false := by
  unfold firstP
  rw [List.find?_eq_none]
  constructor
  · intro h r h1 h2
    have := h r (by rw [List.mem_range']; exact ⟨r - a, by omega, by omega⟩)
    simpa using this
  · intro h r hr
    rw [List.mem_range'] at hr
    obtain ⟨k, hk, rfl⟩ := hr
    rw [h _ (by omega) (by omega)]
    simp
theorem firstP_some {p : Nat → Bool} {a m r : Nat} : firstP p a m = some r ↔ a ≤ r ∧ r < m ∧ p r = true ∧ ∀ q, a ≤ q → q < r → p q = false := by
  unfold firstP
  constructor
  · intro h
    have hm := List.mem_of_find?_eq_some h
    rw [List.mem_range'] at hm
    obtain ⟨k, hk, rfl⟩ := hm
    refine ⟨by omega, by omega, List.find?_some h, fun q h1 h2 => ?_⟩
    rw [List.find?_eq_some_iff_getElem] at h
    obtain ⟨_, i, hi, hri, hall⟩ := h
    rw [List.getElem_range'] at hri
    have := hall (q - a) (by omega)
    rw [List.getElem_range', show a + 1 * (q - a) = q by omega] at this
    simpa using this
  · rintro ⟨h1, h2, h3, h4⟩
    rw [List.find?_eq_some_iff_getElem]
    refine ⟨h3, r - a, by simp; omega, by rw [List.getElem_range']; omega, fun j hj => ?_⟩
    rw [List.getElem_range', h4 _ (by omega) (by omega)]
    rfl
end Go.Proofs.YtaopdcjjcpgebaaGreatDoor

namespace Go.Proofs.YtaopdcjjcpgebaaGreatDoor
open Go Go.Sym Go.Proofs.Tryz
set_option maxRecDepth 100000
variable {K : AVal → Heap → Prop} {h h0 hb : Heap} {t mU mV : AVal} {up : List (List Int)} {val : List (List ByteArray)} {xs : List Nd}
theorem u_bit {s k : Nat} (hs : s < 18446744073709551616) (hk : k < 64) : (bitsI .and .u64 (Int.fdiv (s : Int) (2 ^ (min (Int.toNat (k : Int)) IntKind.u64.bits))) 1 == 1) = s.testBit k := by
  have e : (s : Int) = (((BitVec.ofNat 64 s).toNat : Nat) : Int) := by
    rw [BitVec.toNat_ofNat, Nat.mod_eq_of_lt hs]
  rw [e, w_shr _ hk, w_bit, BitVec.getLsbD_ofNat, decide_eq_true hk, Bool.true_and]
theorem u_bit0 {s k : Nat} (hs : s < 18446744073709551616) (hk : k < 64) : (bitsI .and .u64 (Int.fdiv (s : Int) (2 ^ (min (Int.toNat (k : Int)) IntKind.u64.bits))) 1 == 0) = !s.testBit k := by
  have e : (s : Int) = (((BitVec.ofNat 64 s).toNat : Nat) : Int) := by
    rw [BitVec.toNat_ofNat, Nat.mod_eq_of_lt hs]
  have h1 := u_bit hs hk
  rw [e, w_shr _ hk] at h1 ⊢
  rw [w_one, w_and] at h1 ⊢
  generalize hx : ((BitVec.ofNat 64 s >>> k) &&& 1#64) = x at h1 ⊢
  have hle : x.toNat ≤ 1 := by
    rw [← hx, BitVec.toNat_and]
    exact Nat.and_le_right
  rw [← h1, Bool.eq_iff_iff]
  simp only [Bool.not_eq_true', beq_iff_eq, beq_eq_false_iff_ne, ne_eq]
  have : (((1#64).toNat : Nat) : Int) = 1 := rfl
  omega
theorem filt_get {p : Nat → Bool} {m s : Nat} (hs : s < m) (hp : p s = true) : ((List.range m).filter p)[((List.range s).filter p).length]? = some s := by
  have e : List.range m = List.range s ++ s :: List.range' (s + 1) (m - (s + 1)) := by
    rw [List.range_eq_range', List.range_eq_range', show m = s + ((m - (s + 1)) + 1) by omega, ← List.range'_append_1, Nat.zero_add, List.range'_succ]
    congr 3
    omega
  rw [e, List.filter_append, List.getElem?_append_right (Nat.le_refl _), Nat.sub_self, List.filter_cons_of_pos hp, List.getElem?_cons_zero]
noncomputable def closedR (up : List (List Int)) (s : Nat) (w : Nat) : Bool := (aboveL up w).all fun v => !s.testBit w || s.testBit v
theorem closedN_rows {s : Nat} (hi : InR up) : (List.range up.length).all (closedR up s) = closedN up s := by
  rw [Bool.eq_iff_iff, closedN_iff, List.all_eq_true]
  unfold closedR
  simp only [List.mem_range, List.all_eq_true]
  constructor
  · intro hh a b ha hb hs hr
    have := hh a ha b ((mem_aboveL hi ha).2 hr)
    rw [hs] at this
    simpa using this
  · intro hh a ha b hm
    have hb : b < up.length := List.mem_range.1 (List.mem_filter.1 hm).1
    cases hs : s.testBit a with
    | false => rfl
    | true => rw [hh a b ha hb hs ((mem_aboveL hi ha).1 hm)]; rfl
section
variable {l : Nat} {y t1 : AVal} {m : Int}
theorem upsets_l3 {s w : Nat} {v : AVal} (L1 : s96l1_T) (L2 : s96l2_T) (hs : s < 32) (hn : up.length ≤ 5) (hw : w < up.length) (hv : Ints v (natI (aboveL up w))) {c0 : Bool}
    (rest : L2 y t1 (s : Int) (c0 && closedR up s w) m (s : Int) (ordLit up) (up.length : Int) ((w : Int) + 1) h) :
    ∀ d i : Nat, i + d = (aboveL up w).length → ∀ c, (c && ((aboveL up w).drop i).all fun v => !s.testBit w || s.testBit v) = (c0 && closedR up s w) →
      s96l3 K L1 L2 (d + 1) y t1 (s : Int) c (w : Int) m (s : Int) (ordLit up) (up.length : Int) (w : Int) v ((aboveL up w).length : Int) (i : Int) h
  | 0, i, hd, c, hc => by
    obtain rfl : i = (aboveL up w).length := by omega
    rw [List.drop_of_length_le (Nat.le_refl _), List.all_nil, Bool.and_true] at hc
    subst hc
    unfold s96l3
    exact ifT_neg (by simp) (rg_of (by omega) (by omega) rest)
  | d + 1, i, hd, c, hc => by
    have hi : i < (aboveL up w).length := by omega
    have hlen := above_len (up := up) (a := w)
    have hvl : (aboveL up w)[i] < up.length := List.mem_range.1 (List.mem_filter.1 (List.getElem_mem hi)).1
    rw [List.drop_eq_getElem_cons hi, List.all_cons] at hc
    unfold s96l3
    refine ifT_pos (decide_eq_true (by omega)) ?_
    rw [hv.ix (by simpa [natI] using hi), ld1_lptr, show (natI (aboveL up w))[i]'(by simpa [natI] using hi) = (((aboveL up w)[i] : Nat) : Int) by simp [natI], tInt_int]
    have next : ∀ c', (c' && ((aboveL up w).drop (i + 1)).all fun v => !s.testBit w || s.testBit v) = (c0 && closedR up s w) → s96c4 K L1 L2 (s96l3_G (s96l3 K L1 L2 (d + 1))) y t1 (s : Int) c' (w : Int) m (s : Int) (ordLit up) (up.length : Int) (w : Int) v ((aboveL up w).length : Int) (i : Int) h := fun c' hc' => by
      unfold s96c4
      exact rg_of (by omega) (by omega) (s96l3_go (upsets_l3 L1 L2 hs hn hw hv rest d (i + 1) (by omega) c' hc'))
    cases c with
    | false => exact ifT_neg rfl (next false (by simpa using hc))
    | true =>
      refine ifT_pos rfl ⟨by omega, ?_⟩
      rw [u_bit0 (by omega) (by omega)]
      cases hb : s.testBit w with
      | false => exact ifT_pos rfl (next true (by simpa [hb] using hc))
      | true =>
        refine ifT_neg rfl ⟨by omega, ?_⟩
        rw [u_bit (by omega) (by omega)]
        exact next _ (by simpa [hb] using hc)
theorem upsets_l2 {s : Nat} (L1 : s96l1_T) (hs : s < 32) (hn : up.length ≤ 5) (hi : InR up)
    (yes : closedN up s = true → callV prog y [.int .u64 (s : Int)] h fun v5 h_ => tBool v5 fun v6 => s96c5 K L1 y t1 m (s : Int) (!v6) h_)
    (no : closedN up s = false → s96c5 K L1 y t1 m (s : Int) false h) :
    ∀ d w : Nat, w + d = up.length → ∀ c, (c && (List.range' w d).all (closedR up s)) = closedN up s →
      s96l2 K L1 (d + 1) y t1 (s : Int) c m (s : Int) (ordLit up) (up.length : Int) (w : Int) h
  | 0, w, hd, c, hc => by
    obtain rfl : w = up.length := by omega
    rw [List.range'_zero, List.all_nil, Bool.and_true] at hc
    subst hc
    unfold s96l2
    refine ifT_neg (by simp) ?_
    cases hcl : closedN up s with
    | true => exact ifT_pos rfl (yes hcl)
    | false => exact ifT_neg rfl (no hcl)
  | d + 1, w, hd, c, hc => by
    have hw : w < up.length := by omega
    rw [List.range'_succ, List.all_cons, ← Bool.and_assoc] at hc
    unfold s96l2
    refine ifT_pos (decide_eq_true (by omega)) ?_
    obtain ⟨eo, heo, hio⟩ := (ordLit_rows (up := up)).ix (i := w) (by rw [ordUp_len]; exact hw)
    rw [ordUp_get hw] at heo
    rw [hio, ld1_lptr, heo.len, show (natI (aboveL up w)).length = (aboveL up w).length by simp [natI]]
    refine s96l3_in ((aboveL up w).length + 1) (upsets_l3 L1 _ hs hn hw heo (c0 := c) ?_ (aboveL up w).length 0 (by omega) c rfl)
    exact s96l2_go (upsets_l2 L1 hs hn hi yes no d (w + 1) (by omega) _ hc)
theorem upsets_it (hn : up.length ≤ 5) (hi : InR up) : IterOK 96 [] [.lptr [ordLit up]] ((upsN up).map fun s : Nat => [.int .u64 (s : Int)]) := by
  intro l h I X K hI round done stop
  refine s96_ok ?_
  unfold s96
  rw [ld1_lptr, (ordLit_rows (up := up)).len, ordUp_len]
  refine ⟨by omega, ?_⟩
  have hp : 2 ^ up.length ≤ 32 := Nat.le_trans (Nat.pow_le_pow_right (by omega) hn) (by decide)
  have e : IntKind.u64.wrap (1 * 2 ^ (min (Int.toNat (up.length : Int)) IntKind.u64.bits)) = ((2 ^ up.length : Nat) : Int) := by
    refine (w_shl 1#64 (k := up.length) (by omega)).trans ?_
    rw [BitVec.toNat_shiftLeft, Nat.shiftLeft_eq, Nat.mod_eq_of_lt (by have : (1#64).toNat = 1 := rfl; rw [this]; omega)]
    have : (1#64).toNat = 1 := rfl
    rw [this, Nat.one_mul]
  rw [e]
  have loop : ∀ d s : Nat, s + d = 2 ^ up.length → ∀ h, I ((List.range s).filter (closedN up)).length h → s96l1 K (d + 1) (.func (.yield l) [] []) (.lptr [ordLit up]) ((2 ^ up.length : Nat) : Int) (s : Int) h := by
    intro d
    induction d with
    | zero =>
      intro s hd h hI
      obtain rfl : s = 2 ^ up.length := by omega
      unfold s96l1
      exact ifT_neg (by simp) (retG_of (done _ _ (by simpa [upsN] using hI)))
    | succ d ih =>
      intro s hd h hI
      unfold s96l1
      refine ifT_pos (decide_eq_true (by omega)) ?_
      rw [ld1_lptr, (ordLit_rows (up := up)).len, ordUp_len]
      have hwr : IntKind.u64.wrap ((s : Int) + 1) = ((s + 1 : Nat) : Int) := by
        rw [show (s : Int) + 1 = ((s + 1 : Nat) : Int) by push_cast; rfl, w_wrap, Nat.mod_eq_of_lt (by omega)]
      refine s96l2_in (up.length + 1) (upsets_l2 _ (by omega) hn hi (fun hcl => ?_) (fun hcl => ?_) up.length 0 (by omega) true (by rw [Bool.true_and, ← List.range_eq_range']; exact closedN_rows hi))
      · have hg := filt_get (p := closedN up) (m := 2 ^ up.length) (s := s) (by omega) hcl
        have hg2 : ((upsN up).map fun s : Nat => [AVal.int .u64 (s : Int)])[((List.range s).filter (closedN up)).length]? = some [.int .u64 (s : Int)] := by
          rw [List.getElem?_map]
          unfold upsN
          rw [hg]
          rfl
        obtain ⟨hlt, hg3⟩ := List.getElem?_eq_some_iff.1 hg2
        have := round _ hlt h hI
        rw [hg3] at this
        refine ARound.mono this fun v h2 hv => ?_
        have hsucc := range_filter_succ (closedN up) s
        rcases hv with ⟨rfl, hI2⟩ | ⟨rfl, hX⟩
        · rw [tBool_bool]
          unfold s96c5
          refine ifT_neg rfl ?_
          rw [hwr]
          refine s96l1_go (ih (s + 1) (by omega) h2 ?_)
          rw [hsucc, hcl]
          simpa using hI2
        · rw [tBool_bool]
          unfold s96c5
          exact ifT_pos rfl (retG_of (stop _ _ hX))
      · unfold s96c5
        refine ifT_neg rfl ?_
        rw [hwr]
        refine s96l1_go (ih (s + 1) (by omega) h ?_)
        have hsucc := range_filter_succ (closedN up) s
        rw [hsucc, hcl]
        simpa using hI
  exact s96l1_in (2 ^ up.length + 1) (loop (2 ^ up.length) 0 (by omega) h hI)
end
end Go.Proofs.YtaopdcjjcpgebaaGreatDoor

namespace Go.Proofs.YtaopdcjjcpgebaaGreatDoor
open Go Go.Sym Go.Proofs.Tryz
variable {K : AVal → Heap → Prop} {h : Heap} {up : List (List Int)} {val : List (List ByteArray)} {mU mV : AVal}
theorem cloneI_ok {v : AVal} {l : List Int} (hv : Ints v l) (hm : l.length ≤ 1073741824) (hk : ∀ v', Ints v' l → K v' h) : ACalls prog 97 [v] h K := by
  refine s97_ok ?_
  unfold s97
  refine nilS_of hv (fun he hv' => ?_) fun hv' => ?_
  · exact ifT_pos rfl (retG_of (hk _ (by rw [hv'] at hv; exact hv)))
  · refine ifT_neg rfl (newRow_in fun r hr => appC_copy hr (elemsA_of hv) (by simp; omega) (by simp; omega) fun v' h' g => ?_)
    obtain ⟨S, v2, h1, h2, h3⟩ := g.freeze
    exact ⟨S, v2, h, h1, h3, hk v2 h2⟩
end Go.Proofs.YtaopdcjjcpgebaaGreatDoor

namespace Go.Proofs.YtaopdcjjcpgebaaGreatDoor
open Go Go.Sym Go.Proofs.Tryz
set_option maxRecDepth 100000
variable {K : AVal → Heap → Prop} {h h0 hb : Heap} {t mU mV : AVal} {up : List (List Int)} {val : List (List ByteArray)} {xs : List Nd}
def rowP (names : List ByteArray) (on : Nat → Nat) (w i : Nat) : List ByteArray := ((List.range i).filter fun i => (on i).testBit w).map fun i => names.getD i ByteArray.empty
theorem rowP_succ {names : List ByteArray} {on : Nat → Nat} {w i : Nat} (hi : i < names.length) : rowP names on w (i + 1) = rowP names on w i ++ (if (on i).testBit w then [names[i]] else []) := by
  unfold rowP
  rw [range_filter_succ (fun i => (on i).testBit w) i]
  cases (on i).testBit w with
  | true => simp [List.getD_eq_getElem?_getD, hi]
  | false => simp
theorem rowP_le {names : List ByteArray} {on : Nat → Nat} {w i : Nat} : (rowP names on w i).length ≤ i := by
  unfold rowP
  rw [List.length_map]
  have := List.length_filter_le (fun i => (on i).testBit w) (List.range i)
  simpa using this
section
variable {r r1 rv ron n : Nat} {a : AVal} {names : List ByteArray} {on : Nat → Nat} {onL : List AVal}
variable (ha : Strs a names) (hN : names.length ≤ 64) (hn : n ≤ 64) (hon : ∀ i, i < names.length → onL[i]? = some (.int .u64 (on i : Nat))) (hlt : ∀ i, i < names.length → on i < 18446744073709551616)
variable (hron : h0 ron = some (.row 1 onL))
include ha hN hn hon hlt hron
theorem valued_l2 {w : Nat} (hw : w < n) {vU : AVal} {LU done : List AVal} (hd' : done.length = w) {L1 : s62l1_T}
    (next : ∀ cur' h', Strs cur' (rowO names on w) → Own h0 [.cell r (.row 2 [.agg [.nilsl, .nilsl]]), .cell r1 (.row 2 [.agg [vU, .sl rv 1 0 n]]), .slc 1 vU LU, .slc 1 (.sl rv 1 0 n) (done ++ cur' :: List.replicate (n - w - 1) .nilsl)] h' → L1 a (.sl ron 1 0 names.length) (.ptr r 0 0) (.ptr r1 0 0) mU (n : Int) ((w : Int) + 1) h') :
    ∀ d i : Nat, i + d = names.length → ∀ cur h, Own h0 [.cell r (.row 2 [.agg [.nilsl, .nilsl]]), .cell r1 (.row 2 [.agg [vU, .sl rv 1 0 n]]), .slc 1 vU LU, .slc 1 (.sl rv 1 0 n) (done ++ cur :: List.replicate (n - w - 1) .nilsl), .slc 1 cur ((rowP names on w i).map .str)] h →
      s62l2 K (s62l1_G L1) (d + 1) a (.sl ron 1 0 names.length) (.ptr r 0 0) (.ptr r1 0 0) (w : Int) mU (n : Int) (w : Int) a (names.length : Int) (i : Int) h
  | 0, i, hd, cur, h, M => by
    obtain rfl : i = names.length := by omega
    unfold s62l2
    refine ifT_neg (by simp) (rg_of (by omega) (by omega) ?_)
    have hk : (done ++ cur :: List.replicate (n - w - 1) AVal.nilsl)[w]? = some cur := by
      rw [List.getElem?_append_right (by omega), hd', Nat.sub_self]; rfl
    obtain ⟨S, h', cur', s1, g, M2⟩ := Own.settleAt (os := [_, _, _, _]) (i := 3) M rfl hk
    refine ⟨S, _, h', Lits.refl _, g, rfl, next cur' h' s1 ?_⟩
    have e : (done ++ cur :: List.replicate (n - w - 1) AVal.nilsl).set w cur' = done ++ cur' :: List.replicate (n - w - 1) .nilsl := by
      rw [List.set_append_right _ _ (by omega), hd', Nat.sub_self]; rfl
    rw [e] at M2
    exact M2
  | d + 1, i, hd, cur, h, M => by
    have hi : i < names.length := by omega
    have hle := rowP_le (names := names) (on := on) (w := w) (i := i)
    unfold s62l2
    refine ifT_pos (decide_eq_true (by omega)) ?_
    rw [ha.ix hi, ld1_lptr, tStr_str]
    refine ixS_sl0 hi ?_
    rw [ld1_ptr (M.old _ _ hron) (hon i hi) rfl, tInt_int]
    refine ⟨by omega, ?_⟩
    rw [u_bit (hlt i hi) (by omega)]
    have hsucc := rowP_succ (on := on) (w := w) hi
    cases hb : (on i).testBit w with
    | false =>
      refine ifT_neg rfl ?_
      unfold s62c3
      refine rg_of (by omega) (by omega) (s62l2_go (valued_l2 hw hd' next d (i + 1) (by omega) cur h ?_))
      rw [hsucc, hb]
      simpa using M
    | true =>
      have hk : (done ++ cur :: List.replicate (n - w - 1) AVal.nilsl)[w]? = some cur := by
        rw [List.getElem?_append_right (by omega), hd', Nat.sub_self]; rfl
      have hcur := M.sc (i := 4) rfl
      have hln : (done ++ cur :: List.replicate (n - w - 1) AVal.nilsl).length = n := by simp; omega
      refine ifT_pos rfl ?_
      rw [addOff_ptr, ld1_fld (o := 0 + 1) (M.get 1 _ r1 rfl rfl) rfl, addOff_ptr, ld1_fld (o := 0 + 1) (M.get 1 _ r1 rfl rfl) rfl]
      refine ixS_sl0 hw ?_
      have rd : ∀ X : AVal → Prop, ld1 h (.ptr rv w 0) X = X cur := fun X => ld1_ptr (M.get 3 _ rv rfl rfl) hk hcur.2.2 X
      rw [rd]
      refine ⟨by rw [rd], by rw [ld1_fld (o := 0 + 1) (M.get 1 _ r1 rfl rfl) rfl], by rw [ld1_fld (o := 0 + 1) (M.get 1 _ r1 rfl rfl) rfl], ?_⟩
      have hlen : ((rowP names on w i).map AVal.str).length ≤ 64 := by rw [List.length_map]; omega
      refine M.app (i := 4) rfl (by omega) (by omega) fun v2 h2 M2 => ?_
      refine ⟨by rw [ld1_fld (o := 0 + 1) (M2.get 1 _ r1 rfl rfl) rfl], ixS_sl0 hw (chk_iff.2 ⟨(M2.sc (i := 4) rfl).1, ?_⟩)⟩
      refine st_elem (M2.get 3 _ rv rfl rfl) hk hcur.2.2 ?_
      unfold s62c3
      have M2 : Own h0 [.cell r (.row 2 [.agg [.nilsl, .nilsl]]), .cell r1 (.row 2 [.agg [vU, .sl rv 1 0 n]]), .slc 1 vU LU, .slc 1 (.sl rv 1 0 n) (done ++ cur :: List.replicate (n - w - 1) .nilsl), .slc 1 v2 ((rowP names on w i).map .str ++ [.str names[i]])] h2 := M2
      have e : (done ++ cur :: List.replicate (n - w - 1) AVal.nilsl).set w v2 = done ++ v2 :: List.replicate (n - w - 1) .nilsl := by
        rw [List.set_append_right _ _ (by omega), hd', Nat.sub_self]; rfl
      rw [e]
      refine rg_of (by omega) (by omega) (s62l2_go (valued_l2 hw hd' next d (i + 1) (by omega) v2 _ ?_))
      have hi3 : [Ow.cell r (.row 2 [.agg [.nilsl, .nilsl]]), .cell r1 (.row 2 [.agg [vU, .sl rv 1 0 n]]), .slc 1 vU LU, .slc 1 (.sl rv 1 0 n) (done ++ cur :: List.replicate (n - w - 1) .nilsl), .slc 1 v2 ((rowP names on w i).map .str ++ [.str names[i]])][3]? = some (.slc 1 (.sl rv 1 0 (done ++ cur :: List.replicate (n - w - 1) AVal.nilsl).length) (done ++ cur :: List.replicate (n - w - 1) .nilsl)) := by rw [hln]; rfl
      have M3 := M2.putS (i := 3) (r := rv) (es := 1) hi3 (l' := done ++ v2 :: List.replicate (n - w - 1) .nilsl) (by simp)
      rw [hln] at M3
      rw [hsucc, hb]
      simpa using M3
theorem valued_l1 (hU : Intss mU up) (S : Small up val) (hup : up.length = n) (good : ∀ u v, Intss u up → Strss v (valO n names on) → K (.agg [u, v]) h0) :
    ∀ d w : Nat, w + d = n → ∀ vU LU done h, All2 Ints LU (up.take w) → All2 Strs done ((List.range w).map (rowO names on)) →
      Own h0 [.cell r (.row 2 [.agg [.nilsl, .nilsl]]), .cell r1 (.row 2 [.agg [vU, .sl rv 1 0 n]]), .slc 1 vU LU, .slc 1 (.sl rv 1 0 n) (done ++ List.replicate (n - w) .nilsl)] h →
      s62l1 K (d + 1) a (.sl ron 1 0 names.length) (.ptr r 0 0) (.ptr r1 0 0) mU (n : Int) (w : Int) h
  | 0, w, hd, vU, LU, done, h, hLU, hdone, M => by
    obtain rfl : w = n := by omega
    unfold s62l1
    refine ifT_neg (by simp) ?_
    rw [ldN_fld (n := 2) (cs := [vU, .sl rv 1 0 w]) (M.get 1 _ r1 rfl rfl) rfl, tCons_cons, tCons_cons, tNil_nil]
    refine st_all (M.get 0 _ r rfl rfl) rfl ?_
    rw [ldN_fld (n := 2) (cs := [vU, .sl rv 1 0 w]) (Heap.set_same _ _ _) rfl, tCons_cons, tCons_cons, tNil_nil]
    have M2 := M.put (i := 0) rfl (.row 2 [.agg [vU, .sl rv 1 0 w]])
    rw [Nat.sub_self, List.replicate_zero, List.append_nil] at M2
    obtain ⟨u', l1, s1⟩ := M2.lit (i := 2) rfl (S := fun q => nameOf vU q ∨ nameOf (.sl rv 1 0 w) q) (fun _ h => .inl h) (Lits.refl _)
    obtain ⟨v', l2, s2⟩ := M2.lit (i := 3) rfl (S := fun q => nameOf vU q ∨ nameOf (.sl rv 1 0 w) q) (fun _ h => .inr h) (Lits.refl _)
    refine ⟨_, .agg [u', v'], h0, .agg (.cons l1 (.cons l2 .nil)), base_step M2 _ (fun q hq => ?_), good u' v' ⟨_, s1, ?_⟩ ⟨_, s2, hdone⟩⟩
    · rcases hq with hq | hq
      · exact M2.new 2 _ q rfl hq
      · exact M2.new 3 _ q rfl hq
    · rwa [← hup, List.take_of_length_le (Nat.le_refl _)] at hLU
  | d + 1, w, hd, vU, LU, done, h, hLU, hdone, M => by
    have hw : w < n := by omega
    have hwu : w < up.length := by omega
    have hlr := S.row _ (List.getElem_mem hwu)
    have hll : LU.length = w := by rw [hLU.length, List.length_take]; omega
    have hdl : done.length = w := by rw [hdone.length]; simp
    unfold s62l1
    refine ifT_pos (decide_eq_true (by omega)) ?_
    obtain ⟨e, he, hie⟩ := hU.ix hwu
    rw [hie, ld1_lptr, addOff_ptr, ld1_fld (o := 0 + 0) (M.get 1 _ r1 rfl rfl) rfl]
    refine callG_of (cloneI_ok he (by omega) fun v3 hv3 => ?_)
    refine ⟨by rw [ld1_fld (o := 0 + 0) (M.get 1 _ r1 rfl rfl) rfl], chk_iff.2 ⟨hv3.notAgg.2, ⟨by rw [ld1_fld (o := 0 + 0) (M.get 1 _ r1 rfl rfl) rfl], ?_⟩⟩⟩
    refine M.app (i := 2) rfl (by omega) (by omega) fun v6 h5 M2 => ?_
    rw [addOff_ptr]
    refine chk_iff.2 ⟨(M2.sc (i := 2) rfl).1, st_fld (o := 0 + 0) (M2.get 1 _ r1 rfl rfl) (by simp) ?_⟩
    have M3 := M2.put (i := 1) rfl (.row 2 [.agg [v6, .sl rv 1 0 n]])
    have erep : List.replicate (n - w) AVal.nilsl = .nilsl :: List.replicate (n - w - 1) .nilsl := by
      rw [show n - w = (n - w - 1) + 1 by omega, List.replicate_succ]; rfl
    rw [erep] at M3
    rw [ha.len]
    refine s62l2_in (names.length + 1) (valued_l2 (rv := rv) ha hN hn hon hlt hron hw hdl (vU := v6) (LU := LU ++ [v3]) (fun cur' h' hc M4 => ?_) names.length 0 (by omega) .nilsl _ ?_)
    · refine valued_l1 hU S hup good d (w + 1) (by omega) v6 (LU ++ [v3]) (done ++ [cur']) h' ?_ ?_ ?_
      · rw [List.take_succ_eq_append_getElem hwu]
        exact hLU.append (.cons hv3 .nil)
      · rw [List.range_succ, List.map_append]
        exact hdone.append (.cons hc .nil)
      · rw [List.append_assoc, List.singleton_append, show n - (w + 1) = n - w - 1 by omega]
        exact M4
    · exact M3.newN 1
end
theorem valued_ok {a : AVal} {names : List ByteArray} {on : Nat → Nat} {onL : List AVal} {ron : Nat} (ha : Strs a names) (hN : names.length ≤ 64) (hon : ∀ i, i < names.length → onL[i]? = some (.int .u64 (on i : Nat))) (hlt : ∀ i, i < names.length → on i < 18446744073709551616)
    (hron : h ron = some (.row 1 onL)) (hU : Intss mU up) (S : Small up val) (hn : up.length ≤ 64) (good : ∀ u v, Intss u up → Strss v (valO up.length names on) → K (.agg [u, v]) h) : ACalls prog 62 [.agg [mU, mV], a, .sl ron 1 0 names.length] h K := by
  refine s62_ok ?_
  unfold s62
  refine newRow_in fun r hr => ?_
  rw [hU.len]
  refine mkS_own (by omega) (by omega) fun rv hrv => chk_iff.2 ⟨rfl, newRow_in fun r1 hr1 => st_all (Heap.set_same _ _ _) rfl ?_⟩
  rw [Heap.set_set, hU.len]
  refine s62l1_in (up.length + 1) (valued_l1 (rv := rv) ha hN hn hon hlt hron hU S rfl good up.length 0 (by omega) .nilsl [] [] _ .nil .nil ?_)
  have M := ((Own.start h).newC hr (.row 2 [.agg [.nilsl, .nilsl]])).newS (es := 1) hrv (List.replicate up.length .nilsl)
  rw [List.length_replicate] at M
  have M2 := (M.newC hr1 (.row 2 [.agg [.nilsl, .sl rv 1 0 up.length]])).newN 1
  refine Own.renum M2 _ (fun j => if j = 0 then 0 else if j = 1 then 2 else if j = 2 then 3 else 1) (fun j y e => by
    match j, e with
    | 0, e => exact e
    | 1, e => exact e
    | 2, e => exact e
    | 3, e => exact e) (fun j hj k hk e => by
    simp only [List.length_cons, List.length_nil] at hj hk
    match j, k with
    | 0, 0 => rfl
    | 1, 1 => rfl
    | 2, 2 => rfl
    | 3, 3 => rfl
    | 0, 1 => simp at e
    | 0, 2 => simp at e
    | 0, 3 => simp at e
    | 1, 0 => simp at e
    | 1, 2 => simp at e
    | 1, 3 => simp at e
    | 2, 0 => simp at e
    | 2, 1 => simp at e
    | 2, 3 => simp at e
    | 3, 0 => simp at e
    | 3, 1 => simp at e
    | 3, 2 => simp at e)
end Go.Proofs.YtaopdcjjcpgebaaGreatDoor

namespace Go.Proofs.YtaopdcjjcpgebaaGreatDoor
open Go Go.Proofs Go.Shelf
def layI_ren : Ren := ⟨fun | 189 => 125 | 125 => 127 | 257 => 143 | 128 => 153 | 129 => 154 | 294 => 163 | 295 => 164 | 296 => 165 | 297 => 166 | 298 => 167 | 299 => 168 | 216 => 169 | 300 => 170 | 301 => 171 | 328 => 178 | 329 => 173 | 330 => 174 | 331 => 179 | 332 => 180 | 215 => 181 | 343 => 183 | n => n, fun | 28 => 50 | 3 => 3 | 46 => 125 | 0 => 0 | 51 => 214 | 53 => 27 | 4 => 4 | 183 => 207 | 182 => 206 | 131 => 150 | 5 => 5 | 9 => 9 | 218 => 230 | 222 => 234 | 228 => 239 | 229 => 185 | n => n, fun n => n⟩
set_option maxRecDepth 100000 in
theorem layI : Lays.n189 Tryz.prog layI_ren := {
  mixed := by kernel_rfl,
  f125 := Tryz.func127.trans (congrArg some (by kernel_rfl)),
  f128 := Tryz.func153.trans (congrArg some (by kernel_rfl)),
  f129 := Tryz.func154.trans (congrArg some (by kernel_rfl)),
  f189 := Tryz.func125.trans (congrArg some (by kernel_rfl)),
  f215 := Tryz.func181.trans (congrArg some (by kernel_rfl)),
  f216 := Tryz.func169.trans (congrArg some (by kernel_rfl)),
  f257 := Tryz.func143.trans (congrArg some (by kernel_rfl)),
  f294 := Tryz.func163.trans (congrArg some (by kernel_rfl)),
  f295 := Tryz.func164.trans (congrArg some (by kernel_rfl)),
  f296 := Tryz.func165.trans (congrArg some (by kernel_rfl)),
  f297 := Tryz.func166.trans (congrArg some (by kernel_rfl)),
  f298 := Tryz.func167.trans (congrArg some (by kernel_rfl)),
  f299 := Tryz.func168.trans (congrArg some (by kernel_rfl)),
  f300 := Tryz.func170.trans (congrArg some (by kernel_rfl)),
  f301 := Tryz.func171.trans (congrArg some (by kernel_rfl)),
  f328 := Tryz.func178.trans (congrArg some (by kernel_rfl)),
  f329 := Tryz.func173.trans (congrArg some (by kernel_rfl)),
  f330 := Tryz.func174.trans (congrArg some (by kernel_rfl)),
  f331 := Tryz.func179.trans (congrArg some (by kernel_rfl)),
  f332 := Tryz.func180.trans (congrArg some (by kernel_rfl)),
  f343 := Tryz.func183.trans (congrArg some (by kernel_rfl)),
  t0 := Tryz.underlying0,
  a0 := Tryz.isAgg0,
  z0 := Tryz.sizeOf0,
  v0 := Tryz.zeroValue0,
  t3 := Tryz.underlying3,
  a3 := Tryz.isAgg3,
  z3 := Tryz.sizeOf3,
  v3 := Tryz.zeroValue3,
  t4 := Tryz.underlying4,
  a4 := Tryz.isAgg4,
  z4 := Tryz.sizeOf4,
  v4 := Tryz.zeroValue4,
  t5 := Tryz.underlying5,
  a5 := Tryz.isAgg5,
  z5 := Tryz.sizeOf5,
  v5 := Tryz.zeroValue5,
  t9 := Tryz.underlying9,
  a9 := Tryz.isAgg9,
  z9 := Tryz.sizeOf9,
  v9 := Tryz.zeroValue9,
  t28 := Tryz.underlying50,
  a28 := Tryz.isAgg50,
  z28 := Tryz.sizeOf50,
  v28 := Tryz.zeroValue50,
  t46 := Tryz.underlying125,
  a46 := Tryz.isAgg125,
  z46 := Tryz.sizeOf125,
  v46 := Tryz.zeroValue125,
  t51 := Tryz.underlying214,
  a51 := Tryz.isAgg214,
  z51 := Tryz.sizeOf214,
  v51 := Tryz.zeroValue214,
  t53 := Tryz.underlying27,
  a53 := Tryz.isAgg27,
  z53 := Tryz.sizeOf27,
  v53 := Tryz.zeroValue27,
  t131 := Tryz.underlying150,
  a131 := Tryz.isAgg150,
  z131 := Tryz.sizeOf150,
  v131 := Tryz.zeroValue150,
  t182 := Tryz.underlying206,
  a182 := Tryz.isAgg206,
  z182 := Tryz.sizeOf206,
  v182 := Tryz.zeroValue206,
  t183 := Tryz.underlying207,
  a183 := Tryz.isAgg207,
  z183 := Tryz.sizeOf207,
  v183 := Tryz.zeroValue207,
  t218 := Tryz.underlying230,
  a218 := Tryz.isAgg230,
  z218 := Tryz.sizeOf230,
  v218 := Tryz.zeroValue230,
  t222 := Tryz.underlying234,
  a222 := Tryz.isAgg234,
  z222 := Tryz.sizeOf234,
  v222 := Tryz.zeroValue234,
  t228 := Tryz.underlying239,
  a228 := Tryz.isAgg239,
  z228 := Tryz.sizeOf239,
  v228 := Tryz.zeroValue239,
  t229 := Tryz.underlying185,
  a229 := Tryz.isAgg185,
  z229 := Tryz.sizeOf185,
  v229 := Tryz.zeroValue185 }
end Go.Proofs.YtaopdcjjcpgebaaGreatDoor

namespace Go.Proofs.YtaopdcjjcpgebaaGreatDoor
open Go Go.Sym Go.Proofs.Tryz
variable {K : AVal → Heap → Prop} {h h0 hb : Heap}
theorem rowP_ok {t : AVal} {xs : List Nd} (P : PRd h t xs) (hl : xs.length ≤ 1048576) (i : Int) (yes : ∀ (j : Nat) (x : Nd), i = (j : Int) → xs[j]? = some x → K (.tuple [nodeV x, .int .i64 0]) h) (no : hasN xs.length i = false → K (.tuple [nodeV ndZ, .int .i64 31]) h) :
    ACalls prog 93 [t, .int .i64 i] h K := by
  refine s93_ok ?_
  unfold s93
  refine newRow_in fun r hr => ?_
  have P2 := P.ext (h' := h.set r (.row 4 [nodeV ndZ])) (Heap.set_sub hr)
  refine callG_of (copyP_ok P2 hl fun r2 => ?_)
  rw [nilPp]
  have fin : ∀ (x : Nd) (e : Int) (r1 : Nat) (hr1 : (h.set r (.row 4 [nodeV ndZ])) r1 = none), K (.tuple [nodeV x, .int .i64 e]) h →
      ldN 4 ((h.set r (.row 4 [nodeV ndZ])).set r1 (.row 4 [nodeV x])) (.ptr r1 0 0) fun l_13 =>
          tCons l_13 fun v21 l_14 =>
          tInt .i64 v21 fun v22 =>
          tCons l_14 fun v23 l_15 =>
          tStr v23 fun v24 =>
          tCons l_15 fun v25 l_16 =>
          tInt .i64 v25 fun v26 =>
          tCons l_16 fun v27 l_17 =>
          tInt .i64 v27 fun v28 =>
          tNil l_17 (
            st false ((h.set r (.row 4 [nodeV ndZ])).set r1 (.row 4 [nodeV x])) (.ptr r 0 0) [(.int .i64 v22), (.str v24), (.int .i64 v26), (.int .i64 v28)] fun h_6 =>
            ldN 4 h_6 (.ptr r 0 0) fun l_18 =>
            tCons l_18 fun v29 l_19 =>
            tInt .i64 v29 fun v30 =>
            tCons l_19 fun v31 l_20 =>
            tStr v31 fun v32 =>
            tCons l_20 fun v33 l_21 =>
            tInt .i64 v33 fun v34 =>
            tCons l_21 fun v35 l_22 =>
            tInt .i64 v35 fun v36 =>
            tNil l_22 (
              retG (.tuple [(.agg [(.int .i64 v30), (.str v32), (.int .i64 v34), (.int .i64 v36)]), (.int .i64 e)]) h_6 K)) := by
    intro x e r1 hr1 hk
    rw [ldN_elem (n := 4) (i := 0) (cs := nodeC x) (Heap.set_same _ _ _) rfl rfl]
    rw [nodeC, tCons_cons, tInt_int, tCons_cons, tStr_str, tCons_cons, tInt_int, tCons_cons, tInt_int, tNil_nil]
    have hne : r ≠ r1 := fun e => by rw [← e, Heap.set_same] at hr1; cases hr1
    refine st4 (cs := nodeC ndZ) (by rw [Heap.set_ne _ _ hne, Heap.set_same]; rfl) rfl rfl ?_
    rw [ldN_elem (n := 4) (i := 0) (cs := nodeC x) (Heap.set_same _ _ _) rfl rfl]
    rw [nodeC, tCons_cons, tInt_int, tCons_cons, tStr_str, tCons_cons, tInt_int, tCons_cons, tInt_int, tNil_nil]
    refine retG_drop (fun q o hq => ?_) hk
    have h1 : q ≠ r := fun e => by rw [e, hr] at hq; cases hq
    have h2 : q ≠ r1 := fun e => by
      have := Heap.set_sub (o := .row 4 [nodeV ndZ]) hr q o hq
      rw [e, hr1] at this; cases this
    rw [Heap.set_ne _ _ h1, Heap.set_ne _ _ h2, Heap.set_ne _ _ h1]
    exact hq
  refine ifT_neg rfl (callG_of (nodeP_ok P2 i (fun j x hj hx => ?_) (fun hn => ?_)))
  · rw [tTup_tuple, tCons_cons, tCons_cons, tBool_bool, tNil_nil]
    unfold nodeV nodeC
    rw [tAgg_agg, tCons_cons, tInt_int, tCons_cons, tStr_str, tCons_cons, tInt_int, tCons_cons, tInt_int, tNil_nil]
    refine newRow_in fun r1 hr1 => st4 (Heap.set_same _ _ _) rfl rfl ?_
    rw [Heap.set_set]
    exact ifT_neg rfl (fin x 0 r1 hr1 (yes j x hj hx))
  · rw [tTup_tuple, tCons_cons, tCons_cons, tBool_bool, tNil_nil]
    unfold nodeV nodeC
    rw [tAgg_agg, tCons_cons, tInt_int, tCons_cons, tStr_str, tCons_cons, tInt_int, tCons_cons, tInt_int, tNil_nil]
    refine newRow_in fun r1 hr1 => st4 (Heap.set_same _ _ _) rfl rfl ?_
    rw [Heap.set_set]
    exact ifT_pos rfl (fin ndZ 31 r1 hr1 (no hn))
/- ---- which formulas one is made of ---- -/
end Go.Proofs.YtaopdcjjcpgebaaGreatDoor

namespace Go.Proofs.YtaopdcjjcpgebaaGreatDoor
open Go Go.Sym Go.Proofs.Tryz
variable {K : AVal → Heap → Prop} {h h0 hb : Heap}
theorem marks_erase (i : Nat) : ∀ (L : List Nat), (marks L).eraseIdx i = marks (L.eraseIdx i) := by
  intro L
  unfold marks
  rw [List.eraseIdx_eq_take_drop_succ, List.eraseIdx_eq_take_drop_succ, List.map_append, List.map_take, List.map_drop]
theorem erase_perm {i j : Nat} : ∀ {L : List Nat}, L[i]? = some j → (j :: L.eraseIdx i).Perm L := by
  induction i with
  | zero =>
    intro L h
    cases L with
    | nil => simp at h
    | cons a L => simp at h; subst h; exact .refl _
  | succ i ih =>
    intro L h
    cases L with
    | nil => simp at h
    | cons a L =>
      simp only [List.getElem?_cons_succ] at h
      simp only [List.eraseIdx_cons_succ]
      exact (List.Perm.swap a j _).trans ((ih h).cons a)
theorem below_end {os : List Ow} {l_ : AVal} {acc : List Nat} {i : Nat} (O : Own h0 os h) (hi : os[i]? = some (.slc 1 l_ ((natI acc).map (.int .i64)))) (hne : acc ≠ []) (hlen : acc.length ≤ 1048576) {l : List Nat} (hp : acc.Perm l) (hs : l.Pairwise (· ≤ ·))
    (yes : ∀ v, Ints v (natI l) → K (.tuple [v, .int .i64 0]) h0) :
    callG prog 125 [l_] h fun v15 h_11 => retG (.tuple [l_, (.int .i64 0)]) h_11 K := by
  rcases O.fit i _ hi with ⟨_, e⟩ | ⟨r, rfl⟩
  · have := List.map_eq_nil_iff.1 e
    unfold natI at this
    exact absurd (List.map_eq_nil_iff.1 this) hne
  · have hr := O.get i _ r hi rfl
    have hn : ((natI acc).map (AVal.int .i64)).length = (natI acc).length := List.length_map _
    have hn2 : (natI acc).length = acc.length := by simp [natI]
    have hpos : 0 < acc.length := List.length_pos_iff.2 hne
    rw [hn] at hi hr ⊢
    have hsort : sortI (natI acc) = natI l := sorted_unique ((sortI_perm _).trans (hp.map _)) (sortI_sorted _) (natI_sorted hs)
    refine callG_of (sortI_ok (ρ := layI_ren) layI (by kernel_rfl) (by omega) (by omega) hr ?_)
    rw [hsort]
    have hll : (natI l).length = (natI acc).length := by rw [← hsort]; exact List.length_mergeSort _
    have O2 := O.putS (i := i) (r := r) (es := 1) (l := (natI acc).map (.int .i64)) (by rw [hn]; exact hi) (l' := (natI l).map (.int .i64)) (by simp [hll])
    have hi2 : (os.set i (.slc 1 (.sl r 1 0 ((natI acc).map (AVal.int .i64)).length) ((natI l).map (.int .i64))))[i]? = some (.slc 1 (.sl r 1 0 ((natI acc).map (AVal.int .i64)).length) ((natI l).map (.int .i64))) := by
      rw [List.getElem?_set_self (List.getElem?_eq_some_iff.1 hi).1]
    obtain ⟨v', lv, sv⟩ := O2.lit hi2 (S := nameOf (.sl r 1 0 (natI acc).length)) (fun n hn => hn) (Lits.refl _)
    rw [hn] at lv
    exact ⟨_, .tuple [v', .int .i64 0], h0, .tuple (.cons lv (.cons (.refl _) .nil)), toBaseG O2 _ (fun n hn => O2.new i _ n hi2 hn), yes v' sv⟩
theorem extr {l : List AVal} {i : Nat} {x : AVal} (h : l[i]? = some x) (K : AVal → Prop) : extractA (.tuple l) i K = K x := by
  simp [extractA, h]
theorem below_l1 {r r1 r2 q : Nat} {o0 o1 o2 : AObj} {l : List Nat} (hs : l.Pairwise (· ≤ ·)) (hl : l.length ≤ 1048576) (hne : l ≠ []) (yes : ∀ v, Ints v (natI l) → K (.tuple [v, .int .i64 0]) h0) :
    ∀ (d : Nat) (left acc : List Nat) (l_ : AVal) (cur : Option (AVal × AVal)) (h : Heap), left.length = d → (acc ++ left).Perm l → Own h0 [.cell r o0, .cell r1 o1, .cell r2 o2, .cell q (.miter (marks left) cur), .slc 1 l_ ((natI acc).map (.int .i64))] h →
      s94l1 K (d + 1) l_ (.iter q) h
  | 0, left, acc, l_, cur, h, hd, hp, O => by
    obtain rfl := List.length_eq_zero_iff.1 hd
    rw [List.append_nil] at hp
    unfold s94l1
    unfold nextM
    simp only [O.get 3 _ q rfl rfl, Ow.obj, marks, List.map_nil]
    rw [extr rfl, tBool_bool]
    refine ifT_neg rfl (below_end O (i := 4) rfl (fun e => hne ?_) (by rw [hp.length_eq]; exact hl) hp hs yes)
    subst e
    exact List.Perm.eq_nil hp.symm
  | d + 1, left, acc, l_, cur, h, hd, hp, O => by
    have hlen : acc.length + left.length = l.length := by rw [← hp.length_eq, List.length_append]
    unfold s94l1
    unfold nextM
    have hq := O.get 3 _ q rfl rfl
    cases left with
    | nil => simp at hd
    | cons a left =>
      simp only [hq, Ow.obj, marks, List.map_cons]
      intro i kv hkv
      have hkv' : (marks (a :: left))[i]? = some kv := hkv
      unfold marks at hkv'
      rw [List.getElem?_map] at hkv'
      obtain ⟨j, hj, rfl⟩ := Option.map_eq_some_iff.1 hkv'
      have O1 := O.put (i := 3) rfl (.miter (marks ((a :: left).eraseIdx i)) (some (.int .i64 (j : Int), .int .i64 1)))
      rw [extr rfl, tBool_bool]
      refine ifT_pos rfl ?_
      have e0 : ((.int .i64 (a : Int), .int .i64 1) :: left.map fun (j : Nat) => (AVal.int .i64 (j : Int), AVal.int .i64 1)).eraseIdx i = marks ((a :: left).eraseIdx i) := marks_erase i (a :: left)
      rw [e0]
      unfold entryA
      have hq1 := O1.get 3 _ q rfl rfl
      simp only [Ow.obj] at hq1
      simp only [hq1]
      rw [extr rfl, tInt_int]
      refine O1.app (i := 4) rfl (by simp [natI]; omega) (by simp [natI]; omega) fun v2 h2 O2 => s94l1_go ?_
      have e2 : (natI (acc ++ [j])).map (AVal.int .i64) = (natI acc).map (.int .i64) ++ [.int .i64 (j : Int)] := by simp [natI]
      refine below_l1 (r := r) (r1 := r1) (r2 := r2) (q := q) (o0 := o0) (o1 := o1) (o2 := o2) hs hl hne yes d ((a :: left).eraseIdx i) (acc ++ [j]) v2 (some (.int .i64 (j : Int), .int .i64 1)) h2 ?_ ?_ ?_
      · rw [List.length_eraseIdx, if_pos (List.getElem?_eq_some_iff.1 hj).1]
        simp at hd ⊢
        omega
      · rw [List.append_assoc]
        exact ((erase_perm hj).append_left acc).trans hp
      · rw [e2]
        exact O2
theorem belowF_ok {t : AVal} {xs : List Nd} (P : PRd h t xs) (G : GoodT xs) (hl : xs.length ≤ 1024) (i : Int) (no : hasN xs.length i = false → K (.tuple [.nilsl, .int .i64 31]) h)
    (yes : ∀ j : Nat, i = (j : Int) → j < xs.length → ∀ v, Ints v (natI (subL xs j)) → K (.tuple [v, .int .i64 0]) h) : ACalls prog 94 [t, .int .i64 i] h K := by
  refine s94_ok ?_
  unfold s94
  have hsc : sc t = true := by
    obtain ⟨rt, vN, q, es, rfl, _⟩ := P
    rfl
  refine chk_iff.2 ⟨hsc, callG_of (aliveP_ok P ?_)⟩
  rw [tBool_bool]
  refine ifT_neg rfl (callG_of (hasP_ok P i ?_))
  rw [tBool_bool]
  cases e : hasN xs.length i with
  | false => exact ifT_pos rfl (retG_of (no e))
  | true =>
    obtain ⟨j, x, rfl, hx⟩ := hasN_get e
    have hj := (List.getElem?_eq_some_iff.1 hx).1
    refine ifT_neg rfl ?_
    intro r hr _
    have O0 := (Own.start h).newC hr (.map [])
    refine newRow_in fun r1 hr1 => ?_
    have O1 := O0.newC hr1 (.row 1 [.nilmap])
    refine st_elem (Heap.set_same _ _ _) rfl rfl ?_
    have O2 := O1.put (i := 1) rfl (.row 1 [.mapr r])
    refine newRow_in fun r2 hr2 => ?_
    have O3 := O2.newC hr2 (.row 1 [.nilfunc])
    refine st_elem (Heap.set_same _ _ _) rfl rfl ?_
    have O4 : DS h r r1 r2 t [] [] _ := O3.put (i := 2) rfl (.row 1 [.func (.func 124) [] [(.ptr r1 0 0), (.lptr [t]), (.ptr r2 0 0)]])
    refine Eq.mpr (ld1_one (O4.get 2 _ r2 rfl rfl) rfl _) ?_
    show callG prog 124 ([] ++ [.int .i64 (j : Int)] ++ [(.ptr r1 0 0), (.lptr [t]), (.ptr r2 0 0)]) _ _
    refine callG_of (down_ok P G j [] [] _ _ hj O4 fun L h7 _ hn hm hc O5 => ?_)
    rw [ld1_one (O5.get 1 _ r1 rfl rfl) rfl]
    unfold rangeM
    simp only [O5.get 0 _ r rfl rfl, Ow.obj]
    intro q hq _
    have hqr : q ≠ r := fun e => by rw [e, O5.get 0 _ r rfl rfl] at hq; cases hq
    have O6 := O5.put (i := 0) rfl (.fmap (marks L))
    have O7 := (O6.newC (r := q) (by rw [Heap.set_ne _ _ hqr]; exact hq) (.miter (marks L) none)).newN 1
    have hmem : ∀ c, c ∈ L ↔ c ∈ subL xs j := fun c => by
      rw [mem_subL G]
      constructor
      · exact fun h => (hc c h (by simp)).1
      · intro s
        have : ∀ a b, Sub xs a b → a ∈ L → b ∈ L := fun a b s => by
          induction s with
          | refl => exact fun h => h
          | step k _ ih => exact fun h => ih ((hc _ h (by simp)).2 _ k)
        exact this j c s hm
    have hperm : L.Perm (subL xs j) := (List.perm_ext_iff_of_nodup (hn List.nodup_nil) (subL_nodup xs j)).2 hmem
    have hlen : (subL xs j).length ≤ j + 1 := by
      unfold subL
      exact Nat.le_trans (List.length_filter_le _ _) (by simp)
    refine s94l1_in (L.length + 1) (below_l1 (subL_sorted xs j) (by omega) (fun e => ?_) (yes j rfl hj) L.length L [] .nilsl none _ rfl (by simpa using hperm) O7)
    have := (mem_subL G).2 (Sub.refl (xs := xs) j)
    rw [e] at this
    cases this
/- ---- atoms ---- -/
end Go.Proofs.YtaopdcjjcpgebaaGreatDoor

namespace Go.Proofs.YtaopdcjjcpgebaaGreatDoor
open Go Go.Proofs Go.Shelf
def layS_ren : Ren := ⟨fun | 190 => 95 | 125 => 127 | 258 => 126 | 128 => 153 | 129 => 154 | 302 => 144 | 303 => 145 | 304 => 146 | 305 => 147 | 306 => 148 | 307 => 149 | 308 => 150 | 309 => 151 | 310 => 152 | 333 => 172 | 329 => 173 | 330 => 174 | 334 => 175 | 335 => 176 | 336 => 177 | 344 => 182 | n => n, fun | 31 => 52 | 9 => 9 | 3 => 3 | 46 => 125 | 0 => 0 | 51 => 214 | 53 => 27 | 4 => 4 | 183 => 207 | 182 => 206 | 131 => 150 | 5 => 5 | 218 => 230 | 222 => 234 | 228 => 239 | 229 => 185 | n => n, fun n => n⟩
set_option maxRecDepth 100000 in
theorem layS : Lays.n190 Tryz.prog layS_ren := {
  mixed := by kernel_rfl,
  f125 := Tryz.func127.trans (congrArg some (by kernel_rfl)),
  f128 := Tryz.func153.trans (congrArg some (by kernel_rfl)),
  f129 := Tryz.func154.trans (congrArg some (by kernel_rfl)),
  f190 := Tryz.func95.trans (congrArg some (by kernel_rfl)),
  f258 := Tryz.func126.trans (congrArg some (by kernel_rfl)),
  f302 := Tryz.func144.trans (congrArg some (by kernel_rfl)),
  f303 := Tryz.func145.trans (congrArg some (by kernel_rfl)),
  f304 := Tryz.func146.trans (congrArg some (by kernel_rfl)),
  f305 := Tryz.func147.trans (congrArg some (by kernel_rfl)),
  f306 := Tryz.func148.trans (congrArg some (by kernel_rfl)),
  f307 := Tryz.func149.trans (congrArg some (by kernel_rfl)),
  f308 := Tryz.func150.trans (congrArg some (by kernel_rfl)),
  f309 := Tryz.func151.trans (congrArg some (by kernel_rfl)),
  f310 := Tryz.func152.trans (congrArg some (by kernel_rfl)),
  f329 := Tryz.func173.trans (congrArg some (by kernel_rfl)),
  f330 := Tryz.func174.trans (congrArg some (by kernel_rfl)),
  f333 := Tryz.func172.trans (congrArg some (by kernel_rfl)),
  f334 := Tryz.func175.trans (congrArg some (by kernel_rfl)),
  f335 := Tryz.func176.trans (congrArg some (by kernel_rfl)),
  f336 := Tryz.func177.trans (congrArg some (by kernel_rfl)),
  f344 := Tryz.func182.trans (congrArg some (by kernel_rfl)),
  t0 := Tryz.underlying0,
  a0 := Tryz.isAgg0,
  z0 := Tryz.sizeOf0,
  v0 := Tryz.zeroValue0,
  t3 := Tryz.underlying3,
  a3 := Tryz.isAgg3,
  z3 := Tryz.sizeOf3,
  v3 := Tryz.zeroValue3,
  t4 := Tryz.underlying4,
  a4 := Tryz.isAgg4,
  z4 := Tryz.sizeOf4,
  v4 := Tryz.zeroValue4,
  t5 := Tryz.underlying5,
  a5 := Tryz.isAgg5,
  z5 := Tryz.sizeOf5,
  v5 := Tryz.zeroValue5,
  t9 := Tryz.underlying9,
  a9 := Tryz.isAgg9,
  z9 := Tryz.sizeOf9,
  v9 := Tryz.zeroValue9,
  t31 := Tryz.underlying52,
  a31 := Tryz.isAgg52,
  z31 := Tryz.sizeOf52,
  v31 := Tryz.zeroValue52,
  t46 := Tryz.underlying125,
  a46 := Tryz.isAgg125,
  z46 := Tryz.sizeOf125,
  v46 := Tryz.zeroValue125,
  t51 := Tryz.underlying214,
  a51 := Tryz.isAgg214,
  z51 := Tryz.sizeOf214,
  v51 := Tryz.zeroValue214,
  t53 := Tryz.underlying27,
  a53 := Tryz.isAgg27,
  z53 := Tryz.sizeOf27,
  v53 := Tryz.zeroValue27,
  t131 := Tryz.underlying150,
  a131 := Tryz.isAgg150,
  z131 := Tryz.sizeOf150,
  v131 := Tryz.zeroValue150,
  t182 := Tryz.underlying206,
  a182 := Tryz.isAgg206,
  z182 := Tryz.sizeOf206,
  v182 := Tryz.zeroValue206,
  t183 := Tryz.underlying207,
  a183 := Tryz.isAgg207,
  z183 := Tryz.sizeOf207,
  v183 := Tryz.zeroValue207,
  t218 := Tryz.underlying230,
  a218 := Tryz.isAgg230,
  z218 := Tryz.sizeOf230,
  v218 := Tryz.zeroValue230,
  t222 := Tryz.underlying234,
  a222 := Tryz.isAgg234,
  z222 := Tryz.sizeOf234,
  v222 := Tryz.zeroValue234,
  t228 := Tryz.underlying239,
  a228 := Tryz.isAgg239,
  z228 := Tryz.sizeOf239,
  v228 := Tryz.zeroValue239,
  t229 := Tryz.underlying185,
  a229 := Tryz.isAgg185,
  z229 := Tryz.sizeOf185,
  v229 := Tryz.zeroValue185 }
end Go.Proofs.YtaopdcjjcpgebaaGreatDoor

namespace Go.Proofs.YtaopdcjjcpgebaaGreatDoor
open Go Go.Sym Go.Proofs.Tryz
variable {K : AVal → Heap → Prop} {h h0 hb : Heap}
theorem rg_bt0 {s : ByteArray} {i : Int} {X : Prop} (h : X) : rg (btA s i) X := by
  have := btA_range s i
  exact rg_of (by omega) (by omega) h
theorem rg_bt {s : ByteArray} {i : Int} {X : Prop} (h : X) : rg (0 + btA s i) X := by
  have := btA_range s i
  exact rg_of (by omega) (by omega) h
set_option maxRecDepth 100000 in
theorem sortNil_ok (hk : K (.tuple []) h) : ACalls prog 95 [.nilsl] h K := by
  refine s95_ok ?_
  unfold s95
  show callG prog _ [.int .u64 (IntKind.u64.wrap 0)] h _
  refine callG_of (s127_ok ?_)
  unfold s127
  refine callG_of (s154_ok ?_)
  unfold s154
  refine ifT_neg (by decide) ?_
  unfold s154c1
  refine ifT_neg (by decide) ?_
  unfold s154c2
  refine ifT_neg (by decide) ?_
  unfold s154c3
  refine ⟨⟨by decide, by decide +kernel⟩, ?_⟩
  refine rg_bt0 (rg_bt (retG_of ?_))
  rw [tInt_int]
  refine retG_of ?_
  rw [tInt_int]
  refine callG_of (s126_ok ?_)
  unfold s126
  refine s126l1_in 1 ?_
  unfold s126l1
  refine rg_of (by decide) (by decide) (ifT_pos (by decide) (callG_of (s144_ok ?_)))
  unfold s144
  refine rg_of (by decide) (by decide) (s144l1_in 1 ?_)
  unfold s144l1
  exact ifT_neg (by decide) (retG_of (retG_of (retG_of hk)))
theorem sortS_perm (l : List ByteArray) : (sortS l).Perm l := by
  unfold sortS
  have h1 := (List.mergeSort_perm (l.map bsL) fun x y => decide (x ≤ y)).map fun b : List UInt8 => (⟨b.toArray⟩ : ByteArray)
  refine h1.trans ?_
  rw [List.map_map]
  have : ((fun b : List UInt8 => (⟨b.toArray⟩ : ByteArray)) ∘ bsL) = id := by
    funext s
    cases s
    simp [bsL]
  rw [this, List.map_id]
end Go.Proofs.YtaopdcjjcpgebaaGreatDoor

namespace Go.Proofs.YtaopdcjjcpgebaaGreatDoor
open Go Go.Sym Go.Proofs.Tryz
variable {K : AVal → Heap → Prop} {h h0 hb : Heap}
def atomN (xs : List Nd) (i : Nat) : Option ByteArray := match xs[i]? with
  | some x => if x.k = 1 then some x.s else none
  | none => none
noncomputable def atomL (xs : List Nd) (j : Nat) : List ByteArray := (subL xs j).filterMap (atomN xs)
theorem atoms_l1 {t v : AVal} {xs : List Nd} {j : Nat} (P : PRd h0 t xs) (G : GoodT xs) (hl : xs.length ≤ 1024) (hj : j < xs.length) (hv : Ints v (natI (subL xs j))) (yes : ∀ w, Strs w (sortS (atomL xs j)) → K (.tuple [w, .int .i64 0]) h0) :
    ∀ (d i : Nat) (out : AVal) (h : Heap), i + d = (subL xs j).length → (((subL xs j).take i).filterMap (atomN xs) = [] → out = .nilsl) → Own h0 [.slc 1 out ((((subL xs j).take i).filterMap (atomN xs)).map .str)] h → s59l1 K (d + 1) t out v ((subL xs j).length : Int) (i : Int) h
  | 0, i, out, h, hd, hzn, O => by
    unfold s59l1
    refine ifT_neg (by simp; omega) ?_
    rw [List.take_of_length_le (by omega)] at O hzn
    have hlen : (atomL xs j).length ≤ 1024 := by
      have h1 : (subL xs j).length ≤ j + 1 := Nat.le_trans (List.length_filter_le _ _) (by simp)
      have h2 := List.length_filterMap_le (atomN xs) (subL xs j)
      unfold atomL
      omega
    rcases O.fit 0 _ rfl with ⟨rfl, e⟩ | ⟨r, rfl⟩
    · refine callG_of (sortNil_ok (retG_drop O.old (yes _ ?_)))
      unfold atomL
      rw [List.map_eq_nil_iff.1 e]
      have : sortS [] = [] := List.length_eq_zero_iff.1 (sortS_perm []).length_eq
      rw [this]
      exact .nil 1
    · by_cases hz : (atomL xs j).length = 0
      · have hz' : (subL xs j).filterMap (atomN xs) = [] := List.length_eq_zero_iff.1 hz
        exact absurd (hzn hz') (by simp)
      · have hr := O.get 0 _ r rfl rfl
        have hn : (((subL xs j).filterMap (atomN xs)).map AVal.str).length = ((subL xs j).filterMap (atomN xs)).length := List.length_map _
        rw [hn] at hr ⊢
        unfold atomL at hz hlen
        refine callG_of (sortS_ok (ρ := layS_ren) layS (by kernel_rfl) (by omega) (by omega) hr ?_)
        have O2 := O.putS (i := 0) (r := r) (es := 1) rfl (l' := (sortS ((subL xs j).filterMap (atomN xs))).map .str) (by simp [sortS])
        obtain ⟨v', lv, sv⟩ := O2.lit (i := 0) rfl (S := nameOf (.sl r 1 0 ((subL xs j).filterMap (atomN xs)).length)) (fun n hn => hn) (Lits.refl _)
        rw [hn] at lv
        exact ⟨_, .tuple [v', .int .i64 0], h0, .tuple (.cons lv (.cons (.refl _) .nil)), toBaseG O2 _ (fun n hn => O2.new 0 _ n rfl hn), yes v' sv⟩
  | d + 1, i, out, h, hd, hzn, O => by
    have hi : i < (subL xs j).length := by omega
    have hsub := (mem_subL G).1 (List.getElem_mem hi)
    have hle := hsub.le G
    have h1 : (subL xs j).length ≤ j + 1 := Nat.le_trans (List.length_filter_le _ _) (by simp)
    unfold s59l1
    refine ifT_pos (by simp; omega) ?_
    rw [hv.ix (i := i) (by simpa [natI] using hi), ld1_lptr, tInt_int]
    have hg : (natI (subL xs j))[i]'(by simpa [natI] using hi) = (((subL xs j)[i] : Nat) : Int) := by simp [natI]
    rw [hg]
    refine callG_of (nodeP_ok (P.ext O.old) _ (fun a x ha hx => ?_) (fun hno => ?_))
    · have ha : (subL xs j)[i] = a := by omega
      rw [tTup_tuple, tCons_cons, tCons_cons, tBool_bool, tNil_nil]
      unfold nodeV nodeC
      rw [tAgg_agg, tCons_cons, tInt_int, tCons_cons, tStr_str, tCons_cons, tInt_int, tCons_cons, tInt_int, tNil_nil]
      refine newRow_in fun r1 hr1 => st4 (Heap.set_same _ _ _) rfl rfl ?_
      rw [Heap.set_set, ld1_fld (o := 0) (Heap.set_same _ _ _) rfl, tInt_int]
      have e1 : (subL xs j).take (i + 1) = (subL xs j).take i ++ [(subL xs j)[i]] := List.take_succ_eq_append_getElem hi
      have O1 := Own.skip O hr1 (.row 4 [nodeV x])
      by_cases hk1 : x.k = 1
      · refine ifT_pos (by simpa using hk1) ?_
        rw [ld1_fld (o := 1) (Heap.set_same _ _ _) rfl, tStr_str]
        have hat : atomN xs (subL xs j)[i] = some x.s := by
          unfold atomN
          rw [ha, hx]
          exact if_pos hk1
        have h2 := List.length_filterMap_le (atomN xs) ((subL xs j).take i)
        rw [List.length_take] at h2
        refine O1.app (i := 0) rfl (by rw [List.length_map]; omega) (by rw [List.length_map]; omega) fun v2 h2 O2 => ?_
        unfold s59c2
        refine rg_of (by omega) (by omega) (s59l1_go (atoms_l1 P G hl hj hv yes d (i + 1) v2 h2 (by omega) (fun e => ?_) ?_))
        · rw [e1, List.filterMap_append] at e
          simp [hat] at e
        · rw [e1, List.filterMap_append, List.map_append]
          simp only [List.filterMap_cons, hat, List.filterMap_nil, List.map_cons, List.map_nil]
          exact O2
      · refine ifT_neg (by simpa using hk1) ?_
        have hat : atomN xs (subL xs j)[i] = none := by
          unfold atomN
          rw [ha, hx]
          exact if_neg hk1
        unfold s59c2
        refine rg_of (by omega) (by omega) (s59l1_go (atoms_l1 P G hl hj hv yes d (i + 1) out _ (by omega) (fun e => hzn ?_) ?_))
        · rw [e1, List.filterMap_append] at e
          simp only [List.filterMap_cons, hat, List.filterMap_nil, List.append_nil] at e
          exact e
        · rw [e1, List.filterMap_append]
          simp only [List.filterMap_cons, hat, List.filterMap_nil, List.append_nil]
          exact O1
    · have := hasN_iff.2 (show 0 ≤ (((subL xs j)[i] : Nat) : Int) ∧ (((subL xs j)[i] : Nat) : Int) < xs.length by omega)
      rw [hno] at this
      cases this
theorem atomsS_ok {t : AVal} {xs : List Nd} (P : PRd h t xs) (G : GoodT xs) (hl : xs.length ≤ 1024) (i : Int) (no : hasN xs.length i = false → K (.tuple [.nilsl, .int .i64 31]) h)
    (yes : ∀ j : Nat, i = (j : Int) → j < xs.length → ∀ w, Strs w (sortS (atomL xs j)) → K (.tuple [w, .int .i64 0]) h) : ACalls prog 59 [t, .int .i64 i] h K := by
  refine s59_ok ?_
  unfold s59
  refine callG_of (rowP_ok P (by omega) i (fun j x hj hx => ?_) (fun hn => ?_))
  · rw [tTup_tuple, tCons_cons, tCons_cons, tInt_int, tNil_nil]
    unfold nodeV nodeC
    rw [tAgg_agg, tCons_cons, tInt_int, tCons_cons, tStr_str, tCons_cons, tInt_int, tCons_cons, tInt_int, tNil_nil]
    refine newRow_in fun r1 hr1 => st4 (Heap.set_same _ _ _) rfl rfl ?_
    rw [Heap.set_set]
    have hjl := (List.getElem?_eq_some_iff.1 hx).1
    have O := Own.skip (Own.start h) hr1 (.row 4 [nodeV x])
    refine ifT_neg rfl (callG_of (belowF_ok (P.ext O.old) G hl i (fun hno => ?_) (fun j' hj' hjl' v hv => ?_)))
    · have := hasN_iff.2 (show 0 ≤ i ∧ i < (xs.length : Int) by omega)
      rw [hno] at this
      cases this
    · rw [tTup_tuple, tCons_cons, tCons_cons, tInt_int, tNil_nil, hv.len, show (natI (subL xs j')).length = (subL xs j').length by simp [natI]]
      refine s59l1_in ((subL xs j').length + 1) (atoms_l1 P G hl hjl' hv (yes j' hj' hjl') _ 0 .nilsl _ (by omega) (fun _ => rfl) ?_)
      exact O.newN 1
  · rw [tTup_tuple, tCons_cons, tCons_cons, tInt_int, tNil_nil]
    unfold nodeV nodeC
    rw [tAgg_agg, tCons_cons, tInt_int, tCons_cons, tStr_str, tCons_cons, tInt_int, tCons_cons, tInt_int, tNil_nil]
    refine newRow_in fun r1 hr1 => st4 (Heap.set_same _ _ _) rfl rfl ?_
    rw [Heap.set_set]
    exact ifT_pos rfl (retG_drop (Heap.set_sub hr1) (no hn))
end Go.Proofs.YtaopdcjjcpgebaaGreatDoor

namespace Go.Proofs.YtaopdcjjcpgebaaGreatDoor
open Go Go.Sym Go.Proofs.Tryz
set_option maxRecDepth 100000
variable {K : AVal → Heap → Prop} {h h0 hb : Heap} {t mU mV : AVal} {up : List (List Int)} {val : List (List ByteArray)} {xs : List Nd}
noncomputable def onN (up : List (List Int)) (n r i : Nat) : Nat := (upsN up).getD (dig (upsN up).length n r i) 0
noncomputable def modelN (up : List (List Int)) (names : List ByteArray) (r : Nat) : List (List ByteArray) := valO up.length names (onN up names.length r)
noncomputable def badN (up : List (List Int)) (names : List ByteArray) (xs : List Nd) (id : Int) (r : Nat) : Bool := !(validR up (modelN up names r) xs id).1
open Classical in
noncomputable def frameR (up : List (List Int)) (val : List (List ByteArray)) (xs : List Nd) (id : Int) : Bool × Option (List (List ByteArray)) × Int :=
  if ¬ WF up val then (false, none, 170) else if hasN xs.length id = false then (false, none, 31) else
  if 5 < up.length ∨ 3 < (sortS (atomL xs id.toNat)).length then (false, none, 2) else
  match firstP (badN up (sortS (atomL xs id.toNat)) xs id) 0 ((upsN up).length ^ (sortS (atomL xs id.toNat)).length) with
  | some r => (false, some (modelN up (sortS (atomL xs id.toNat)) r), 0)
  | none => (true, none, 0)
def ModV (up : List (List Int)) (u v : AVal) : Option (List (List ByteArray)) → Prop
  | some vl => Intss u up ∧ Strss v vl
  | none => u = .nilsl ∧ v = .nilsl
theorem firstP_cut {p : Nat → Bool} {a b c : Nat} (h1 : a ≤ b) (h2 : b ≤ c) (hn : firstP p a b = none) : firstP p a c = firstP p b c := by
  rw [firstP_none] at hn
  cases e : firstP p b c with
  | none =>
    rw [firstP_none] at e ⊢
    intro r h3 h4
    by_cases h5 : r < b
    · exact hn r h3 h5
    · exact e r (by omega) h4
  | some r =>
    rw [firstP_some] at e ⊢
    refine ⟨by omega, e.2.1, e.2.2.1, fun q h3 h4 => ?_⟩
    by_cases h5 : q < b
    · exact hn q h3 h5
    · exact e.2.2.2 q (by omega) h4
theorem firstP_more {p : Nat → Bool} {a b c r : Nat} (h2 : b ≤ c) (hn : firstP p a b = some r) : firstP p a c = some r := by
  rw [firstP_some] at hn ⊢
  exact ⟨hn.1, by omega, hn.2.2.1, hn.2.2.2⟩
theorem firstP_one {p : Nat → Bool} {a : Nat} : firstP p a (a + 1) = if p a then some a else none := by
  cases e : p a with
  | true =>
    rw [if_pos rfl, firstP_some]
    exact ⟨Nat.le_refl _, by omega, e, fun q h1 h2 => by omega⟩
  | false =>
    rw [if_neg (by simp), firstP_none]
    intro r h1 h2
    rw [show r = a by omega, e]
theorem dig_last {B i q s : Nat} (hs : s < B) : dig B (i + 1) (q * B + s) i = s := by
  unfold dig
  rw [show i + 1 - 1 - i = 0 by omega, Nat.pow_zero, Nat.div_one, Nat.mul_comm, Nat.mul_add_mod, Nat.mod_eq_of_lt hs]
theorem dig_ahead {B i q s j : Nat} (hs : s < B) (hj : j < i) : dig B (i + 1) (q * B + s) j = dig B i q j := by
  unfold dig
  rw [show i + 1 - 1 - j = (i - 1 - j) + 1 by omega, Nat.pow_succ, Nat.mul_comm (B ^ (i - 1 - j)) B, ← Nat.div_div_eq_div_mul, Nat.mul_comm q B, Nat.mul_add_div (by omega), Nat.div_eq_of_lt hs, Nat.add_zero]
theorem slAgg {es : Nat} {v : AVal} {l : List AVal} (hv : SlOf es v l) : v.isAgg = false := by rcases hv with rfl | ⟨rfl, _⟩ <;> rfl
section
variable {r1 r2 r3 r4 r5 ron : Nat} {vA vS : AVal} {names : List ByteArray} {id : Int}
abbrev turnC (r1 r2 r3 r4 r5 : Nat) (mU mV t : AVal) (id : Int) : List AVal := [.ptr r1 0 0, .ptr r2 0 0, .ptr r3 0 0, .ptr r5 0 0, .lptr [mU, mV], .ptr r4 0 0, .lptr [t], .lptr [.int .i64 id]]
abbrev turnF (r1 r2 r3 r4 r5 : Nat) (mU mV t : AVal) (id : Int) : AVal := .func (.func 61) [] (turnC r1 r2 r3 r4 r5 mU mV t id)
structure TurnB (hb : Heap) (r1 r2 r3 r4 r5 ron : Nat) (vA vS mU mV t : AVal) (id : Int) (n : Nat) : Prop where
  a : hb r1 = some (.row 1 [vA])
  s : hb r2 = some (.row 1 [vS])
  o : hb r3 = some (.row 1 [.sl ron 1 0 n])
  f : hb r5 = some (.row 1 [turnF r1 r2 r3 r4 r5 mU mV t id])
def uL (l : List Nat) : List AVal := l.map fun n : Nat => .int .u64 (n : Int)
theorem uL_len {l : List Nat} : (uL l).length = l.length := by simp [uL]
abbrev TurnM (hb : Heap) (ron r4 n : Nat) (onL : List Nat) (bu bv : AVal) (h : Heap) : Prop := Own hb [.slc 1 (.sl ron 1 0 n) (uL onL), .cell r4 (.row 2 [.agg [bu, bv]])] h
def onOK (up : List (List Int)) (i q : Nat) (onL : List Nat) : Prop := ∀ j, j < i → onL[j]? = some ((upsN up).getD (dig (upsN up).length i q j) 0)
variable (P : PRd hb t xs) (G : GoodT xs) (hx : xs.length ≤ 1024) (ht : sc t = true) (hU : Intss mU up) (hA : Strs vA names) (hS : SlOf 1 vS ((upsN up).map fun s : Nat => .int .u64 (s : Int))) (hSm : ∀ on, Small up (valO up.length names on))
  (hn5 : up.length ≤ 5) (hn3 : names.length ≤ 3) (B : TurnB hb r1 r2 r3 r4 r5 ron vA vS mU mV t id names.length)
include P G hx ht hU hA hS hSm hn5 hn3 B
omit P G hx ht hU hA hSm in
theorem turn_l1 {d i q : Nat} (hd : i + (d + 1) = names.length)
    (ih : ∀ q onL bu bv h (K : AVal → Heap → Prop), onL.length = names.length → onOK up (i + 1) q onL → TurnM hb ron r4 names.length onL bu bv h →
      (∀ onL' bu' bv' h', onL'.length = names.length → onOK up (i + 1) q onL' → (∀ r, firstP (badN up names xs id) (q * (upsN up).length ^ d) ((q + 1) * (upsN up).length ^ d) = some r → Intss bu' up ∧ Strss bv' (modelN up names r)) →
        TurnM hb ron r4 names.length onL' bu' bv' h' → K (.bool (firstP (badN up names xs id) (q * (upsN up).length ^ d) ((q + 1) * (upsN up).length ^ d)).isSome) h') →
      ACalls prog 61 (.int .i64 ((i + 1 : Nat) : Int) :: turnC r1 r2 r3 r4 r5 mU mV t id) h K)
    (hk : ∀ onL' bu' bv' h', onL'.length = names.length → onOK up i q onL' → (∀ r, firstP (badN up names xs id) (q * (upsN up).length ^ (d + 1)) ((q + 1) * (upsN up).length ^ (d + 1)) = some r → Intss bu' up ∧ Strss bv' (modelN up names r)) →
        TurnM hb ron r4 names.length onL' bu' bv' h' → K (.bool (firstP (badN up names xs id) (q * (upsN up).length ^ (d + 1)) ((q + 1) * (upsN up).length ^ (d + 1))).isSome) h') :
    ∀ e s : Nat, s + e = (upsN up).length → firstP (badN up names xs id) (q * (upsN up).length ^ (d + 1)) ((q * (upsN up).length + s) * (upsN up).length ^ d) = none → ∀ onL bu bv h, onL.length = names.length → onOK up i q onL → TurnM hb ron r4 names.length onL bu bv h →
      s61l1 K (e + 1) (i : Int) (.ptr r3 0 0) (.ptr r5 0 0) vS ((upsN up).length : Int) (s : Int) h
  | 0, s, he, hnone, onL, bu, bv, h, hol, hoo, M => by
    obtain rfl : s = (upsN up).length := by omega
    have e1 : (q + 1) * (upsN up).length ^ (d + 1) = (q * (upsN up).length + (upsN up).length) * (upsN up).length ^ d := by
      rw [Nat.pow_succ, Nat.mul_comm ((upsN up).length ^ d), ← Nat.mul_assoc, Nat.add_mul, Nat.one_mul]
    rw [e1, hnone] at hk
    unfold s61l1
    exact ifT_neg (by simp) (retG_of (hk onL bu bv h hol hoo (fun r hr => by cases hr) M))
  | e + 1, s, he, hnone, onL, bu, bv, h, hol, hoo, M => by
    have hs : s < (upsN up).length := by omega
    have hul := upsN_le (up := up)
    have hp : 2 ^ up.length ≤ 32 := Nat.le_trans (Nat.pow_le_pow_right (by omega) hn5) (by decide)
    have hin : i < names.length := by omega
    have e1 : (q + 1) * (upsN up).length ^ (d + 1) = (q * (upsN up).length + (upsN up).length) * (upsN up).length ^ d := by
      rw [Nat.pow_succ, Nat.mul_comm ((upsN up).length ^ d), ← Nat.mul_assoc, Nat.add_mul, Nat.one_mul]
    have e0 : q * (upsN up).length ^ (d + 1) = (q * (upsN up).length) * (upsN up).length ^ d := by
      rw [Nat.pow_succ, Nat.mul_comm ((upsN up).length ^ d), ← Nat.mul_assoc]
    have m1 : q * (upsN up).length ^ (d + 1) ≤ (q * (upsN up).length + s) * (upsN up).length ^ d := by rw [e0]; exact Nat.mul_le_mul_right _ (by omega)
    have m2 : (q * (upsN up).length + s) * (upsN up).length ^ d ≤ (q * (upsN up).length + s + 1) * (upsN up).length ^ d := Nat.mul_le_mul_right _ (by omega)
    have m3 : (q * (upsN up).length + s + 1) * (upsN up).length ^ d ≤ (q + 1) * (upsN up).length ^ (d + 1) := by rw [e1]; exact Nat.mul_le_mul_right _ (by omega)
    unfold s61l1
    refine ifT_pos (decide_eq_true (by omega)) ?_
    rw [ixS_nat hS (e := .int .u64 (((upsN up)[s] : Nat) : Int)) (by simp [hs])]
    show ld1 h (.lptr [AVal.int .u64 (((upsN up)[s] : Nat) : Int)]) _
    rw [ld1_lptr, tInt_int, ld1_one (M.old _ _ B.o) rfl]
    refine ixS_sl0 hin ?_
    have hget := M.get 0 _ ron rfl rfl
    have hx1 : (uL onL)[i]? = some (.int .u64 ((onL[i] : Nat) : Int)) := by simp [uL, hol, hin]
    refine st_elem hget hx1 rfl ?_
    have hi0 : [Ow.slc 1 (.sl ron 1 0 names.length) (uL onL), .cell r4 (.row 2 [.agg [bu, bv]])][0]? = some (.slc 1 (.sl ron 1 0 (uL onL).length) (uL onL)) := by rw [uL_len, hol]; rfl
    have hset : (uL onL).set i (.int .u64 (((upsN up)[s] : Nat) : Int)) = uL (onL.set i (upsN up)[s]) := by unfold uL; rw [List.map_set]
    rw [hset]
    have M2 : TurnM hb ron r4 names.length (onL.set i (upsN up)[s]) bu bv (h.set ron (.row 1 (uL (onL.set i (upsN up)[s])))) := by
      have := M.putS hi0 (l' := uL (onL.set i (upsN up)[s])) (by simp [uL_len])
      rw [uL_len, hol] at this
      exact this
    generalize h.set ron (.row 1 (uL (onL.set i (upsN up)[s]))) = h1 at M2 ⊢
    rw [ld1_one (M2.old _ _ B.f) rfl]
    refine rg_of (by omega) (by omega) ?_
    show callG prog 61 ([] ++ [.int .i64 ((i : Int) + 1)] ++ turnC r1 r2 r3 r4 r5 mU mV t id) _ _
    refine callG_of (ih (q * (upsN up).length + s) _ bu bv h1 _ (by simp [hol]) (fun j hj => ?_) M2 fun onL' bu' bv' h' hol' hoo' hb' M3 => ?_)
    · by_cases hji : j = i
      · subst hji
        rw [List.getElem?_set_self (by omega), dig_last hs, List.getD_eq_getElem?_getD, List.getElem?_eq_getElem hs]
        rfl
      · rw [List.getElem?_set_ne (by omega), hoo j (by omega), dig_ahead hs (by omega)]
    · have hoo2 : onOK up i q onL' := fun j hj => by rw [hoo' j (by omega), dig_ahead hs (by omega)]
      rw [tBool_bool]
      cases ef : firstP (badN up names xs id) ((q * (upsN up).length + s) * (upsN up).length ^ d) ((q * (upsN up).length + s + 1) * (upsN up).length ^ d) with
      | some r =>
        refine ifT_pos rfl ?_
        have ew : firstP (badN up names xs id) (q * (upsN up).length ^ (d + 1)) ((q + 1) * (upsN up).length ^ (d + 1)) = some r := by
          rw [firstP_cut m1 (Nat.le_trans m2 m3) hnone]
          exact firstP_more m3 ef
        rw [ew] at hk
        exact retG_of (hk onL' bu' bv' h' hol' hoo2 (fun r' hr' => by cases hr'; exact hb' r ef) M3)
      | none =>
        refine ifT_neg rfl (rg_of (by omega) (by omega) (s61l1_go ?_))
        refine turn_l1 hd ih hk e (s + 1) (by omega) ?_ onL' bu' bv' h' hol' hoo2 M3
        rw [← Nat.add_assoc, firstP_cut m1 m2 hnone]
        exact ef
theorem turn_ok : ∀ d i q, i + d = names.length → ∀ onL bu bv h (K : AVal → Heap → Prop), onL.length = names.length → onOK up i q onL → TurnM hb ron r4 names.length onL bu bv h →
      (∀ onL' bu' bv' h', onL'.length = names.length → onOK up i q onL' → (∀ r, firstP (badN up names xs id) (q * (upsN up).length ^ d) ((q + 1) * (upsN up).length ^ d) = some r → Intss bu' up ∧ Strss bv' (modelN up names r)) →
        TurnM hb ron r4 names.length onL' bu' bv' h' → K (.bool (firstP (badN up names xs id) (q * (upsN up).length ^ d) ((q + 1) * (upsN up).length ^ d)).isSome) h') →
      ACalls prog 61 (.int .i64 ((i : Nat) : Int) :: turnC r1 r2 r3 r4 r5 mU mV t id) h K
  | 0, i, q, hd, onL, bu, bv, h, K, hol, hoo, M, hk => by
    obtain rfl : i = names.length := by omega
    refine s61_ok ?_
    unfold s61
    rw [ld1_one (M.old _ _ B.a) (slAgg hA), hA.len]
    refine ifT_neg (by simp) ?_
    rw [ldN_agg2, tCons_cons, tCons_cons, tNil_nil, ld1_one (M.old _ _ B.a) (slAgg hA), ld1_one (M.old _ _ B.o) rfl]
    refine callG_of (valued_ok (on := onN up names.length q) (onL := uL onL) hA (by omega) (fun i hi => ?_) (fun i hi => ?_) (M.get 0 _ ron rfl rfl) hU (hSm fun _ => 0) (by omega) fun u v hu hv => ?_)
    · unfold uL onN
      rw [List.getElem?_map, hoo i hi]
      rfl
    · unfold onN
      rw [List.getD_eq_getElem?_getD]
      cases e : (upsN up)[dig (upsN up).length names.length q i]? with
      | none => simp
      | some s =>
        obtain ⟨hl, rfl⟩ := List.getElem?_eq_some_iff.1 e
        have := upsN_lt hl
        have hp : 2 ^ up.length ≤ 32 := Nat.le_trans (Nat.pow_le_pow_right (by omega) hn5) (by decide)
        simp only [Option.getD_some]
        omega
    rw [tAgg_agg, tCons_cons, tCons_cons, tNil_nil]
    refine st_all (M.get 1 _ r4 rfl rfl) rfl ?_
    have M2 : TurnM hb ron r4 names.length onL u v (h.set r4 (.row 2 [.agg [u, v]])) := M.put (i := 1) rfl _
    rw [ld1_lptr, ldN_fld (n := 2) (cs := [u, v]) (Heap.set_same _ _ _) rfl, tCons_cons, tCons_cons, tNil_nil, ld1_lptr, tInt_int]
    refine callG_of (validF_ok (P.ext M2.old) G hx ht (hSm _) hu hv id ?_)
    rw [tTup_tuple, tCons_cons, tBool_bool, tCons_cons, tInt_int, tNil_nil]
    have e1 : firstP (badN up names xs id) (q * (upsN up).length ^ 0) ((q + 1) * (upsN up).length ^ 0) = if badN up names xs id q then some q else none := by
      rw [Nat.pow_zero, Nat.mul_one, Nat.mul_one, firstP_one]
    have eb : badN up names xs id q = !(validR up (valO up.length names (onN up names.length q)) xs id).1 := rfl
    rw [← eb]
    rw [e1] at hk
    refine retG_of ?_
    have := hk onL u v _ hol hoo (fun r hr => ?_) M2
    · cases h2 : badN up names xs id q with
      | true => rw [h2] at this; exact this
      | false => rw [h2] at this; exact this
    · cases h2 : badN up names xs id q with
      | true => rw [h2, if_pos rfl] at hr; cases hr; exact ⟨hu, hv⟩
      | false => rw [h2, if_neg (by simp)] at hr; cases hr
  | d + 1, i, q, hd, onL, bu, bv, h, K, hol, hoo, M, hk => by
    refine s61_ok ?_
    unfold s61
    rw [ld1_one (M.old _ _ B.a) (slAgg hA), hA.len]
    refine ifT_pos (decide_eq_true (by omega)) ?_
    rw [ld1_one (M.old _ _ B.s) (slAgg hS), lenN_of hS, List.length_map]
    refine s61l1_in ((upsN up).length + 1) (turn_l1 (xs := xs) hS hn5 hn3 B hd (fun q onL bu bv h K h1 h2 h3 h4 => turn_ok d (i + 1) q (by omega) onL bu bv h K h1 h2 h3 h4) hk (upsN up).length 0 (by omega) ?_ onL bu bv h hol hoo M)
    rw [firstP_none]
    intro r h1 h2
    rw [Nat.add_zero] at h2
    have e0 : q * (upsN up).length ^ (d + 1) = (q * (upsN up).length) * (upsN up).length ^ d := by
      rw [Nat.pow_succ, Nat.mul_comm ((upsN up).length ^ d), ← Nat.mul_assoc]
    omega
end
/- ---- the frame ---- -/
def smallN (up : List (List Int)) (names : List ByteArray) : Prop := ∀ on, Small up (valO up.length names on)
theorem frameF_ok (P : PRd h t xs) (G : GoodT xs) (hx : xs.length ≤ 1024) (ht : sc t = true) (S : Small up val) (hU : Intss mU up) (hV : Strss mV val) (hSm : ∀ j, j < xs.length → smallN up (sortS (atomL xs j))) (id : Int)
    (hk : ∀ u v, ModV up u v (frameR up val xs id).2.1 → K (.tuple [.bool (frameR up val xs id).1, .agg [u, v], .int .i64 (frameR up val xs id).2.2]) h) : ACalls prog 19 [t, .agg [mU, mV], .int .i64 id] h K := by
  refine s19_ok ?_
  unfold s19
  unfold frameR at hk
  refine chk_iff.2 ⟨ht, newRow_in fun r hr => ?_⟩
  have e0 : Ext h (h.set r (.row 2 [.agg [.nilsl, .nilsl]])) := Ext.new hr _
  generalize hh0 : h.set r (.row 2 [.agg [.nilsl, .nilsl]]) = h0 at e0
  have g0 : h0 r = some (.row 2 [.agg [.nilsl, .nilsl]]) := by rw [← hh0, Heap.set_same]
  -- an answer without a model
  have fin : ∀ (b : Bool) (c : Int) H, Ext h H → H r = some (.row 2 [.agg [.nilsl, .nilsl]]) → K (.tuple [.bool b, .agg [.nilsl, .nilsl], .int .i64 c]) h →
      st false H (.ptr r 0 0) [.nilsl, .nilsl] fun h2 => ldN 2 h2 (.ptr r 0 0) fun l3 => tCons l3 fun v4 l4 => tCons l4 fun v5 l5 => tNil l5 (retG (.tuple [.bool b, .agg [v4, v5], .int .i64 c]) h2 K) := fun b c H x hH hc => by
    refine st_all hH rfl ?_
    rw [ldN_fld (n := 2) (cs := [.nilsl, .nilsl]) (Heap.set_same _ _ _) rfl, tCons_cons, tCons_cons, tNil_nil]
    exact retG_drop (Ext.put x hr _) hc
  refine callG_of (lookF_ok (P.ext e0) hx ht S hU hV (fun hW => ?_) (fun W rm h1 M => ?_))
  · rw [tTup_tuple, tCons_cons, tCons_cons, tInt_int, tNil_nil]
    rw [if_pos hW] at hk
    exact ifT_pos rfl (fin false 170 _ e0 g0 (hk _ _ ⟨rfl, rfl⟩))
  rw [tTup_tuple, tCons_cons, tCons_cons, tInt_int, tNil_nil]
  rw [if_neg (fun e => e W)] at hk
  refine ifT_neg rfl ?_
  have e1 : Ext h h1 := e0.trans M.old
  have g1 : h1 r = some (.row 2 [.agg [.nilsl, .nilsl]]) := M.old _ _ g0
  refine callG_of (atomsS_ok (P.ext e1) G hx id (fun hno => ?_) (fun j hj hjl w hw => ?_))
  · rw [if_pos hno] at hk
    rw [tTup_tuple, tCons_cons, tCons_cons, tInt_int, tNil_nil]
    refine newRow_in fun r1 hr1 => chk_iff.2 ⟨rfl, st_elem (Heap.set_same _ _ _) rfl rfl (ifT_pos rfl ?_)⟩
    have hne : r ≠ r1 := fun e => by rw [← e, g1] at hr1; cases hr1
    refine fin false 31 _ (Ext.put (e1.trans (Ext.new hr1 _)) ?_ _) (by rw [Heap.set_other _ _ hne, Heap.set_other _ _ hne]; exact g1) (hk _ _ ⟨rfl, rfl⟩)
    cases e : h r1 with
    | none => rfl
    | some o => rw [e1 _ _ e] at hr1; cases hr1
  subst hj
  rw [if_neg (by rw [hasN_iff.2 ⟨by omega, by omega⟩]; simp), Int.toNat_natCast] at hk
  have hSj := hSm j hjl
  generalize sortS (atomL xs j) = names at hw hk hSj
  rw [tTup_tuple, tCons_cons, tCons_cons, tInt_int, tNil_nil]
  refine newRow_in fun r1 hr1 => chk_iff.2 ⟨hw.notAgg.2, st_elem (Heap.set_same _ _ _) rfl rfl (ifT_neg rfl ?_)⟩
  rw [Heap.set_set, List.set_cons_zero]
  have hne : r ≠ r1 := fun e => by rw [← e, g1] at hr1; cases hr1
  have e2 : Ext h (h1.set r1 (.row 1 [w])) := e1.trans (Ext.new hr1 _)
  have g2 : (h1.set r1 (.row 1 [w])) r = some (.row 2 [.agg [.nilsl, .nilsl]]) := by rw [Heap.set_other _ _ hne]; exact g1
  have a2 : (h1.set r1 (.row 1 [w])) r1 = some (.row 1 [w]) := Heap.set_same _ _ _
  generalize h1.set r1 (.row 1 [w]) = h2 at e2 g2 a2 ⊢
  rw [hU.len]
  by_cases hbig : 5 < up.length ∨ 3 < names.length
  · rw [if_pos hbig] at hk
    have big : s19c1 K (.lptr [t]) (.lptr [mU, mV]) (.lptr [.int .i64 (j : Int)]) (.ptr r 0 0) (eyeV t mU mV up rm) (.ptr r1 0 0) true h2 := by
      unfold s19c1
      exact ifT_pos rfl (fin false 2 _ e2 g2 (hk _ _ ⟨rfl, rfl⟩))
    by_cases h5 : 5 < up.length
    · exact ifT_pos (decide_eq_true (by omega)) big
    · refine ifT_neg (decide_eq_false (by omega)) ?_
      rw [ld1_one a2 (slAgg hw), hw.len, decide_eq_true (by omega)]
      exact big
  rw [if_neg hbig] at hk
  have h5 : up.length ≤ 5 := by omega
  have h3 : names.length ≤ 3 := by omega
  refine ifT_neg (decide_eq_false (by omega)) ?_
  rw [ld1_one a2 (slAgg hw), hw.len, decide_eq_false (by omega)]
  unfold s19c1
  refine ifT_neg rfl (newRow_in fun r2 hr2 => ?_)
  unfold eyeV
  rw [nilCheckA_lptr, addOff_lptr]
  simp only [List.drop_succ_cons, List.drop_zero, ld1_lptr]
  refine callG_of (s60_ok ?_)
  unfold s60
  refine chk_iff.2 ⟨rfl, retG_of ?_⟩
  have hul := upsN_le (up := up)
  have hp : 2 ^ up.length ≤ 32 := Nat.le_trans (Nat.pow_le_pow_right (by omega) h5) (by decide)
  refine rng_own (upsets_it h5 W.inR) (h0 := h2) (D := Nat × AVal) (fun i d => d.1 = i) (fun _ _ => False) (fun d => [.slc 1 d.2 (uL ((upsN up).take d.1)), .cell r2 (.row 1 [d.2])]) (d0 := (0, .nilsl)) rfl ?_ (fun y hy => ?_) ?_ ?_ ?_
  · exact ((Own.start h2).newN 1).newC hr2 _
  · obtain ⟨n, _, rfl⟩ := List.mem_map.1 hy
    rfl
  · rintro i hi ⟨k, u⟩ hb hb' h3 h3' mid R rfl _ _ _ M hmid norm _
    have hi' : k < (upsN up).length := by simpa using hi
    rw [List.getElem_map]
    show s19b2 (.lptr [t]) (.lptr [mU, mV]) (.lptr [.int .i64 (j : Int)]) (.ptr r 0 0) (.ptr r1 0 0) (.ptr r2 0 0) (.func (.func 96) [] [.lptr [ordLit up]]) (((upsN up)[k] : Nat) : Int) h3 mid R
    unfold s19b2
    refine hmid _ ?_
    have M : Own hb' [.slc 1 u (uL ((upsN up).take k)), .cell r2 (.row 1 [u])] h3' := M
    rw [ld1_one (M.get 1 _ r2 rfl rfl) (M.sc (i := 0) rfl).2.2]
    have hl2 : (uL ((upsN up).take k)).length ≤ 32 := by rw [uL_len, List.length_take]; omega
    refine Own.app M (i := 0) rfl (by omega) (by omega) fun v3 h4 M3 => chk_iff.2 ⟨(M3.sc (i := 0) rfl).1, ?_⟩
    refine st_elem (M3.get 1 _ r2 rfl rfl) rfl (M.sc (i := 0) rfl).2.2 ?_
    refine norm (k + 1, v3) _ rfl ?_
    have M4 := M3.put (i := 1) rfl (.row 1 [v3])
    have e : uL ((upsN up).take (k + 1)) = uL ((upsN up).take k) ++ [.int .u64 (((upsN up)[k] : Nat) : Int)] := by
      rw [List.take_succ_eq_append_getElem hi', uL, uL, List.map_append]
      rfl
    simp only [e]
    exact M4
  · rintro ⟨k, u⟩ H hj2 M
    simp only [List.length_map] at hj2
    subst hj2
    have M : Own h2 [.slc 1 u (uL (upsN up)), .cell r2 (.row 1 [u])] H := by
      rw [List.take_of_length_le (Nat.le_refl _)] at M
      exact M
    rw [ld1_one (M.old _ _ a2) (slAgg hw), hw.len]
    refine mkS_own (by omega) (by omega) fun ron hron => newRow_in fun r3 hr3 => chk_iff.2 ⟨rfl, st_elem (Heap.set_same _ _ _) rfl rfl ?_⟩
    rw [Heap.set_set, List.set_cons_zero]
    have M1 := M.newS (es := 1) hron (List.replicate names.length (.int .u64 0))
    rw [List.length_replicate] at M1
    have M2 := M1.newC hr3 (.row 1 [.sl ron 1 0 names.length])
    refine newRow_in fun r4 hr4 => st_all (Heap.set_same _ _ _) rfl ?_
    rw [Heap.set_set]
    have M3 := M2.newC hr4 (.row 2 [.agg [.nilsl, .nilsl]])
    refine newRow_in fun r5 hr5 => st_elem (Heap.set_same _ _ _) rfl rfl ?_
    rw [Heap.set_set, List.set_cons_zero]
    have M4 : Own h2 [.slc 1 u (uL (upsN up)), .cell r2 (.row 1 [u]), .slc 1 (.sl ron 1 0 names.length) (List.replicate names.length (.int .u64 0)), .cell r3 (.row 1 [.sl ron 1 0 names.length]), .cell r4 (.row 2 [.agg [.nilsl, .nilsl]]), .cell r5 (.row 1 [turnF r1 r2 r3 r4 r5 mU mV t (j : Int)])] _ := M3.newC hr5 (.row 1 [turnF r1 r2 r3 r4 r5 mU mV t (j : Int)])
    rw [ld1_one (M4.get 5 _ r5 rfl rfl) rfl]
    have M4 := Own.pick (os' := [.cell r2 (.row 1 [u]), .cell r3 (.row 1 [.sl ron 1 0 names.length]), .cell r5 (.row 1 [turnF r1 r2 r3 r4 r5 mU mV t (j : Int)]), .slc 1 (.sl ron 1 0 names.length) (List.replicate names.length (.int .u64 0)), .cell r4 (.row 2 [.agg [.nilsl, .nilsl]]), .slc 1 u (uL (upsN up))]) M4 [1, 3, 5, 2, 4, 0] (by decide) rfl
    obtain ⟨S5, H5, u', su, g, M5⟩ := Own.settleC (os := [_, _, _, _, _]) (i := 0) M4 rfl
    have M5 : Own h2 [.cell r2 (.row 1 [u']), .cell r3 (.row 1 [.sl ron 1 0 names.length]), .cell r5 (.row 1 [turnF r1 r2 r3 r4 r5 mU mV t (j : Int)]), .slc 1 (.sl ron 1 0 names.length) (List.replicate names.length (.int .u64 0)), .cell r4 (.row 2 [.agg [.nilsl, .nilsl]])] H5 := M5
    have n12 : r1 ≠ r2 := fun e => by have := M5.new 0 _ r2 rfl rfl; rw [← e, a2] at this; cases this
    have n13 : r1 ≠ r3 := fun e => by have := M5.new 1 _ r3 rfl rfl; rw [← e, a2] at this; cases this
    have n15 : r1 ≠ r5 := fun e => by have := M5.new 2 _ r5 rfl rfl; rw [← e, a2] at this; cases this
    have n23 : r2 ≠ r3 := Own.ne M5 (i := 0) (j := 1) rfl rfl (by omega)
    have n25 : r2 ≠ r5 := Own.ne M5 (i := 0) (j := 2) rfl rfl (by omega)
    have n35 : r3 ≠ r5 := Own.ne M5 (i := 1) (j := 2) rfl rfl (by omega)
    have M6 : TurnM (((h2.set r2 (.row 1 [u'])).set r3 (.row 1 [.sl ron 1 0 names.length])).set r5 (.row 1 [turnF r1 r2 r3 r4 r5 mU mV t (j : Int)])) ron r4 names.length (List.replicate names.length 0) .nilsl .nilsl H5 := by
      have := Own.deep (Own.deep (Own.deep M5))
      have e : uL (List.replicate names.length 0) = List.replicate names.length (.int .u64 0) := by simp [uL]
      unfold TurnM
      rw [e]
      exact this
    have xb : Ext h2 (((h2.set r2 (.row 1 [u'])).set r3 (.row 1 [.sl ron 1 0 names.length])).set r5 (.row 1 [turnF r1 r2 r3 r4 r5 mU mV t (j : Int)])) :=
      Ext.put (Ext.put (Ext.new (M5.new 0 _ r2 rfl rfl) _) (M5.new 1 _ r3 rfl rfl) _) (M5.new 2 _ r5 rfl rfl) _
    have B : TurnB (((h2.set r2 (.row 1 [u'])).set r3 (.row 1 [.sl ron 1 0 names.length])).set r5 (.row 1 [turnF r1 r2 r3 r4 r5 mU mV t (j : Int)])) r1 r2 r3 r4 r5 ron w u' mU mV t (j : Int) names.length :=
      ⟨xb _ _ a2, by rw [Heap.set_other _ _ n25, Heap.set_other _ _ n23, Heap.set_same], by rw [Heap.set_other _ _ n35, Heap.set_same], Heap.set_same _ _ _⟩
    generalize ((h2.set r2 (.row 1 [u'])).set r3 (.row 1 [.sl ron 1 0 names.length])).set r5 (.row 1 [turnF r1 r2 r3 r4 r5 mU mV t (j : Int)]) = hb at M6 xb B
    show callG prog 61 ([] ++ [.int .i64 0] ++ turnC r1 r2 r3 r4 r5 mU mV t (j : Int)) _ _
    refine ⟨S5, _, H5, Lits.refl _, g, turn_ok (P.ext (e2.trans xb)) G hx ht hU hw su hSj h5 h3 B names.length 0 0 (by omega) (List.replicate names.length 0) .nilsl .nilsl H5 _ (by simp) (fun j hj => by omega) M6 (fun onL' bu bv H6 _ _ hb' M7 => ?_)⟩
    rw [Nat.zero_mul, Nat.zero_add, Nat.one_mul] at hb' ⊢
    have x6 : Ext h H6 := (e2.trans xb).trans M7.old
    have g6 : H6 r = some (.row 2 [.agg [.nilsl, .nilsl]]) := M7.old _ _ (xb _ _ g2)
    rw [tBool_bool]
    cases ef : firstP (badN up names xs (j : Int)) 0 ((upsN up).length ^ names.length) with
    | none =>
      rw [ef] at hk
      exact ifT_neg rfl (fin true 0 _ x6 g6 (hk _ _ ⟨rfl, rfl⟩))
    | some q =>
      rw [ef] at hk
      refine ifT_pos rfl ?_
      rw [ldN_fld (n := 2) (cs := [bu, bv]) (M7.get 1 _ r4 rfl rfl) rfl, tCons_cons, tCons_cons, tNil_nil]
      refine st_all g6 rfl ?_
      rw [ldN_fld (n := 2) (cs := [bu, bv]) (Heap.set_same _ _ _) rfl, tCons_cons, tCons_cons, tNil_nil]
      exact retG_drop (Ext.put x6 hr _) (hk bu bv (hb' q ef))
  · rintro e d h2 hx
    exact hx.elim
end Go.Proofs.YtaopdcjjcpgebaaGreatDoor

namespace Go.Proofs.YtaopdcjjcpgebaaGreatDoor
open Go Go.Sym Go.Proofs.Tryz
set_option maxRecDepth 100000
variable {up : List (List Int)} {val : List (List ByteArray)} {xs : List Nd}
def frcF (ab : Nat → List Nat) (val : List (List ByteArray)) (xs : List Nd) : Nat → Nat → Nat → Bool
  | 0, _, _ => false
  | f + 1, i, w => match xs[i]? with
    | none => false
    | some x =>
      if x.k = 1 then inS (val.getD w []) x.s
      else if (0 ≤ x.l ∧ x.l < i) ∧ 0 ≤ x.r ∧ x.r < i then
        (if x.k = 3 then frcF ab val xs f x.l.toNat w && frcF ab val xs f x.r.toNat w
         else if x.k = 4 then frcF ab val xs f x.l.toNat w || frcF ab val xs f x.r.toNat w
         else if x.k = 5 then !((ab w).any fun b => frcF ab val xs f x.l.toNat b && !frcF ab val xs f x.r.toNat b)
         else false)
      else false
theorem frc_F : ∀ f i w, i < f → frc up val xs i w = frcF (aboveL up) val xs f i w
  | 0, i, w, h => by omega
  | f + 1, i, w, h => by
    rw [frc, frcF]
    cases hx : xs[i]? with
    | none => rfl
    | some x =>
      simp only
      by_cases h1 : x.k = 1
      · rw [if_pos h1, if_pos h1]
      · rw [if_neg h1, if_neg h1]
        by_cases hh : (0 ≤ x.l ∧ x.l < i) ∧ 0 ≤ x.r ∧ x.r < i
        · rw [dif_pos hh, if_pos hh]
          have e1 : ∀ b, frc up val xs x.l.toNat b = frcF (aboveL up) val xs f x.l.toNat b := fun b => frc_F f _ b (by omega)
          have e2 : ∀ b, frc up val xs x.r.toNat b = frcF (aboveL up) val xs f x.r.toNat b := fun b => frc_F f _ b (by omega)
          simp only [e1, e2]
        · rw [dif_neg hh, if_neg hh]
def pB : ByteArray := ByteArray.mk #[112]
def up2 : List (List Int) := [[1], []]
def val2 : List (List ByteArray) := [[], [pB]]
def up1 : List (List Int) := [[]]
def xs5 : List Nd := [⟨1, pB, 0, 0⟩, ⟨2, ByteArray.mk #[], 0, 0⟩, ⟨5, ByteArray.mk #[], 0, 1⟩, ⟨4, ByteArray.mk #[], 0, 2⟩, ⟨5, ByteArray.mk #[], 2, 1⟩]
theorem reach2 {a b : Nat} : Reach up2 a b ↔ a = b ∨ a = 0 ∧ b = 1 := by
  constructor
  · intro h
    induction h with
    | refl => exact .inl rfl
    | tail h hs ih =>
      rename_i b c
      obtain ⟨r, h1, h2⟩ := hs
      match b, h1 with
      | 0, h1 =>
        cases h1
        have h3 : (c : Int) = 1 := by simpa using h2
        have : c = 1 := by omega
        rcases ih with rfl | ⟨rfl, h⟩
        · exact .inr ⟨rfl, this⟩
        · omega
      | 1, h1 =>
        cases h1
        cases h2
  · rintro (rfl | ⟨rfl, rfl⟩)
    · exact .refl
    · exact .tail .refl ⟨[1], rfl, by simp⟩
theorem reach1 {a b : Nat} : Reach up1 a b ↔ a = b := by
  constructor
  · intro h
    induction h with
    | refl => rfl
    | tail h hs ih =>
      rename_i b c
      obtain ⟨r, h1, h2⟩ := hs
      match b, h1 with
      | 0, h1 => cases h1; cases h2
  · rintro rfl
    exact .refl
def ab2 (a : Nat) : List Nat := (List.range 2).filter fun b => decide (a = b ∨ a = 0 ∧ b = 1)
def ab1 (a : Nat) : List Nat := (List.range 1).filter fun b => decide (a = b)
theorem above2 : aboveL up2 = ab2 := by
  funext a
  unfold aboveL ab2
  refine List.filter_congr fun b _ => ?_
  rw [Bool.eq_iff_iff, rb_iff, reach2, decide_eq_true_eq]
theorem above1 : aboveL up1 = ab1 := by
  funext a
  unfold aboveL ab1
  refine List.filter_congr fun b _ => ?_
  rw [Bool.eq_iff_iff, rb_iff, reach1, decide_eq_true_eq]
theorem inR2 : InR up2 := by
  intro r hr b hb
  simp only [up2, List.mem_cons, List.not_mem_nil, or_false] at hr
  rcases hr with rfl | rfl
  · simp only [List.mem_cons, List.not_mem_nil, or_false] at hb
    subst hb
    exact ⟨by decide, by decide⟩
  · cases hb
theorem inR1 : InR up1 := by
  intro r hr b hb
  simp only [up1, List.mem_cons, List.not_mem_nil, or_false] at hr
  subst hr
  cases hb
theorem fineP : fineB [pB] = true := by decide +kernel
theorem WF2 : WF up2 val2 where
  pos := by decide
  max := by decide
  len := rfl
  inR := inR2
  fine l hl := by
    simp only [val2, List.mem_cons, List.not_mem_nil, or_false] at hl
    rcases hl with rfl | rfl
    · rfl
    · exact fineP
  cond a b ha hb := fun hr hne => by
    rcases reach2.1 hr with rfl | ⟨rfl, rfl⟩
    · exact absurd rfl hne
    · refine ⟨fun h => ?_, fun s hs => ?_⟩
      · rcases reach2.1 h with h | ⟨h, _⟩ <;> cases h
      · simp [val2] at hs
theorem WF1 : WF up1 [[]] where
  pos := by decide
  max := by decide
  len := rfl
  inR := inR1
  fine l hl := by
    simp only [List.mem_cons, List.not_mem_nil, or_false] at hl
    subst hl
    rfl
  cond a b ha hb := fun hr hne => absurd (reach1.1 hr) hne
theorem atom5 : atomL xs5 3 = [pB] := by
  have hS : Sub xs5 3 0 := .step (j := 0) ⟨_, rfl, by decide, .inl rfl⟩ (.refl 0)
  unfold atomL subL
  rw [List.filterMap_filter]
  have : List.range (3 + 1) = [0, 1, 2, 3] := rfl
  rw [this]
  simp only [List.filterMap_cons, List.filterMap_nil]
  have a1 : atomN xs5 1 = none := rfl
  have a2 : atomN xs5 2 = none := rfl
  have a3 : atomN xs5 3 = none := rfl
  have a0 : atomN xs5 0 = some pB := rfl
  rw [a0, a1, a2, a3, if_pos (@decide_eq_true _ (Classical.propDecidable _) hS)]
  simp
theorem sort5 : sortS (atomL xs5 3) = [pB] := by
  rw [atom5]
  exact List.perm_singleton.1 (sortS_perm [pB])
theorem ups2 : upsN up2 = [0, 2, 3] := by
  have e : ∀ s, closedN up2 s = (List.range 2).all fun w => (ab2 w).all fun v => !s.testBit w || s.testBit v := fun s => by
    rw [← closedN_rows inR2]
    unfold closedR
    rw [above2]
    rfl
  unfold upsN
  rw [List.filter_congr (fun s _ => e s)]
  decide
theorem ups1 : upsN up1 = [0, 1] := by
  have e : ∀ s, closedN up1 s = (List.range 1).all fun w => (ab1 w).all fun v => !s.testBit w || s.testBit v := fun s => by
    rw [← closedN_rows inR1]
    unfold closedR
    rw [above1]
    rfl
  unfold upsN
  rw [List.filter_congr (fun s _ => e s)]
  decide
theorem frc2 {v : List (List ByteArray)} {i w : Nat} (hi : i < 5) : frc up2 v xs5 i w = frcF ab2 v xs5 5 i w := by rw [frc_F 5 i w hi, above2]
theorem frc1 {v : List (List ByteArray)} {i w : Nat} (hi : i < 5) : frc up1 v xs5 i w = frcF ab1 v xs5 5 i w := by rw [frc_F 5 i w hi, above1]
theorem at03 : atR up2 val2 xs5 0 3 = (false, 0) := by
  unfold atR
  rw [if_neg (fun e => e WF2), if_neg (by decide), if_neg (by decide)]
  rw [frc2 (by decide)]
  decide +kernel
theorem at04 : atR up2 val2 xs5 0 4 = (true, 0) := by
  unfold atR
  rw [if_neg (fun e => e WF2), if_neg (by decide), if_neg (by decide)]
  rw [frc2 (by decide)]
  decide +kernel
def w25 : List (BitVec 64) := [25#64, 0#64, 0#64, 0#64, 0#64, 0#64, 0#64, 0#64, 0#64, 0#64, 0#64, 0#64, 0#64, 0#64, 0#64, 0#64]
def w16 : List (BitVec 64) := [16#64, 0#64, 0#64, 0#64, 0#64, 0#64, 0#64, 0#64, 0#64, 0#64, 0#64, 0#64, 0#64, 0#64, 0#64, 0#64]
theorem all1 : allR up2 val2 xs5 1 = (w25, 0) := by
  unfold allR
  rw [if_neg (fun e => e WF2), if_neg (by decide)]
  rw [List.filter_congr (l := List.range xs5.length) (p := fun i => frc up2 val2 xs5 i (Int.toNat 1)) (q := fun i => frcF ab2 val2 xs5 5 i 1) (fun i hi => frc2 (List.mem_range.1 hi))]
  decide +kernel
theorem worlds4 : worldsR up2 val2 xs5 4 = ([0, 1], 0) := by
  unfold worldsR onL
  rw [if_neg (fun e => e WF2), if_neg (by decide)]
  rw [List.filter_congr (fun i hi => frc2 (by decide))]
  decide +kernel
theorem worlds3 : worldsR up2 val2 xs5 3 = ([1], 0) := by
  unfold worldsR onL
  rw [if_neg (fun e => e WF2), if_neg (by decide)]
  rw [List.filter_congr (fun i hi => frc2 (by decide))]
  decide +kernel
theorem valid3 : validR up2 val2 xs5 3 = (false, 0) := by
  unfold validR
  rw [worlds3]
  rfl
theorem holds5 : holdsR up2 val2 xs5 w16 0 = (false, 0) := by
  unfold holdsR
  have hr : rightS xs5.length w16 0 = true := by decide +kernel
  have hw : holdsW up2 val2 xs5 w16 (0 : Int).toNat 0 = false := by
    unfold holdsW
    have hl : listW w16 = [4] := by decide +kernel
    rw [hl]
    simp only [List.any_cons, List.any_nil]
    rw [frc2 (by decide), frc2 (by decide)]
    decide +kernel
  rw [if_neg (fun e => e WF2), if_neg (by rw [hr]; simp), range_all_false (w := 0) (by decide) hw]
theorem model2 (r : Nat) : modelN up2 [pB] r = valO 2 [pB] fun i => [0, 2, 3].getD (dig 3 1 r i) 0 := by
  unfold modelN onN
  rw [ups2]
  rfl
theorem model1 (r : Nat) : modelN up1 [pB] r = valO 1 [pB] fun i => [0, 1].getD (dig 2 1 r i) 0 := by
  unfold modelN onN
  rw [ups1]
  rfl
theorem WFm {up : List (List Int)} {val : List (List ByteArray)} (W : WF up val) (r : Nat) : WF up (modelN up [pB] r) := by
  refine WF_valO W fineP fun i hi => ?_
  unfold onN
  rw [List.getD_eq_getElem?_getD]
  have hp := upsN_pos (up := up)
  have : dig (upsN up).length [pB].length r i < (upsN up).length := Nat.mod_lt _ hp
  rw [List.getElem?_eq_getElem this]
  exact upsN_closed this
theorem bad2 (r : Nat) : badN up2 [pB] xs5 3 r = !decide (((List.range 2).filter fun w => frcF ab2 (valO 2 [pB] fun i => [0, 2, 3].getD (dig 3 1 r i) 0) xs5 5 3 w).length = 2) := by
  unfold badN validR worldsR onL
  rw [if_neg (fun e => e (WFm WF2 r)), if_neg (by decide)]
  show (!(decide ((0 : Int) = 0) && decide (((List.range 2).filter fun w => frc up2 (modelN up2 [pB] r) xs5 3 w).length = 2))) = _
  rw [List.filter_congr (l := List.range 2) (p := fun w => frc up2 (modelN up2 [pB] r) xs5 3 w) (q := fun w => frcF ab2 (modelN up2 [pB] r) xs5 5 3 w) (fun i hi => frc2 (by decide)), model2, decide_eq_true (rfl : (0 : Int) = 0), Bool.true_and]
theorem bad1 (r : Nat) : badN up1 [pB] xs5 3 r = !decide (((List.range 1).filter fun w => frcF ab1 (valO 1 [pB] fun i => [0, 1].getD (dig 2 1 r i) 0) xs5 5 3 w).length = 1) := by
  unfold badN validR worldsR onL
  rw [if_neg (fun e => e (WFm WF1 r)), if_neg (by decide)]
  show (!(decide ((0 : Int) = 0) && decide (((List.range 1).filter fun w => frc up1 (modelN up1 [pB] r) xs5 3 w).length = 1))) = _
  rw [List.filter_congr (l := List.range 1) (p := fun w => frc up1 (modelN up1 [pB] r) xs5 3 w) (q := fun w => frcF ab1 (modelN up1 [pB] r) xs5 5 3 w) (fun i hi => frc1 (by decide)), model1, decide_eq_true (rfl : (0 : Int) = 0), Bool.true_and]
theorem frame2 : frameR up2 val2 xs5 3 = (false, some val2, 0) := by
  unfold frameR
  rw [if_neg (fun e => e WF2), if_neg (by decide)]
  have e3 : (3 : Int).toNat = 3 := rfl
  rw [e3, sort5, if_neg (by decide), ups2]
  have hf : firstP (badN up2 [pB] xs5 3) 0 ([0, 2, 3].length ^ [pB].length) = some 1 := by
    rw [firstP_some]
    refine ⟨by decide, by decide, by rw [bad2]; decide +kernel, fun q _ h => ?_⟩
    obtain rfl : q = 0 := by omega
    rw [bad2]
    decide +kernel
  rw [hf]
  have hm : modelN up2 [pB] 1 = val2 := by rw [model2]; decide +kernel
  simp only [hm]
theorem frame1 : frameR up1 [[]] xs5 3 = (true, none, 0) := by
  unfold frameR
  rw [if_neg (fun e => e WF1), if_neg (by decide)]
  have e3 : (3 : Int).toNat = 3 := rfl
  rw [e3, sort5, if_neg (by decide), ups1]
  have hf : firstP (badN up1 [pB] xs5 3) 0 ([0, 1].length ^ [pB].length) = none := by
    rw [firstP_none]
    intro r _ h
    have : r < 2 := h
    rw [bad1]
    match r, this with
    | 0, _ => decide +kernel
    | 1, _ => decide +kernel
  rw [hf]
theorem okTab_of (h : ((List.range xs.length).all fun i => decide (putE (xs.take i) (xs.getD i ⟨0, ByteArray.empty, 0, 0⟩) = 0) && decide (putI (xs.take i) (xs.getD i ⟨0, ByteArray.empty, 0, 0⟩) = (i : Int))) = true) : okTab xs := by
  intro i x hx
  obtain ⟨hi, rfl⟩ := List.getElem?_eq_some_iff.1 hx
  rw [List.all_eq_true] at h
  have := h i (List.mem_range.2 hi)
  simp only [Bool.and_eq_true, decide_eq_true_eq, List.getD_eq_getElem?_getD, List.getElem?_eq_getElem hi, Option.getD_some] at this
  exact this
theorem okTab5 : okTab xs5 := okTab_of (by decide +kernel)
end Go.Proofs.YtaopdcjjcpgebaaGreatDoor

namespace Go.Proofs.YtaopdcjjcpgebaaGreatDoor
open Go Go.Sym Go.Proofs.Tryz
variable {K : AVal → Heap → Prop} {h : Heap} {up up' : List (List Int)} {val val' : List (List ByteArray)} {mU mV nU nV : AVal}
theorem same_l3 (S : Small up val) (hV : Strss mV val) (hV' : Strss nV val') (hl : val.length = val'.length) : ∀ d i : Nat, i + d = val.length → K (.bool (decide (val.drop i = val'.drop i))) h → s20l3 K (d + 1) (.lptr [mU, mV]) (.lptr [nU, nV]) (i : Int) h
  | 0, i, hd, hk => by
    unfold s20l3
    rw [addOff_lptr]
    simp only [List.drop_succ_cons, List.drop_zero, ld1_lptr]
    rw [hV.len]
    refine ifT_neg (by simp; omega) (retG_of ?_)
    rw [List.drop_eq_nil_of_le (by omega), List.drop_eq_nil_of_le (by omega)] at hk
    simpa using hk
  | d + 1, i, hd, hk => by
    have hi : i < val.length := by omega
    have hi' : i < val'.length := by omega
    have hSv := S.vals
    have hSn := (S.names _ (List.getElem_mem hi)).2
    obtain ⟨e1, h1, ix1⟩ := hV.ix hi
    obtain ⟨e2, h2, ix2⟩ := hV'.ix hi'
    unfold s20l3
    rw [addOff_lptr]
    simp only [List.drop_succ_cons, List.drop_zero, ld1_lptr]
    rw [hV.len]
    refine ifT_pos (by simp; omega) ?_
    simp only [addOff_lptr, List.drop_succ_cons, List.drop_zero, ld1_lptr, ix1, ix2]
    refine callG_of (names_ok h1 h2 (by omega) ?_)
    rw [tBool_bool]
    rw [drop_eq_step hi hi'] at hk
    by_cases he : val[i] = val'[i]
    · refine ifT_neg (by simp [he]) (rg_of (by omega) (by omega) (s20l3_go (same_l3 S hV hV' hl d (i + 1) (by omega) (by simpa [he] using hk))))
    · exact ifT_pos (by simp [he]) (retG_of (by simpa [he] using hk))
theorem same_l2 (S : Small up val) (hU : Intss mU up) (hV : Strss mV val) (hU' : Intss nU up') (hV' : Strss nV val') (hlu : up.length = up'.length) (hl : val.length = val'.length) :
    ∀ d i : Nat, i + d = up.length → K (.bool (decide (up.drop i = up'.drop i) && decide (val = val'))) h → s20l2 K (d + 1) (.lptr [mU, mV]) (.lptr [nU, nV]) (i : Int) h
  | 0, i, hd, hk => by
    unfold s20l2
    rw [addOff_lptr]
    simp only [List.drop_zero, ld1_lptr]
    rw [hU.len]
    rw [List.drop_eq_nil_of_le (by omega), List.drop_eq_nil_of_le (by omega)] at hk
    exact ifT_neg (by simp; omega) (s20l3_in (val.length + 1) (same_l3 S hV hV' hl val.length 0 (by omega) (by simpa using hk)))
  | d + 1, i, hd, hk => by
    have hi : i < up.length := by omega
    have hi' : i < up'.length := by omega
    have hSv := S.ups
    have hSn := S.row _ (List.getElem_mem hi)
    obtain ⟨e1, h1, ix1⟩ := hU.ix hi
    obtain ⟨e2, h2, ix2⟩ := hU'.ix hi'
    unfold s20l2
    rw [addOff_lptr]
    simp only [List.drop_zero, ld1_lptr]
    rw [hU.len]
    refine ifT_pos (by simp; omega) ?_
    simp only [addOff_lptr, List.drop_zero, ld1_lptr, ix1, ix2]
    refine callG_of (ints_ok h1 h2 (by omega) ?_)
    rw [tBool_bool]
    rw [drop_eq_step hi hi'] at hk
    by_cases he : up[i] = up'[i]
    · refine ifT_neg (by simp [he]) (rg_of (by omega) (by omega) (s20l2_go (same_l2 S hU hV hU' hV' hlu hl d (i + 1) (by omega) (by simpa [he] using hk))))
    · exact ifT_pos (by simp [he]) (retG_of (by simpa [he] using hk))
theorem same_ok (S : Small up val) (hU : Intss mU up) (hV : Strss mV val) (hU' : Intss nU up') (hV' : Strss nV val') (hk : K (.bool (decide (up = up') && decide (val = val'))) h) : ACalls prog 20 [.agg [mU, mV], .agg [nU, nV]] h K := by
  refine s20_ok ?_
  unfold s20
  rw [hU.len, hU'.len]
  by_cases h1 : up.length = up'.length
  · refine ifT_neg (by simp [h1]) ?_
    rw [hV.len, hV'.len]
    by_cases h2 : val.length = val'.length
    · refine ifT_neg (by simp [h2]) (s20l2_in (up.length + 1) (same_l2 S hU hV hU' hV' h1 h2 up.length 0 (by omega) (by simpa using hk)))
    · refine ifT_pos (by simp; omega) (retG_of ?_)
      rwa [show decide (val = val') = false by simp; intro e; exact h2 (by rw [e]), Bool.and_false] at hk
  · refine ifT_pos (by simp; omega) (ifT_pos rfl (retG_of ?_))
    rwa [show decide (up = up') = false by simp; intro e; exact h1 (by rw [e]), Bool.false_and] at hk
end Go.Proofs.YtaopdcjjcpgebaaGreatDoor

namespace Go.Proofs.YtaopdcjjcpgebaaGreatDoor
open Go Go.Sym Go.Proofs.Tryz
set_option maxRecDepth 100000
variable {K : AVal → Heap → Prop} {h h0 hb : Heap}
theorem eqB_16 (a0 a1 a2 a3 a4 a5 a6 a7 a8 a9 a10 a11 a12 a13 a14 a15 b0 b1 b2 b3 b4 b5 b6 b7 b8 b9 b10 b11 b12 b13 b14 b15 : Int) : eqT prog 8 29 (.agg ([a0, a1, a2, a3, a4, a5, a6, a7, a8, a9, a10, a11, a12, a13, a14, a15].map (.int .u64))) (.agg ([b0, b1, b2, b3, b4, b5, b6, b7, b8, b9, b10, b11, b12, b13, b14, b15].map (.int .u64))) = some (([a0, a1, a2, a3, a4, a5, a6, a7, a8, a9, a10, a11, a12, a13, a14, a15].zip [b0, b1, b2, b3, b4, b5, b6, b7, b8, b9, b10, b11, b12, b13, b14, b15]).all fun p => p.1 == p.2) := by kernel_rfl
theorem eqB_ints (a b : List Int) (ha : a.length = 16) (hb : b.length = 16) : eqT prog 8 29 (.agg (a.map (.int .u64))) (.agg (b.map (.int .u64))) = some ((a.zip b).all fun p => p.1 == p.2) := by
  match a, ha with
  | [a0, a1, a2, a3, a4, a5, a6, a7, a8, a9, a10, a11, a12, a13, a14, a15], _ =>
    match b, hb with
    | [b0, b1, b2, b3, b4, b5, b6, b7, b8, b9, b10, b11, b12, b13, b14, b15], _ => exact eqB_16 a0 a1 a2 a3 a4 a5 a6 a7 a8 a9 a10 a11 a12 a13 a14 a15 b0 b1 b2 b3 b4 b5 b6 b7 b8 b9 b10 b11 b12 b13 b14 b15
theorem zip_eq : ∀ {a b : List (BitVec 64)}, a.length = b.length → (((a.map fun x => ((x.toNat : Nat) : Int)).zip (b.map fun x => ((x.toNat : Nat) : Int))).all fun p => p.1 == p.2) = decide (a = b)
  | [], [], _ => rfl
  | x :: a, y :: b, h => by
    simp only [List.map_cons, List.zip_cons_cons, List.all_cons]
    rw [zip_eq (by simpa using h), w_eq, Bool.eq_iff_iff]
    simp
  | [], _ :: _, h => by simp at h
  | _ :: _, [], h => by simp at h
theorem eqBits {a b : List (BitVec 64)} (ha : a.length = 16) (hb : b.length = 16) {X : Bool → Prop} (hx : X (decide (a = b))) : eqQ prog 29 (.agg (a.map wV)) (.agg (b.map wV)) X := by
  have e : ∀ l : List (BitVec 64), l.map wV = (l.map fun x => ((x.toNat : Nat) : Int)).map (.int .u64) := fun l => by rw [List.map_map]; rfl
  have g : prog.eqGuardType prog.depth 29 = false := by kernel_rfl
  refine ⟨g, ?_⟩
  rw [e a, e b, eqB_ints _ _ (by simp [ha]) (by simp [hb])]
  rw [zip_eq (by omega)]
  exact hx
theorem num18_ok {e : Int} (hk : K (.int .i64 e) h) : ACalls prog 16 [.int .i64 e] h K := by
  refine s16_ok ?_
  unfold s16
  exact retG_of hk
def mU2 : AVal := .lsl 1 [.lsl 1 [.int .i64 1], .lsl 1 []]
def mV2 : AVal := .lsl 1 [.lsl 1 [], .lsl 1 [.str pB]]
theorem hU2 : Intss mU2 up2 := ⟨_, .lsl 1 _, .cons (.lsl 1 _) (.cons (.lsl 1 _) .nil)⟩
theorem hV2 : Strss mV2 val2 := ⟨_, .lsl 1 _, .cons (.lsl 1 _) (.cons (.lsl 1 _) .nil)⟩
theorem hU1 : Intss (.lsl 1 [.lsl 1 []]) up1 := ⟨_, .lsl 1 _, .cons (.lsl 1 _) .nil⟩
theorem hV1 : Strss (.lsl 1 [.lsl 1 []]) [[]] := ⟨_, .lsl 1 _, .cons (.lsl 1 _) .nil⟩
theorem small2 : Small up2 val2 where
  ups := by decide
  vals := by decide
  row := by decide
  names := by unfold SB; decide +kernel
theorem small1 : Small up1 [[]] where
  ups := by decide
  vals := by decide
  row := by decide
  names := by unfold SB; decide +kernel
theorem smallN_of {up : List (List Int)} {names : List ByteArray} (hu : up.length ≤ 1048576) (hr : ∀ r ∈ up, r.length ≤ 1048576) (hl : names.length ≤ 1048576) (hn : ∀ s ∈ names, s.size ≤ 1073741824) : smallN up names := fun on => {
  ups := hu
  vals := by rw [valO_len]; exact hu
  row := hr
  names := fun l h => by
    unfold valO at h
    obtain ⟨w, _, rfl⟩ := List.mem_map.1 h
    have := rowO_le (names := names) (on := on) (w := w)
    refine ⟨⟨by omega, fun s hs => ?_⟩, by omega⟩
    obtain ⟨i, hi, _, rfl⟩ := mem_rowO.1 hs
    exact hn _ (List.getElem_mem hi) }
theorem smallN_tab {up : List (List Int)} {xs : List Nd} (hu : up.length ≤ 1048576) (hr : ∀ r ∈ up, r.length ≤ 1048576) (hx : xs.length ≤ 1024) (hs : ∀ x ∈ xs, x.s.size ≤ 1073741824) (j : Nat) (hj : j < xs.length) : smallN up (sortS (atomL xs j)) := by
  refine smallN_of hu hr ?_ fun s hs' => ?_
  · rw [(sortS_perm _).length_eq]
    have h1 : (subL xs j).length ≤ j + 1 := Nat.le_trans (List.length_filter_le _ _) (by simp)
    have h2 := List.length_filterMap_le (atomN xs) (subL xs j)
    unfold atomL
    omega
  · have hm := (sortS_perm _).mem_iff.1 hs'
    unfold atomL at hm
    obtain ⟨i, _, hi⟩ := List.mem_filterMap.1 hm
    unfold atomN at hi
    cases hx : xs[i]? with
    | none => rw [hx] at hi; cases hi
    | some x =>
      rw [hx] at hi
      simp only at hi
      split at hi
      · cases hi
        exact hs _ (List.mem_of_getElem? hx)
      · cases hi
theorem good5 : GoodT xs5 := okTab_good okTab5
theorem heads18 (hk : K (.bool true) h) : ACalls prog 17 [] h K := by
  refine s17_ok ?_
  unfold s17
  refine callG_of (s55_ok ?_)
  unfold s55
  refine retG_of (callG_of (fromP_ok (Own.start h) (xs := xs5) (.lsl 4 _) okTab5 (by decide) (by decide +kernel) fun rt h1 W1 => ?_))
  have P1 := W1.prd
  have x1 : Ext h h1 := by obtain ⟨_, _, O⟩ := W1; exact O.old
  rw [tTup_tuple, tCons_cons, tCons_cons, tInt_int, tNil_nil]
  refine newRow_in fun r hr => st_all (Heap.set_same _ _ _) rfl ?_
  rw [Heap.set_set]
  have x2 : Ext h (h1.set r (.row 2 [.agg [mU2, mV2]])) := x1.trans (Ext.new hr _)
  have P2 := P1.ext (h' := h1.set r (.row 2 [.agg [mU2, mV2]])) (Ext.new hr _)
  have g2 : (h1.set r (.row 2 [.agg [mU2, mV2]])) r = some (.row 2 [.agg [mU2, mV2]]) := Heap.set_same _ _ _
  unfold mU2 mV2 pB at x2 P2 g2
  generalize h1.set r (.row 2 [.agg [.lsl 1 [.lsl 1 [.int .i64 1], .lsl 1 []], .lsl 1 [.lsl 1 [], .lsl 1 [.str (ByteArray.mk #[112])]]]]) = h2 at x2 P2 g2 ⊢
  have g2 : h2 r = some (.row 2 [.agg [mU2, mV2]]) := g2
  have rd : ∀ {H}, H r = some (.row 2 [.agg [mU2, mV2]]) → ∀ X, ldN 2 H (.ptr r 0 0) X = X [mU2, mV2] := fun hH X => ldN_fld (n := 2) (cs := [mU2, mV2]) hH rfl X
  rw [rd g2, tCons_cons, tCons_cons, tNil_nil]
  refine callG_of (atF_ok P2 good5 (by decide) rfl small2 hU2 hV2 0 3 ?_)
  rw [at03, tTup_tuple, tCons_cons, tBool_bool, tCons_cons, tInt_int, tNil_nil, rd g2, tCons_cons, tCons_cons, tNil_nil]
  refine callG_of (atF_ok P2 good5 (by decide) rfl small2 hU2 hV2 0 4 ?_)
  rw [at04, tTup_tuple, tCons_cons, tBool_bool, tCons_cons, tInt_int, tNil_nil, rd g2, tCons_cons, tCons_cons, tNil_nil]
  refine callG_of (allF_ok P2 good5 (by decide) rfl small2 hU2 hV2 1 ?_)
  rw [all1, tTup_tuple, tCons_cons, tCons_cons, tInt_int, tNil_nil]
  refine newRow_in fun r1 hr1 => aggN_l (by rfl) (st_all (Heap.set_same _ _ _) rfl ?_)
  rw [Heap.set_set]
  have hne : r ≠ r1 := fun e => by rw [← e, g2] at hr1; cases hr1
  have x3 : Ext h (h2.set r1 (.row 16 [.agg (w25.map wV)])) := x2.trans (Ext.new hr1 _)
  have P3 := P2.ext (h' := h2.set r1 (.row 16 [.agg (w25.map wV)])) (Ext.new hr1 _)
  have g3 : (h2.set r1 (.row 16 [.agg (w25.map wV)])) r = some (.row 2 [.agg [mU2, mV2]]) := by rw [Heap.set_other _ _ hne]; exact g2
  have a3 : (h2.set r1 (.row 16 [.agg (w25.map wV)])) r1 = some (.row 16 [.agg (w25.map wV)]) := Heap.set_same _ _ _
  generalize h2.set r1 (.row 16 [.agg (w25.map wV)]) = h3 at x3 P3 g3 a3 ⊢
  rw [rd g3, tCons_cons, tCons_cons, tNil_nil]
  refine callG_of (worldsR_ok P3 good5 (by decide) rfl small2 hU2 hV2 4 fun v hv => ?_)
  rw [worlds4] at hv ⊢
  rw [tTup_tuple, tCons_cons, tCons_cons, tInt_int, tNil_nil, rd g3, tCons_cons, tCons_cons, tNil_nil]
  refine callG_of (validF_ok P3 good5 (by decide) rfl small2 hU2 hV2 3 ?_)
  rw [valid3, tTup_tuple, tCons_cons, tBool_bool, tCons_cons, tInt_int, tNil_nil, rd g3, tCons_cons, tCons_cons, tNil_nil]
  refine callG_of (holdsF_ok P3 good5 (by decide) rfl small2 hU2 hV2 (ws := w16) (g := 0) ⟨rfl, rfl⟩ ?_)
  rw [holds5, tTup_tuple, tCons_cons, tBool_bool, tCons_cons, tInt_int, tNil_nil, rd g3, tCons_cons, tCons_cons, tNil_nil]
  refine callG_of (frameF_ok P3 good5 (by decide) rfl small2 hU2 hV2 (fun j hj => smallN_tab (by decide) (by decide) (by decide) (by decide +kernel) j hj) 3 fun fu fv hf => ?_)
  rw [frame2] at hf ⊢
  obtain ⟨hfu, hfv⟩ := hf
  rw [tTup_tuple, tCons_cons, tBool_bool, tCons_cons, tCons_cons, tInt_int, tNil_nil, tAgg_agg, tCons_cons, tCons_cons, tNil_nil]
  refine newRow_in fun r2 hr2 => st_all (Heap.set_same _ _ _) rfl ?_
  rw [Heap.set_set]
  have hne2 : r ≠ r2 := fun e => by rw [← e, g3] at hr2; cases hr2
  have hne3 : r1 ≠ r2 := fun e => by rw [← e, a3] at hr2; cases hr2
  have x4 : Ext h (h3.set r2 (.row 2 [.agg [fu, fv]])) := x3.trans (Ext.new hr2 _)
  have P4 := P3.ext (h' := h3.set r2 (.row 2 [.agg [fu, fv]])) (Ext.new hr2 _)
  have g4 : (h3.set r2 (.row 2 [.agg [fu, fv]])) r = some (.row 2 [.agg [mU2, mV2]]) := by rw [Heap.set_other _ _ hne2]; exact g3
  have a4 : (h3.set r2 (.row 2 [.agg [fu, fv]])) r1 = some (.row 16 [.agg (w25.map wV)]) := by rw [Heap.set_other _ _ hne3]; exact a3
  have b4 : (h3.set r2 (.row 2 [.agg [fu, fv]])) r2 = some (.row 2 [.agg [fu, fv]]) := Heap.set_same _ _ _
  generalize h3.set r2 (.row 2 [.agg [fu, fv]]) = h4 at x4 P4 g4 a4 b4 ⊢
  refine callG_of (frameF_ok P4 good5 (by decide) rfl small1 hU1 hV1 (fun j hj => smallN_tab (by decide) (by decide) (by decide) (by decide +kernel) j hj) 3 fun gu gv hg => ?_)
  rw [frame1] at hg ⊢
  obtain ⟨rfl, rfl⟩ := hg
  rw [tTup_tuple, tCons_cons, tBool_bool, tCons_cons, tCons_cons, tInt_int, tNil_nil, tAgg_agg, tCons_cons, tCons_cons, tNil_nil]
  refine newRow_in fun r3 hr3 => st_all (Heap.set_same _ _ _) rfl ?_
  rw [Heap.set_set]
  have n1 : r ≠ r3 := fun e => by rw [← e, g4] at hr3; cases hr3
  have n2 : r1 ≠ r3 := fun e => by rw [← e, a4] at hr3; cases hr3
  have n3 : r2 ≠ r3 := fun e => by rw [← e, b4] at hr3; cases hr3
  have x5 : Ext h (h4.set r3 (.row 2 [.agg [.nilsl, .nilsl]])) := x4.trans (Ext.new hr3 _)
  have g5 : (h4.set r3 (.row 2 [.agg [.nilsl, .nilsl]])) r = some (.row 2 [.agg [mU2, mV2]]) := by rw [Heap.set_other _ _ n1]; exact g4
  have a5 : (h4.set r3 (.row 2 [.agg [.nilsl, .nilsl]])) r1 = some (.row 16 [.agg (w25.map wV)]) := by rw [Heap.set_other _ _ n2]; exact a4
  have b5 : (h4.set r3 (.row 2 [.agg [.nilsl, .nilsl]])) r2 = some (.row 2 [.agg [fu, fv]]) := by rw [Heap.set_other _ _ n3]; exact b4
  have c5 : (h4.set r3 (.row 2 [.agg [.nilsl, .nilsl]])) r3 = some (.row 2 [.agg [.nilsl, .nilsl]]) := Heap.set_same _ _ _
  generalize h4.set r3 (.row 2 [.agg [.nilsl, .nilsl]]) = h5 at x5 g5 a5 b5 c5 ⊢
  refine callG_of (num18_ok ?_)
  rw [tInt_int]
  refine ifT_pos rfl (ifT_pos rfl (callG_of (num18_ok ?_)))
  rw [tInt_int]
  refine ifT_pos rfl (ifT_pos rfl (callG_of (num18_ok ?_)))
  rw [tInt_int]
  refine ifT_pos rfl ?_
  rw [ldN_fld (n := 16) (cs := w25.map wV) a5 rfl]
  refine eqBits (a := w25) (b := w25) rfl rfl (ifT_pos (by decide) (callG_of (num18_ok ?_)))
  rw [tInt_int]
  refine ifT_pos rfl ?_
  rw [hv.len]
  refine ifT_pos rfl (callG_of (num18_ok ?_))
  rw [tInt_int]
  refine ifT_pos rfl (ifT_pos rfl (callG_of (num18_ok ?_)))
  rw [tInt_int]
  refine ifT_pos rfl (ifT_pos rfl (callG_of (num18_ok ?_)))
  rw [tInt_int]
  refine ifT_pos rfl (ifT_pos rfl ?_)
  rw [ldN_fld (n := 2) (cs := [fu, fv]) b5 rfl, tCons_cons, tCons_cons, tNil_nil, rd g5, tCons_cons, tCons_cons, tNil_nil]
  refine callG_of (same_ok small2 hfu hfv hU2 hV2 ?_)
  rw [tBool_bool]
  refine ifT_pos (by simp) (callG_of (num18_ok ?_))
  rw [tInt_int]
  refine ifT_pos rfl (ifT_pos rfl ?_)
  rw [ld1_fld (o := 0) (e := .nilsl) c5 rfl]
  exact retG_drop x5 hk
end Go.Proofs.YtaopdcjjcpgebaaGreatDoor

namespace Go.Proofs.YtaopdcjjcpgebaaGreatDoor
open Go Go.Sym Go.Proofs.Tryz
variable {K : AVal → Heap → Prop} {h : Heap}
theorem has17_loop {v : AVal} {l : List ByteArray} {s : ByteArray} (hv : Strs v l) (hm : l.length ≤ 1073741824) : ∀ d i : Nat, i + d = l.length → K (.bool (inS (l.drop i) s)) h → s90l1 K (d + 1) v s (i : Int) h
  | 0, i, hd, hk => by
    unfold s90l1
    rw [hv.len]
    refine ifT_neg (by simp; omega) (retG_of ?_)
    rw [List.drop_eq_nil_of_le (by omega)] at hk
    exact hk
  | d + 1, i, hd, hk => by
    have hi : i < l.length := by omega
    unfold s90l1
    rw [hv.len]
    refine ifT_pos (by simp; omega) ?_
    rw [hv.ix hi, ld1_lptr, tStr_str, strEq_dec]
    rw [List.drop_eq_getElem_cons hi] at hk
    simp only [inS, List.any_cons] at hk
    by_cases he : l[i] = s
    · exact ifT_pos (by simpa using he) (retG_of (by simpa [he] using hk))
    · refine ifT_neg (by simpa using he) (rg_of (by omega) (by omega) (s90l1_go (has17_loop hv hm d (i + 1) (by omega) ?_)))
      rwa [decide_eq_false he, Bool.false_or] at hk
theorem has17_ok {v : AVal} {l : List ByteArray} {s : ByteArray} (hv : Strs v l) (hm : l.length ≤ 1073741824) (hk : K (.bool (inS l s)) h) : ACalls prog 90 [v, .str s] h K :=
  s90_ok (s90l1_in (l.length + 1) (has17_loop hv hm l.length 0 (by omega) (by simpa using hk)))
theorem fine_loop {v : AVal} {l : List ByteArray} (hv : Strs v l) (hm : SB l) : ∀ d i : Nat, i + d = l.length → K (.bool ((List.range' i d).all (fine1 l))) h → s89l1 K (d + 1) v (i : Int) h
  | 0, i, hd, hk => by
    unfold s89l1
    rw [hv.len]
    exact ifT_neg (by simp; omega) (retG_of (by simpa using hk))
  | d + 1, i, hd, hk => by
    have hi : i < l.length := by omega
    have hl := hm.1
    unfold s89l1
    rw [hv.len]
    refine ifT_pos (by simp; omega) ?_
    rw [hv.ix hi, ld1_lptr, tStr_str]
    refine callG_of (word3_ok _ ?_)
    rw [tBool_bool]
    rw [List.range'_succ, List.all_cons] at hk
    have rest : fine1 l i = true → s89c2 K (s89l1_G (s89l1 K (d + 1))) v i false h := by
      intro hg
      rw [hg] at hk
      exact ifT_neg rfl (rg_of (by omega) (by omega) (s89l1_go (fine_loop hv hm d (i + 1) (by omega) (by simpa using hk))))
    have stop : fine1 l i = false → s89c2 K (s89l1_G (s89l1 K (d + 1))) v i true h := by
      intro hg
      rw [hg] at hk
      exact ifT_pos rfl (retG_of (by simpa using hk))
    unfold fine1 at rest stop
    rw [getD_of hi] at rest stop
    cases hw : wordB l[i] with
    | false => exact ifT_pos rfl (stop (by rw [hw]; rfl))
    | true =>
      rw [hw, Bool.true_and] at rest stop
      refine ifT_neg rfl ?_
      by_cases h0 : 0 < i
      · refine ifT_pos (by simp; omega) (rg_of (by omega) (by omega) ?_)
        have hi1 : i - 1 < l.length := by omega
        rw [show (i : Int) - 1 = ((i - 1 : Nat) : Int) by omega, hv.ix hi1, ld1_lptr, tStr_str, hv.ix hi, ld1_lptr, tStr_str]
        rw [getD_of hi1, show (i == 0) = false by simp; omega, Bool.false_or] at rest stop
        cases hs : strLt l[i - 1] l[i] with
        | true => exact rest hs
        | false => exact stop hs
      · obtain rfl : i = 0 := by omega
        exact ifT_neg (by simp) (rest (by simp))
theorem fine_ok {v : AVal} {l : List ByteArray} (hv : Strs v l) (hm : SB l) (hk : K (.bool (fineB l)) h) : ACalls prog 89 [v] h K :=
  s89_ok (s89l1_in (l.length + 1) (fine_loop hv hm l.length 0 (by omega) hk))
end Go.Proofs.YtaopdcjjcpgebaaGreatDoor

namespace Go.Proofs.YtaopdcjjcpgebaaGreatDoor
open Go Go.Sym Go.Proofs.Tryz
variable {K : AVal → Heap → Prop}
section
variable {h0 : Heap} {up : List (List Int)} {ro ra a : Nat} {R : List AVal}
theorem order_l3 (hn : up.length ≤ 1073741824) (bad : ¬ InR up → K (.tuple [.nilsl, .bool false]) h0)
    {L1 : AVal → Int → AVal → Int → Heap → Prop} {L2 : AVal → Int → AVal → Int → AVal → Int → Heap → Prop} {m row : AVal} {r : List Int} {x : Nat} {i : Int} (hrow : Ints row r) (hr : r.length ≤ 1073741824)
    (hx : up[x]? = some r) (hax : Reach up a x) (han : a < up.length) (hi : -1 ≤ i ∧ i ≤ 1073741824) {marks0 : List Bool} {W : List Nat}
    (hL : ∀ marks t wait hb h, BF up a marks (W ++ t) → OM h0 ro ra a up.length R marks hb → Grow 1 hb wait (natV (W ++ t)) h → (∀ y : Nat, marks0[y]? = some true → marks[y]? = some true) →
      (∀ b ∈ r, 0 ≤ b ∧ b < up.length ∧ marks[b.toNat]? = some true) → L2 m up.length (.sl ro 1 0 up.length) a wait (i + 1) h) :
    ∀ d k : Nat, k + d = r.length → ∀ marks t wait hb h, BF up a marks (W ++ t) → OM h0 ro ra a up.length R marks hb → Grow 1 hb wait (natV (W ++ t)) h → (∀ y : Nat, marks0[y]? = some true → marks[y]? = some true) →
      (∀ b ∈ r.take k, 0 ≤ b ∧ b < up.length ∧ marks[b.toNat]? = some true) → s88l3 K L1 L2 (d + 1) m up.length (.sl ro 1 0 up.length) a wait i row (k : Int) h
  | 0, k, hd, marks, t, wait, hb, h, B, M, g, hmono, hdone => by
    unfold s88l3
    rw [hrow.len]
    refine ifT_neg (by simp; omega) (rg_of (by omega) (by omega) (hL marks t wait hb h B M g hmono ?_))
    rwa [List.take_of_length_le (by omega)] at hdone
  | d + 1, k, hd, marks, t, wait, hb, h, B, M, g, hmono, hdone => by
    have hk : k < r.length := by omega
    unfold s88l3
    rw [hrow.len]
    refine ifT_pos (by simp; omega) ?_
    rw [hrow.ix hk, ld1_lptr, tInt_int]
    have key : s88c5 K L1 L2 (s88l3_G (s88l3 K L1 L2 (d + 1))) m up.length (.sl ro 1 0 up.length) a wait i row k r[k] (decide (r[k] < 0) || decide ((up.length : Int) ≤ r[k])) h := by
      by_cases hbad : r[k] < 0 ∨ (up.length : Int) ≤ r[k]
      · refine ifT_pos (by simpa using hbad) (retG_drop (fun q o hq => g.old (M.old hq)) (bad fun hI => ?_))
        have := hI r (List.mem_of_getElem? hx) r[k] (List.getElem_mem hk)
        omega
      · refine ifT_neg (by simpa using hbad) ?_
        obtain ⟨b, hbk⟩ : ∃ b : Nat, r[k] = (b : Int) := ⟨r[k].toNat, by omega⟩
        have hbn : b < up.length := by omega
        rw [hbk]
        have hbm : b < marks.length := by rw [B.len]; exact hbn
        refine ixS_sl0 han ?_
        rw [ld1_ptr (g.old M.get_o) M.at_ rfl]
        refine ixS_sl0 hbn ?_
        rw [ld1_ptr (g.old M.get_a) (e := .bool marks[b]) (by simp [hbm]) rfl, tBool_bool]
        have hstep : Reach up a b := .tail hax ⟨r, hx, by rw [← hbk]; exact List.getElem_mem hk⟩
        have next : ∀ marks' t' wait' hb' h', BF up a marks' (W ++ t') → OM h0 ro ra a up.length R marks' hb' → Grow 1 hb' wait' (natV (W ++ t')) h' → (∀ y : Nat, marks[y]? = some true → marks'[y]? = some true) → marks'[b]? = some true →
            s88c4 K L1 L2 (s88l3_G (s88l3 K L1 L2 (d + 1))) m up.length (.sl ro 1 0 up.length) a wait' i row k h' := by
          intro marks' t' wait' hb' h' B' M' g' hm' hmb
          refine rg_of (by omega) (by omega) (s88l3_go (order_l3 hn bad hrow hr hx hax han hi hL d (k + 1) (by omega) marks' t' wait' hb' h' B' M' g' (fun y hy => hm' y (hmono y hy)) ?_))
          rw [List.take_succ_eq_append_getElem hk]
          intro c hc
          rcases List.mem_append.1 hc with hc | hc
          · obtain ⟨h1, h2, h3⟩ := hdone c hc
            exact ⟨h1, h2, hm' _ h3⟩
          · rw [List.mem_singleton.1 hc, hbk]
            exact ⟨by omega, by omega, by simpa using hmb⟩
        cases hmk : marks[b] with
        | true => exact ifT_neg rfl (next marks t wait hb h B M g (fun _ hy => hy) (by rw [List.getElem?_eq_getElem hbm, hmk]))
        | false =>
          refine ifT_pos rfl (ixS_sl0 han ?_)
          rw [ld1_ptr (g.old M.get_o) M.at_ rfl]
          refine ixS_sl0 hbn (st_elem (g.old M.get_a) (e := .bool marks[b]) (by simp [hbm]) rfl ?_)
          have hset : (marks.map AVal.bool).set b (.bool true) = (marks.set b true).map .bool := by rw [List.map_set]
          rw [hset]
          have B' := B.add (b := b) (by rw [List.getElem?_eq_getElem hbm, hmk]) hstep
          have g' := g.upd (x := .row 1 ((marks.set b true).map .bool)) M.get_a
          have hcnt := B'.cnt
          rw [List.append_assoc] at B' hcnt
          have hlen : (W ++ t).length + 1 ≤ up.length := by simp only [List.length_append, List.length_singleton] at hcnt ⊢; omega
          refine appC_one g' (by rw [natV_len]; omega) (by rw [natV_len]; omega) fun v' h' g2 => ?_
          rw [← natV_app, List.append_assoc] at g2
          refine next _ (t ++ [b]) v' _ h' B' M.put g2 (fun y hy => ?_) (by simp [hbm])
          rw [List.getElem?_set]
          by_cases e : b = y
          · subst e; simp [hbm]
          · rw [if_neg e]; exact hy
    by_cases h0' : r[k] < 0
    · refine ifT_pos (by simpa using h0') ?_
      rwa [show (decide (r[k] < 0) || decide ((up.length : Int) ≤ r[k])) = true by simp [h0']] at key
    · refine ifT_neg (by simpa using h0') ?_
      rwa [show (decide (r[k] < 0) || decide ((up.length : Int) ≤ r[k])) = decide ((up.length : Int) ≤ r[k]) by simp [h0']] at key
theorem order_l2 (hn : up.length ≤ 1073741824) (hrl : ∀ r ∈ up, r.length ≤ 1073741824) (bad : ¬ InR up → K (.tuple [.nilsl, .bool false]) h0)
    {L1 : AVal → Int → AVal → Int → Heap → Prop} {mU mV : AVal} (hU : Intss mU up) (han : a < up.length)
    (hL : ∀ wait hb h marks W, OM h0 ro ra a up.length R (rowB up a) hb → Grow 1 hb wait (natV W) h → marks = rowB up a → (∀ b ∈ up[a], 0 ≤ b ∧ b < up.length) → L1 (.lptr [mU, mV]) up.length (.sl ro 1 0 up.length) (a + 1) h) :
    ∀ d i : Nat, i + d = up.length → ∀ marks W wait hb h, W.length ≤ i + d → i ≤ W.length → W[0]? = some a → BF up a marks W → OM h0 ro ra a up.length R marks hb → Grow 1 hb wait (natV W) h →
      (∀ j y r, j < i → W[j]? = some y → up[y]? = some r → ∀ b ∈ r, 0 ≤ b ∧ b < up.length ∧ marks[b.toNat]? = some true) →
      s88l2 K L1 (d + 1) (.lptr [mU, mV]) up.length (.sl ro 1 0 up.length) a wait (i : Int) h := by
  intro d
  induction d with
  | zero =>
    intro i hd marks W wait hb h hWi hiW h0W B M g hcl
    unfold s88l2
    rw [g.len, natV_len]
    refine ifT_neg (by simp; omega) (rg_of (by omega) (by omega) ?_)
    have hW : W.length = i := by omega
    have hm := B.done (List.mem_of_getElem? h0W) fun y hy c ⟨r, hr, hc⟩ => by
      obtain ⟨j, hj, hjy⟩ := List.mem_iff_getElem.1 hy
      have := (hcl j y r (by omega) (by rw [← hjy]; exact List.getElem?_eq_getElem hj) hr _ hc).2.2
      simpa using this
    rw [hm] at M
    exact hL wait hb h marks W M g hm fun b hb => by
      have h1 := hcl 0 a _ (by have := (List.getElem?_eq_some_iff.1 h0W).1; omega) h0W (List.getElem?_eq_getElem han) b hb
      exact ⟨h1.1, h1.2.1⟩
  | succ d ih =>
    intro i hd marks W wait hb h hWi hiW h0W B M g hcl
    unfold s88l2
    rw [g.len, natV_len]
    by_cases hlt : i < W.length
    · refine ifT_pos (by simp; omega) ?_
      rw [addOff_lptr]
      simp only [List.drop_zero, ld1_lptr]
      have hWx : W[i]? = some W[i] := List.getElem?_eq_getElem hlt
      obtain ⟨hxn, hxr⟩ := B.reach _ (List.getElem_mem hlt)
      refine g.ix (natV_get hWx) rfl ?_
      rw [tInt_int]
      obtain ⟨e, he, hix⟩ := hU.ix hxn
      rw [hix, ld1_lptr]
      have hup : up[W[i]]? = some up[W[i]] := List.getElem?_eq_getElem hxn
      refine s88l3_in (up[W[i]].length + 1) ?_
      have hWn : W.length ≤ up.length := by have := B.cnt; omega
      refine order_l3 (W := W) (marks0 := marks) hn bad he (hrl _ (List.getElem_mem hxn)) hup hxr han (by omega) (fun marks' t wait' hb' h' B' M' g' hmono hr' => ?_) _ 0 (by omega) marks [] wait hb h (by simpa using B) M (by simpa using g) (fun _ hy => hy) (by simp)
      refine s88l2_go ?_
      have hcnt := B'.cnt
      rw [show (i : Int) + 1 = ((i + 1 : Nat) : Int) by omega]
      refine ih (i + 1) (by omega) marks' (W ++ t) wait' hb' h' (by omega) (by simp; omega) ?_ B' M' g' ?_
      · rw [List.getElem?_append_left (by omega)]; exact h0W
      · intro j y r hj hy hr b hb
        rw [List.getElem?_append_left (by omega)] at hy
        by_cases hji : j = i
        · subst hji
          rw [hWx] at hy
          cases hy
          rw [hup] at hr
          cases hr
          exact hr' b hb
        · obtain ⟨h1, h2, h3⟩ := hcl j y r (by omega) hy hr b hb
          exact ⟨h1, h2, hmono _ h3⟩
    · refine ifT_neg (by simp; omega) (rg_of (by omega) (by omega) ?_)
      have hm := B.done (List.mem_of_getElem? h0W) fun y hy c ⟨r, hr, hc⟩ => by
        obtain ⟨j, hj, hjy⟩ := List.mem_iff_getElem.1 hy
        have := (hcl j y r (by omega) (by rw [← hjy]; exact List.getElem?_eq_getElem hj) hr _ hc).2.2
        simpa using this
      rw [hm] at M
      exact hL wait hb h marks W M g hm fun b hb => by
        have h1 := hcl 0 a _ (by have := (List.getElem?_eq_some_iff.1 h0W).1; omega) h0W (List.getElem?_eq_getElem han) b hb
        exact ⟨h1.1, h1.2.1⟩
theorem order_l1 (hn : up.length ≤ 1073741824) (hrl : ∀ r ∈ up, r.length ≤ 1073741824) (bad : ¬ InR up → K (.tuple [.nilsl, .bool false]) h0) (good : InR up → ∀ o, OTab o up → K (.tuple [o, .bool true]) h0)
    {mU mV : AVal} (hU : Intss mU up) (ho : h0 ro = none) : ∀ d a : Nat, a + d = up.length → ∀ R, TU up a R → (∀ a' r, a' < a → up[a']? = some r → ∀ b ∈ r, 0 ≤ b ∧ b < up.length) →
      s88l1 K (d + 1) (.lptr [mU, mV]) up.length (.sl ro 1 0 up.length) (a : Int) (h0.set ro (.row 1 R))
  | 0, a, hd, R, T, hr => by
    unfold s88l1
    refine ifT_neg (by simp; omega) ?_
    refine ⟨fun q => q = ro, .tuple [.lsl 1 R, .bool true], h0, .tuple (.cons (.whole rfl (Heap.set_same _ _ _) T.len.symm) (.cons (.refl _) .nil)), ⟨fun _ _ => trivial, fun q o hq => ⟨o, Heap.set_sub ho q o hq, (fun e => by rw [e, ho] at hq; cases hq), .refl o⟩⟩, ?_⟩
    refine good (fun r hrm b hb => ?_) _ ⟨R, .lsl 1 R, T.len, fun a' ha' => T.done a' (by omega)⟩
    obtain ⟨j, hj, rfl⟩ := List.mem_iff_getElem.1 hrm
    exact hr j _ (by omega) (List.getElem?_eq_getElem hj) b hb
  | d + 1, a, hd, R, T, hr => by
    have han : a < up.length := by omega
    unfold s88l1
    refine ifT_pos (by simp; omega) (mkS_own (by omega) (by omega) fun ra hra => ?_)
    have hne : ra ≠ ro := fun e => by rw [e, Heap.set_same] at hra; cases hra
    have ha0 : h0 ra = none := by rwa [Heap.set_ne _ _ hne] at hra
    obtain ⟨e0, he0, hagg0⟩ := T.rest a han
    refine ixS_sl0 han (chk_iff.2 ⟨rfl, ?_⟩)
    refine st_elem (es := 1) (elems := R) (by rw [Heap.set_ne _ _ hne.symm, Heap.set_same]) he0 hagg0 ?_
    refine ixS_sl0 han ?_
    have hRa : (R.set a (.sl ra 1 0 up.length))[a]? = some (.sl ra 1 0 up.length) := by rw [List.getElem?_set_self]; rw [T.len]; exact han
    rw [ld1_ptr (Heap.set_same _ _ _) hRa rfl]
    refine ixS_sl0 han (st_elem (es := 1) (elems := List.replicate up.length (.bool false)) (e := .bool false) (by rw [Heap.set_ne _ _ hne, Heap.set_same]) (by simp [han]) rfl ?_)
    have hmarks : (List.replicate up.length (AVal.bool false)).set a (.bool true) = ((List.replicate up.length false).set a true).map .bool := by rw [List.map_set, List.map_replicate]
    rw [hmarks]
    refine newRow_in fun r hrn => ?_
    have M : OM h0 ro ra a up.length (R.set a (.sl ra 1 0 up.length)) ((List.replicate up.length false).set a true)
        ((((h0.set ro (.row 1 R)).set ra (.row 1 (List.replicate up.length (.bool false)))).set ro (.row 1 (R.set a (.sl ra 1 0 up.length)))).set ra (.row 1 (((List.replicate up.length false).set a true).map .bool))) := by
      refine ⟨ho, ha0, hne, ?_, hRa, by simp [T.len]⟩
      funext q
      by_cases h1 : q = ra
      · simp [Heap.set, h1]
      · by_cases h2 : q = ro
        · subst h2; simp [Heap.set, h1]
        · simp [Heap.set, h1, h2]
    refine s88l2_in (up.length + 1) ?_
    refine order_l2 (ra := ra) (R := R.set a (.sl ra 1 0 up.length)) hn hrl bad hU han (fun wait hb h marks W M' g hm hra' => ?_) up.length 0 (by omega) _ [a] _ _ _ (by simp; omega) (by simp) rfl (BF.start han) M (Grow.own (l := natV [a]) hrn) (by intro j y r hj; omega)
    refine ⟨fun q => q = ra, _, h0.set ro (.row 1 ((R.set a (.sl ra 1 0 up.length)).set a (.lsl 1 ((rowB up a).map .bool)))), Lits.refl _, GStep.row (g.old M'.get_o) hne ha0 (fun q o hq => g.old (M'.old hq)) hRa
      (.whole rfl (g.old M'.get_a) (by simp [rowB])), rfl, ?_⟩
    rw [List.set_set]
    have := order_l1 (mV := mV) hn hrl bad good hU ho d (a + 1) (by omega) (R.set a (.lsl 1 ((rowB up a).map .bool))) ⟨by simp [T.len], fun a' ha' => ?_, fun a' ha' => ?_⟩ (fun a' r ha' hr' => ?_)
    · exact this
    · by_cases e : a' = a
      · subst e
        exact ⟨_, List.getElem?_set_self (by rw [T.len]; exact han), rfl, .lsl 1 _⟩
      · rw [List.getElem?_set_ne (Ne.symm e)]
        exact T.done a' (by omega)
    · by_cases e : a' = a
      · subst e
        exact ⟨_, List.getElem?_set_self (by rw [T.len]; exact han), rfl⟩
      · rw [List.getElem?_set_ne (Ne.symm e)]
        exact T.rest a' ha'
    · by_cases e : a' = a
      · subst e
        rw [List.getElem?_eq_getElem han] at hr'
        cases hr'
        exact hra'
      · exact hr a' r (by omega) hr'
theorem order_ok {mU mV : AVal} {h : Heap} (hn : up.length ≤ 1048576) (hrl : ∀ r ∈ up, r.length ≤ 1073741824) (hU : Intss mU up) (bad : ¬ InR up → K (.tuple [.nilsl, .bool false]) h) (good : InR up → ∀ o, OTab o up → K (.tuple [o, .bool true]) h) :
    ACalls prog 88 [.agg [mU, mV]] h K := by
  refine s88_ok ?_
  unfold s88
  rw [hU.len]
  refine mkS_own (by omega) (by omega) fun ro hro => s88l1_in (up.length + 1) ?_
  exact order_l1 (by omega) hrl bad good hU hro up.length 0 (by omega) _ ⟨by simp, by intro a' ha'; omega, fun a' ha' => ⟨.nilsl, by simp [ha'], rfl⟩⟩ (by intro a' r ha'; omega)
end
end Go.Proofs.YtaopdcjjcpgebaaGreatDoor

namespace Go.Proofs.YtaopdcjjcpgebaaGreatDoor
open Go Go.Sym Go.Proofs.Tryz
variable {K : AVal → Heap → Prop} {h : Heap} {up : List (List Int)} {val : List (List ByteArray)} {mU mV : AVal}
theorem right_l7 (S : Small up val) (hU : Intss mU up) (hV : Strss mV val) {o : AVal} {a b : Nat} (ha : a < val.length) (hb : b < val.length) (hn : up.length ≤ 512)
    {L3 : AVal → Int → AVal → Int → Heap → Prop} {L4 : AVal → Int → AVal → Int → Int → Heap → Prop}
    (bad : ¬ (∀ s ∈ val[a], s ∈ val[b]) → K (.tuple [.nilsl, .bool false]) h) (hL : (∀ s ∈ val[a], s ∈ val[b]) → s51c5 K L3 L4 (.lptr [mU, mV]) up.length o a b h) :
    ∀ d k : Nat, k + d = val[a].length → (∀ s ∈ val[a].take k, s ∈ val[b]) → s51l7 K L3 L4 (d + 1) (.lptr [mU, mV]) up.length o a b (k : Int) h := by
  intro d
  have hSa := (S.names _ (List.getElem_mem ha)).1
  have hSb := (S.names _ (List.getElem_mem hb)).1
  obtain ⟨ea, hea, hixa⟩ := hV.ix ha
  obtain ⟨eb, heb, hixb⟩ := hV.ix hb
  induction d with
  | zero =>
    intro k hd hk
    unfold s51l7
    simp only [addOff_lptr, List.drop_succ_cons, List.drop_zero, ld1_lptr, hixa, hea.len]
    refine ifT_neg (by simp; omega) (hL ?_)
    rwa [List.take_of_length_le (by omega)] at hk
  | succ d ih =>
    intro k hd hk
    have hlt : k < val[a].length := by omega
    unfold s51l7
    simp only [addOff_lptr, List.drop_succ_cons, List.drop_zero, ld1_lptr, hixa, hixb, hea.len, hea.ix hlt, tStr_str]
    refine ifT_pos (by simp; omega) (callG_of (has17_ok heb hSb.1 ?_))
    rw [tBool_bool]
    have hla := hSa.1
    cases hin : inS val[b] val[a][k] with
    | true =>
      refine ifT_neg rfl (rg_of (by omega) (by omega) (s51l7_go (ih (k + 1) (by omega) ?_)))
      rw [List.take_succ_eq_append_getElem hlt]
      intro s hs
      rcases List.mem_append.1 hs with hs | hs
      · exact hk s hs
      · rw [List.mem_singleton.1 hs]; exact inS_iff.1 hin
    | false =>
      refine ifT_pos rfl (retG_of (bad fun hall => ?_))
      have := inS_iff.2 (hall _ (List.getElem_mem hlt))
      rw [hin] at this
      cases this
theorem right_l4 (S : Small up val) (hU : Intss mU up) (hV : Strss mV val) {o : AVal} (hO : OTab o up) (hl : val.length = up.length) (hn : up.length ≤ 512) {a : Nat} (ha : a < up.length)
    (bad : ¬ WF up val → K (.tuple [.nilsl, .bool false]) h) {L3 : AVal → Int → AVal → Int → Heap → Prop} (hL : (∀ b, b < up.length → Cond up val a b) → L3 (.lptr [mU, mV]) up.length o (a + 1) h) :
    ∀ d b : Nat, b + d = up.length → (∀ b', b' < b → Cond up val a b') → s51l4 K L3 (d + 1) (.lptr [mU, mV]) up.length o a (b : Int) h := by
  intro d
  induction d with
  | zero =>
    intro b hd hk
    unfold s51l4
    exact ifT_neg (by simp; omega) (rg_of (by omega) (by omega) (hL fun b' hb' => hk b' (by omega)))
  | succ d ih =>
    intro b hd hk
    have hb : b < up.length := by omega
    obtain ⟨ea, hrow, _, hixa⟩ := hO.row (h' := h) ha
    obtain ⟨eb, hrowb, _, hixb⟩ := hO.row (h' := h) hb
    have next : Cond up val a b → s51c5 K L3 (s51l4_G (s51l4 K L3 (d + 1))) (.lptr [mU, mV]) up.length o a b h := by
      intro hc
      refine rg_of (by omega) (by omega) (s51l4_go (ih (b + 1) (by omega) fun b' hb' => ?_))
      by_cases e : b' = b
      · rw [e]; exact hc
      · exact hk b' (by omega)
    unfold s51l4
    refine ifT_pos (by simp; omega) ?_
    rw [hrow, hixa b hb, tBool_bool]
    cases hr : rb up a b with
    | false =>
      refine ifT_pos rfl (ifT_pos rfl (next fun hR => ?_))
      rw [rb_iff.2 hR] at hr; cases hr
    | true =>
      refine ifT_neg rfl ?_
      by_cases hab : a = b
      · refine ifT_pos (by simp [hab]) (next fun _ hne => absurd hab hne)
      · refine ifT_neg (by simp; omega) ?_
        rw [hrowb, hixb a ha, tBool_bool]
        cases hr2 : rb up b a with
        | true =>
          refine ifT_pos rfl (retG_of (bad fun W => ?_))
          exact (W.cond a b ha hb (rb_iff.1 hr) hab).1 (rb_iff.1 hr2)
        | false =>
          refine ifT_neg rfl (s51l7_in (val[a].length + 1) ?_)
          have hgo : (∀ s ∈ val[a], s ∈ val[b]) → Cond up val a b := fun hall _ _ => ⟨(fun e => by rw [rb_iff.2 e] at hr2; cases hr2), by rw [getD_val, getD_val]; exact hall⟩
          refine right_l7 S hU hV (by omega) (by omega) hn (fun hno => bad fun W => hno ?_) (fun hall => next (hgo hall)) _ 0 (by omega) (by simp)
          have := (W.cond a b ha hb (rb_iff.1 hr) hab).2
          rwa [getD_val, getD_val] at this
theorem right_l3 (S : Small up val) (hU : Intss mU up) (hV : Strss mV val) {o : AVal} (hO : OTab o up) (hl : val.length = up.length) (hn : up.length ≤ 512)
    (bad : ¬ WF up val → K (.tuple [.nilsl, .bool false]) h) (good : (∀ a b, a < up.length → b < up.length → Cond up val a b) → K (.tuple [o, .bool true]) h) :
    ∀ d a : Nat, a + d = up.length → (∀ a' b, a' < a → b < up.length → Cond up val a' b) → s51l3 K (d + 1) (.lptr [mU, mV]) up.length o (a : Int) h := by
  intro d
  induction d with
  | zero =>
    intro a hd hk
    unfold s51l3
    exact ifT_neg (by simp; omega) (retG_of (good fun a' b ha' hb' => hk a' b (by omega) hb'))
  | succ d ih =>
    intro a hd hk
    unfold s51l3
    refine ifT_pos (by simp; omega) (s51l4_in (up.length + 1) ?_)
    refine right_l4 S hU hV hO hl hn (by omega) bad (fun hc => s51l3_go (ih (a + 1) (by omega) fun a' b ha' hb' => ?_)) up.length 0 (by omega) (by intro b' hb'; omega)
    by_cases e : a' = a
    · rw [e]; exact hc b hb'
    · exact hk a' b (by omega) hb'
theorem right_l2 (S : Small up val) (hU : Intss mU up) (hV : Strss mV val) {o : AVal} (hO : OTab o up) (hl : val.length = up.length) (hn : up.length ≤ 512)
    (bad : ¬ WF up val → K (.tuple [.nilsl, .bool false]) h) (good : (∀ l ∈ val, fineB l = true) → (∀ a b, a < up.length → b < up.length → Cond up val a b) → K (.tuple [o, .bool true]) h) :
    ∀ d a : Nat, a + d = up.length → (∀ l ∈ val.take a, fineB l = true) → s51l2 K (d + 1) (.lptr [mU, mV]) up.length o (a : Int) h := by
  intro d
  induction d with
  | zero =>
    intro a hd hk
    unfold s51l2
    rw [List.take_of_length_le (by omega)] at hk
    refine ifT_neg (by simp; omega) (s51l3_in (up.length + 1) (right_l3 S hU hV hO hl hn bad (good hk) up.length 0 (by omega) (by intro a' b ha'; omega)))
  | succ d ih =>
    intro a hd hk
    have ha : a < val.length := by omega
    obtain ⟨ea, hea, hixa⟩ := hV.ix ha
    unfold s51l2
    refine ifT_pos (by simp; omega) ?_
    simp only [addOff_lptr, List.drop_succ_cons, List.drop_zero, ld1_lptr, hixa]
    refine callG_of (fine_ok hea (S.names _ (List.getElem_mem ha)).1 ?_)
    rw [tBool_bool]
    cases hf : fineB val[a] with
    | false =>
      refine ifT_pos rfl (retG_of (bad fun W => ?_))
      have := W.fine _ (List.getElem_mem ha)
      rw [hf] at this; cases this
    | true =>
      refine ifT_neg rfl (rg_of (by omega) (by omega) (s51l2_go (ih (a + 1) (by omega) ?_)))
      rw [List.take_succ_eq_append_getElem ha]
      intro l hl'
      rcases List.mem_append.1 hl' with hl' | hl'
      · exact hk l hl'
      · rw [List.mem_singleton.1 hl']; exact hf
theorem right_ok (S : Small up val) (hU : Intss mU up) (hV : Strss mV val) (bad : ¬ WF up val → K (.tuple [.nilsl, .bool false]) h) (good : WF up val → ∀ o, OTab o up → K (.tuple [o, .bool true]) h) :
    ACalls prog 51 [.agg [mU, mV]] h K := by
  refine s51_ok ?_
  have hup := S.ups
  unfold s51
  rw [hU.len]
  by_cases h1 : up.length < 1
  · exact ifT_pos (by simp; omega) (ifT_pos rfl (retG_of (bad fun W => by have := W.pos; omega)))
  · refine ifT_neg (by simp; omega) ?_
    by_cases h2 : 512 < up.length
    · exact ifT_pos (by simp; omega) (ifT_pos rfl (retG_of (bad fun W => by have := W.max; omega)))
    · refine ifT_neg (by simp; omega) ?_
      rw [hV.len]
      by_cases h3 : val.length = up.length
      · refine ifT_neg (by simp [h3]) ?_
        rw [ldN_agg2, tCons_cons, tCons_cons, tNil_nil]
        refine callG_of (order_ok hup (fun r hr => by have := S.row r hr; omega) hU (fun hI => ?_) fun hI o hO => ?_)
        · simp only [tTup_tuple, tCons_cons, tBool_bool, tNil_nil]
          exact ifT_pos rfl (retG_of (bad fun W => hI W.inR))
        · simp only [tTup_tuple, tCons_cons, tBool_bool, tNil_nil]
          refine ifT_neg rfl (s51l2_in (up.length + 1) (right_l2 S hU hV hO h3 (by omega) bad (fun hf hc => good ⟨by omega, by omega, h3, hI, hf, hc⟩ o hO) up.length 0 (by omega) (by simp)))
      · exact ifT_pos (by simp; omega) (retG_of (bad fun W => h3 W.len))
end Go.Proofs.YtaopdcjjcpgebaaGreatDoor

/- Contracts: lists of names and of numbers, the same models. No condition. Contracts: what a name is. No condition. Contracts: tables that are read: has, Find. No condition. Contracts: a table of formulas is owned: a row is put in (the program's and the document's). No condition. Contracts: tables out of rows: From, Both. No condition. Contracts: the program's Node, Below. No condition. Words: what names stand for; a formula's element; maps by a key. No condition. Printed by lay.py (this repo, wip/tools): where the library's functions stand in the given program. No condition. Contract: the library's sort of no names. No condition. Contract: the program's Atoms: the worlds of each name. No condition. Contract: the program's Atoms. No condition. Contract: the program's Atoms, whole. No condition. -/
import Derived.Test.YtljglglbfcgjpaaGreatA1
import Derived.Test.YtljglglbfcgjpaaGreatM6
import Derived.Test.YtljglglbfcgjpaaGreatA2
import Derived.Shelf.Sort.Plain
import Derived.Test.YtljglglbfcgjpaaGreatProg
import Derived.KernelRfl
import Derived.Test.YtljglglbfcgjpaaGreatM7

set_option linter.unusedVariables false
set_option linter.unusedSimpArgs false

namespace Go.Proofs.YtljglglbfcgjpaaGreat
open Go Go.Sym Go.Proofs.Tryz
variable {K : AVal → Heap → Prop} {h : Heap}
theorem names_loop {a b : AVal} {la lb : List ByteArray} (ha : Strs a la) (hb : Strs b lb) (hl : la.length = lb.length) (hm : la.length ≤ 1073741824) : ∀ d i : Nat, i + d = la.length →
    K (.bool (decide (la.drop i = lb.drop i))) h → s42l1 K (d + 1) a b (i : Int) h
  | 0, i, hd, hk => by
    unfold s42l1
    rw [ha.len]
    refine ifT_neg (by simp; omega) (retG_of ?_)
    rw [List.drop_eq_nil_of_le (by omega), List.drop_eq_nil_of_le (by omega)] at hk
    simpa using hk
  | d + 1, i, hd, hk => by
    have hi : i < la.length := by omega
    have hi' : i < lb.length := by omega
    unfold s42l1
    rw [ha.len]
    refine ifT_pos (by simp; omega) ?_
    rw [ha.ix hi, ld1_lptr, tStr_str, hb.ix hi', ld1_lptr, tStr_str, strEq_dec]
    rw [drop_eq_step hi hi'] at hk
    by_cases he : la[i] = lb[i]
    · refine ifT_neg (by simp [he]) (rg_of (by omega) (by omega) ?_)
      exact s42l1_go (names_loop ha hb hl hm d (i + 1) (by omega) (by simpa [he] using hk))
    · refine ifT_pos (by simp [he]) (retG_of ?_)
      simpa [he] using hk
theorem names_ok {a b : AVal} {la lb : List ByteArray} (ha : Strs a la) (hb : Strs b lb) (hm : la.length ≤ 1073741824) (hk : K (.bool (decide (la = lb))) h) :
    ACalls prog 42 [a, b] h K := by
  refine s42_ok ?_
  unfold s42
  rw [ha.len, hb.len]
  by_cases hl : la.length = lb.length
  · refine ifT_neg (by simp [hl]) (s42l1_in (la.length + 1) ?_)
    exact names_loop ha hb hl hm la.length 0 (by omega) (by simpa using hk)
  · refine ifT_pos (by simp; omega) (retG_of ?_)
    rwa [show decide (la = lb) = false by simp; intro e; exact hl (by rw [e])] at hk
end Go.Proofs.YtljglglbfcgjpaaGreat

namespace Go.Proofs.YtljglglbfcgjpaaGreat
open Go Go.Sym Go.Proofs.Tryz
variable {K : AVal → Heap → Prop} {h : Heap}
theorem letter_ok (c : Int) (hk : K (.bool (ltB c)) h) : ACalls prog 131 [.int .u8 c] h K := by
  refine s131_ok ?_
  unfold s131
  unfold ltB at hk
  by_cases h1 : 97 ≤ c <;> by_cases h2 : c ≤ 122 <;> by_cases h3 : 65 ≤ c <;> simp [h1, h2, h3, ifT_eq] at hk ⊢ <;> exact retG_of (by simpa using hk)
theorem reserved3_ok (hk : ∀ v, Strs v resL → K v h) : ACalls prog 132 [] h K := by
  refine s132_ok ?_
  unfold s132
  exact retG_of (hk _ (.inl rfl))
theorem word3_res {v : AVal} {s : ByteArray} {l : List ByteArray} (hv : Strs v l) (hm : l.length ≤ 1073741824) : ∀ d i : Nat, i + d = l.length → K (.bool ((l.drop i).all fun r => !strEq r s)) h → s103l4 K (d + 1) s v (i : Int) h
  | 0, i, hd, hk => by
    unfold s103l4
    rw [hv.len]
    refine ifT_neg (by simp; omega) (retG_of ?_)
    rw [List.drop_eq_nil_of_le (by omega)] at hk
    simpa using hk
  | d + 1, i, hd, hk => by
    have hi : i < l.length := by omega
    unfold s103l4
    rw [hv.len]
    refine ifT_pos (by simp; omega) ?_
    rw [hv.ix hi, ld1_lptr, tStr_str]
    rw [List.drop_eq_getElem_cons hi, List.all_cons] at hk
    cases he : strEq l[i] s with
    | true => rw [he] at hk; exact ifT_pos rfl (retG_of (by simpa using hk))
    | false =>
      rw [he] at hk
      refine ifT_neg rfl (rg_of (by omega) (by omega) ?_)
      exact s103l4_go (word3_res hv hm d (i + 1) (by omega) (by simpa using hk))
theorem word3_loop {s : ByteArray} (hm : s.size ≤ 31) : ∀ d i : Nat, 1 ≤ i → i + d = s.size → K (.bool ((List.range' i d).all (goodB s) && resL.all fun r => !strEq r s)) h → s103l2 K (d + 1) s (i : Int) h
  | 0, i, h1, hd, hk => by
    unfold s103l2
    refine ifT_neg (by simp; omega) (callG_of (reserved3_ok fun v hv => s103l4_in 13 ?_))
    exact word3_res hv (by decide) 12 0 rfl (by simpa using hk)
  | d + 1, i, h1, hd, hk => by
    unfold s103l2
    refine ifT_pos (by simp; omega) ⟨by omega, callG_of (letter_ok _ ?_)⟩
    rw [tBool_bool]
    rw [List.range'_succ, List.all_cons] at hk
    have rest : goodB s i = true → s103c3 K (s103l2_G (s103l2 K (d + 1))) s i false h := by
      intro hg
      rw [hg] at hk
      exact ifT_neg rfl (rg_of (by omega) (by omega) (s103l2_go (word3_loop hm d (i + 1) (by omega) (by omega) (by simpa using hk))))
    have stop : goodB s i = false → s103c3 K (s103l2_G (s103l2 K (d + 1))) s i true h := by
      intro hg
      rw [hg] at hk
      exact ifT_pos rfl (retG_of (by simpa using hk))
    have hi0 : (i != 0) = true := by simp; omega
    have hgood : goodB s i = (ltB (btA s i) || dgB (btA s i)) := by simp [goodB, hi0]
    cases hl : ltB (btA s i) with
    | true => exact ifT_neg rfl (rest (by rw [hgood, hl]; rfl))
    | false =>
      rw [hl, Bool.false_or] at hgood
      unfold dgB at hgood
      generalize btA s i = c at *
      refine ifT_pos rfl ⟨by omega, ?_⟩
      by_cases h48 : 48 ≤ c
      · refine ifT_pos (by simpa using h48) ⟨by omega, ?_⟩
        by_cases h57 : c ≤ 57
        · refine ifT_neg (by simpa using h57) (rest (by rw [hgood]; simp [h48, h57]))
        · refine ifT_pos (by simpa using h57) ⟨by omega, ?_⟩
          by_cases h95 : c = 95
          · exact ifT_neg (by simp [h95]) (rest (by rw [hgood]; simp [h95]))
          · refine ifT_pos (by simpa using h95) ⟨by omega, ?_⟩
            by_cases h39 : c = 39
            · rw [show (c != 39) = false by simp [h39]]; exact rest (by rw [hgood]; simp [h39])
            · rw [show (c != 39) = true by simpa using h39]; exact stop (by rw [hgood]; simp [h57, h95, h39])
      · refine ifT_neg (by simpa using h48) ⟨by omega, ?_⟩
        by_cases h95 : c = 95
        · exact ifT_neg (by simp [h95]) (rest (by rw [hgood]; simp [h95]))
        · refine ifT_pos (by simpa using h95) ⟨by omega, ?_⟩
          by_cases h39 : c = 39
          · rw [show (c != 39) = false by simp [h39]]; exact rest (by rw [hgood]; simp [h39])
          · rw [show (c != 39) = true by simpa using h39]; exact stop (by rw [hgood]; simp [h48, h95, h39])
theorem word3_ok (s : ByteArray) (hk : K (.bool (wordB s)) h) : ACalls prog 103 [.str s] h K := by
  refine s103_ok ?_
  unfold s103
  unfold wordB at hk
  by_cases h1 : s.size < 1
  · refine ifT_pos (by simp; omega) (ifT_pos rfl (retG_of ?_))
    rw [decide_eq_false (by omega : ¬ s.size ≠ 0)] at hk
    exact hk
  · refine ifT_neg (by simp; omega) ?_
    rw [decide_eq_true (by omega : s.size ≠ 0), Bool.true_and] at hk
    by_cases h2 : 31 < s.size
    · refine ifT_pos (by simp; omega) (ifT_pos rfl (retG_of ?_))
      rw [show decide (s.size ≤ 31) = false by simp; omega] at hk
      exact hk
    · refine ifT_neg (by simp; omega) ⟨by omega, callG_of (letter_ok _ ?_)⟩
      rw [tBool_bool]
      rw [show decide (s.size ≤ 31) = true by simp; omega, Bool.true_and] at hk
      obtain ⟨m, hm⟩ : ∃ m, s.size = m + 1 := ⟨s.size - 1, by omega⟩
      rw [hm, List.range'_succ, List.all_cons, show goodB s 0 = ltB (btA s 0) by simp [goodB]] at hk
      cases hl : ltB (btA s 0) with
      | true =>
        rw [hl] at hk
        exact ifT_neg rfl (s103l2_in (m + 1) (word3_loop (by omega) m 1 (by omega) (by omega) (by simpa using hk)))
      | false =>
        rw [hl] at hk
        exact ifT_pos rfl (retG_of (by simpa using hk))
end Go.Proofs.YtljglglbfcgjpaaGreat

namespace Go.Proofs.YtljglglbfcgjpaaGreat
open Go Go.Sym Go.Proofs.Tryz
variable {K : AVal → Heap → Prop} {h h0 hb : Heap}
theorem ndB_comm (x y : Nd) : ndB x y = ndB y x := by
  rw [Bool.eq_iff_iff, ndB_iff, ndB_iff]
  exact eq_comm
def hasN (n : Nat) (i : Int) : Bool := decide (0 ≤ i) && decide (i < n)
theorem aliveP_ok {t : AVal} {xs : List Nd} (R : PRd h t xs) (hk : K (.bool true) h) : ACalls prog 91 [t] h K := by
  obtain ⟨rt, vN, q, es, rfl, h2, h3, h4⟩ := R
  refine s91_ok ?_
  unfold s91
  rw [nilPp]
  refine ifT_pos rfl ?_
  rw [nilCheck_ptr, addOff_ptr, ld1_fld h2 rfl, nilMr]
  exact retG_of hk
theorem hasP_ok {t : AVal} {xs : List Nd} (R : PRd h t xs) (i : Int) (hk : K (.bool (hasN xs.length i)) h) : ACalls prog 92 [t, .int .i64 i] h K := by
  obtain ⟨vN, h4, hl⟩ := R.ld
  refine s92_ok ?_
  unfold s92
  unfold hasN at hk
  by_cases h0 : 0 ≤ i
  · refine ifT_pos (decide_eq_true h0) ?_
    rw [hl, h4.len]
    exact retG_of (by simpa [h0] using hk)
  · exact ifT_neg (decide_eq_false h0) (retG_of (by simpa [h0] using hk))
theorem hasT_ok {t : AVal} {xs : List Nd} (R : DRd h t xs) (i : Int) (hk : K (.bool (hasN xs.length i)) h) : ACalls prog 24 [t, .int .i64 i] h K := by
  obtain ⟨vN, h4, hl⟩ := R.ld
  refine s24_ok ?_
  unfold s24
  unfold hasN at hk
  by_cases h0 : 0 ≤ i
  · refine ifT_pos (decide_eq_true h0) ?_
    rw [hl, h4.len]
    exact retG_of (by simpa [h0] using hk)
  · exact ifT_neg (decide_eq_false h0) (retG_of (by simpa [h0] using hk))
theorem findT_l1 {t : AVal} {xs : List Nd} (R : DRd h t xs) (hx : xs.length ≤ 1048576) (y : Nd) (yes : ∀ i : Nat, ndIx y xs = some i → K (.tuple [.int .i64 i, .bool true]) h) (no : ndIx y xs = none → K (.tuple [.int .i64 0, .bool false]) h) :
    ∀ d i : Nat, i + d = xs.length → (∀ j x, j < i → xs[j]? = some x → ndB x y = false) → s119l1 K (d + 1) t (.lptr (nodeC y)) (i : Int) h
  | 0, i, hd, hi => by
    obtain ⟨vN, h4, hl⟩ := R.ld
    unfold s119l1
    rw [hl, h4.len]
    refine ifT_neg (by simp; omega) (retG_of (no ?_))
    unfold ndIx
    rw [List.findIdx?_eq_none_iff]
    intro x hx
    obtain ⟨j, hj, e⟩ := List.mem_iff_getElem.1 hx
    exact hi j x (by omega) (by rw [List.getElem?_eq_getElem hj, e])
  | d + 1, i, hd, hi => by
    have hil : i < xs.length := by omega
    obtain ⟨vN, h4, hl⟩ := R.ld
    unfold s119l1
    rw [hl, h4.len]
    refine ifT_pos (by simp; omega) ?_
    rw [hl]
    refine h4.ix (List.getElem?_eq_getElem hil) ?_
    rw [nodeC, tCons_cons, tInt_int, tCons_cons, tStr_str, tCons_cons, tInt_int, tCons_cons, tInt_int, tNil_nil]
    have e1 := ldN_node h y
    rw [e1]
    rw [nodeC, tCons_cons, tInt_int, tCons_cons, tStr_str, tCons_cons, tInt_int, tCons_cons, tInt_int, tNil_nil]
    refine eqNodeX (x := xs[i]) (y := y) ?_
    cases e : ndB xs[i] y with
    | true =>
      refine ifT_pos rfl (retG_of (yes i ?_))
      unfold ndIx
      rw [List.findIdx?_eq_some_iff_getElem]
      refine ⟨hil, e, fun j hj => ?_⟩
      have := hi j (xs[j]'(by omega)) hj (by rw [List.getElem?_eq_getElem])
      simp [this]
    | false =>
      refine ifT_neg rfl (rg_of (by omega) (by omega) (s119l1_go (findT_l1 R hx y yes no d (i + 1) (by omega) fun j x hj hx => ?_)))
      rcases Nat.lt_or_ge j i with h1 | h1
      · exact hi j x h1 hx
      · obtain rfl : j = i := by omega
        rw [List.getElem?_eq_getElem hil] at hx
        cases hx
        exact e
theorem findT_ok {t : AVal} {xs : List Nd} (R : DRd h t xs) (hx : xs.length ≤ 1048576) (y : Nd) (yes : ∀ i : Nat, ndIx y xs = some i → K (.tuple [.int .i64 i, .bool true]) h) (no : ndIx y xs = none → K (.tuple [.int .i64 0, .bool false]) h) :
    ACalls prog 119 [t, nodeV y] h K :=
  s119_ok (s119l1_in (xs.length + 1) (findT_l1 R hx y yes no xs.length 0 (by omega) fun j x hj => by omega))
theorem elems_rdN {v : AVal} {xs : List Nd} (R : RdN h v xs) : elemsA 4 h v = some (xs.map nodeV) := by
  rcases R with ⟨rfl, rfl⟩ | ⟨r, L, rfl, hr, hL⟩ | R
  · rfl
  · unfold elemsA
    simp only [Nat.beq_refl, hr, List.drop_zero]
    have hlen : xs.length ≤ L.length := by
      rcases Nat.lt_or_ge L.length xs.length with e | e
      · have h1 := hL L.length xs[L.length] (List.getElem?_eq_getElem e)
        simp at h1
      · exact e
    have e : L.take xs.length = xs.map nodeV := by
      apply List.ext_getElem?
      intro i
      rw [List.getElem?_take, List.getElem?_map]
      by_cases hi : i < xs.length
      · rw [if_pos hi, List.getElem?_eq_getElem hi]
        exact hL i _ (List.getElem?_eq_getElem hi)
      · rw [if_neg hi, List.getElem?_eq_none (by omega)]
        rfl
    simp [e, hlen]
  · exact elemsA_of R
theorem rd_grow {h h' : Heap} {v : AVal} {xs : List Nd} (g : Grow 4 h v (xs.map nodeV) h') : RdN h' v xs := by
  generalize e : xs.map nodeV = l at g
  cases g with
  | nil => exact .inl ⟨rfl, List.map_eq_nil_iff.1 e⟩
  | @own r _ hr =>
    subst e
    refine .inr (.inl ⟨r, xs.map nodeV, by rw [List.length_map], Heap.set_same _ _ _, fun i x hi => ?_⟩)
    rw [List.getElem?_map, hi]
    rfl
end Go.Proofs.YtljglglbfcgjpaaGreat

namespace Go.Proofs.YtljglglbfcgjpaaGreat
open Go Go.Sym Go.Proofs.Tryz
variable {K : AVal → Heap → Prop} {h h0 hb : Heap}
def ents : Nat → List Nd → List (AVal × AVal)
  | _, [] => []
  | s, x :: xs => (nodeV x, .int .i64 (s : Int)) :: ents (s + 1) xs
theorem ents_snoc (y : Nd) : ∀ (xs : List Nd) (s : Nat), ents s (xs ++ [y]) = ents s xs ++ [(nodeV y, .int .i64 ((s + xs.length : Nat) : Int))]
  | [], s => rfl
  | x :: xs, s => by
    simp only [List.cons_append, ents, ents_snoc y xs (s + 1), List.length_cons]
    rw [show s + 1 + xs.length = s + (xs.length + 1) by omega]
theorem keyEq_node (y x : Nd) : keyEq (nodeV y) (nodeV x) = some (ndB y x) := rfl
theorem findM_ents (y : Nd) : ∀ (xs : List Nd) (s p : Nat), findM (nodeV y) (ents s xs) p = some ((ndIx y xs).map fun i => (p + i, .int .i64 ((s + i : Nat) : Int)))
  | [], s, p => rfl
  | x :: xs, s, p => by
    unfold ents findM
    rw [keyEq_node, ndB_comm]
    unfold ndIx
    rw [List.findIdx?_cons]
    cases e : ndB x y with
    | true => simp
    | false =>
      simp only [Bool.false_eq_true, if_false]
      rw [findM_ents y xs (s + 1) (p + 1)]
      unfold ndIx
      cases List.findIdx? (fun x => ndB x y) xs with
      | none => rfl
      | some i =>
        simp only [Option.map_some]
        rw [show p + 1 + i = p + (i + 1) by omega, show s + 1 + i = s + (i + 1) by omega]
theorem putM_ents {y : Nd} {xs : List Nd} (hy : ndIx y xs = none) : putM (nodeV y) (.int .i64 (xs.length : Int)) (ents 0 xs) = some (ents 0 (xs ++ [y])) := by
  unfold putM
  rw [findM_ents, hy, ents_snoc]
  simp
def PP (hb : Heap) (rt : Nat) (xs : List Nd) (R : List Ow) (h : Heap) : Prop := ∃ vN q, Own hb ([.slc 4 vN (xs.map nodeV), .cell rt (.row 2 [.agg [vN, .mapr q]]), .cell q (.map (ents 0 xs))] ++ R) h
def DD (hb : Heap) (rd : Nat) (ys : List Nd) (R : List Ow) (h : Heap) : Prop := ∃ vM, Own hb ([.slc 4 vM (ys.map nodeV), .cell rd (.row 1 [.agg [vM]])] ++ R) h
theorem rd_own {os : List Ow} {i : Nat} {v : AVal} {xs : List Nd} (W : Own hb os h) (hi : os[i]? = some (.slc 4 v (xs.map nodeV))) : RdN h v xs := by
  rcases W.fit i _ hi with ⟨rfl, e⟩ | ⟨r, rfl⟩
  · exact .inl ⟨rfl, List.map_eq_nil_iff.1 e⟩
  · refine .inr (.inl ⟨r, xs.map nodeV, by rw [List.length_map], W.get i _ r hi rfl, fun j x hj => ?_⟩)
    rw [List.getElem?_map, hj]
    rfl
theorem PP.prd {rt : Nat} {xs : List Nd} {R : List Ow} (W : PP hb rt xs R h) : PRd h (.ptr rt 0 0) xs := by
  obtain ⟨vN, q, W⟩ := W
  exact ⟨rt, vN, q, _, rfl, W.get 1 _ rt rfl rfl, W.get 2 _ q rfl rfl, rd_own W (i := 0) rfl⟩
theorem DD.drd {rd : Nat} {ys : List Nd} {R : List Ow} (W : DD hb rd ys R h) : DRd h (.ptr rd 0 0) ys := by
  obtain ⟨vM, W⟩ := W
  exact ⟨rd, vM, rfl, W.get 1 _ rd rfl rfl, rd_own W (i := 0) rfl⟩
theorem Own.rot {A B R : List Ow} (W : Own hb (A ++ (B ++ R)) h) : Own hb (B ++ (A ++ R)) h := by
  refine W.renum _ (fun j => if j < B.length then A.length + j else if j < A.length + B.length then j - B.length else j) (fun j y hj => ?_) (fun j hj k hk e => ?_)
  · by_cases h1 : j < B.length
    · rw [if_pos h1]
      rw [List.getElem?_append_left h1] at hj
      rw [List.getElem?_append_right (by omega), Nat.add_sub_cancel_left, List.getElem?_append_left h1]
      exact hj
    · rw [if_neg h1]
      rw [List.getElem?_append_right (by omega)] at hj
      by_cases h2 : j < A.length + B.length
      · rw [if_pos h2]
        rw [List.getElem?_append_left (by omega)] at hj
        rw [List.getElem?_append_left (by omega)]
        exact hj
      · rw [if_neg h2]
        rw [List.getElem?_append_right (by omega)] at hj
        rw [List.getElem?_append_right (by omega), List.getElem?_append_right (by omega)]
        rw [show j - A.length - B.length = j - B.length - A.length by omega]
        exact hj
  · split at e <;> split at e <;> (try split at e) <;> (try split at e) <;> omega
def fitE (n : Nat) (y : Nd) : Int :=
  if y.k = 1 then (if y.l = 0 ∧ y.r = 0 then (if wordB y.s = true then 0 else 32) else 31)
  else if y.k = 2 then (if ndB y ⟨2, ByteArray.mk #[], 0, 0⟩ = true then 0 else 31)
  else if y.k = 3 ∨ y.k = 4 ∨ y.k = 5 then (if strEq y.s (ByteArray.mk #[]) = true ∧ hasN n y.l = true ∧ hasN n y.r = true then 0 else 31)
  else 31
def putE (xs : List Nd) (y : Nd) : Int := if fitE xs.length y ≠ 0 then fitE xs.length y else match ndIx y xs with
  | some _ => 0
  | none => if 1024 ≤ xs.length then 30 else 0
def putI (xs : List Nd) (y : Nd) : Int := if fitE xs.length y ≠ 0 then 0 else match ndIx y xs with
  | some i => (i : Int)
  | none => if 1024 ≤ xs.length then 0 else (xs.length : Int)
def putR (xs : List Nd) (y : Nd) : List Nd := if fitE xs.length y ≠ 0 then xs else match ndIx y xs with
  | some _ => xs
  | none => if 1024 ≤ xs.length then xs else xs ++ [y]
theorem putR_len {xs : List Nd} (h : xs.length ≤ 1024) (y : Nd) : (putR xs y).length ≤ 1024 := by
  unfold putR
  split
  · exact h
  · split
    · exact h
    · split
      · exact h
      · simp; omega
theorem DD.app {rd : Nat} {ys : List Nd} {R : List Ow} {vM : AVal} (W : Own hb ([.slc 4 vM (ys.map nodeV), .cell rd (.row 1 [.agg [vM]])] ++ R) h) (hl : ys.length < 1048576) {y : Nd} {K : AVal → Heap → Prop}
    (hk : ∀ v' h', Own hb ([.slc 4 v' ((ys ++ [y]).map nodeV), .cell rd (.row 1 [.agg [vM]])] ++ R) h' → K v' h') : appC 4 40 h vM (.lsl 4 [nodeV y]) K := by
  refine W.app (i := 0) rfl (by simp; omega) (by simp; omega) fun v' h' W2 => hk v' h' ?_
  rw [List.map_append]
  exact W2
theorem putT_c1 {rd : Nat} {ys : List Nd} {R : List Ow} (W : DD hb rd ys R h) (hx : ys.length ≤ 1024) {y : Nd} (hf : fitE ys.length y = 0)
    (hk : ∀ h', DD hb rd (putR ys y) R h' → K (.tuple [.int .i64 (putI ys y), .int .i64 (putE ys y)]) h') : s88c1 K (.ptr rd 0 0) (.lptr (nodeC y)) h := by
  have hp : ¬ fitE ys.length y ≠ 0 := fun h => h hf
  unfold putR putI putE at hk
  rw [if_neg hp, if_neg hp, if_neg hp] at hk
  unfold s88c1
  rw [ldN_node, nodeC, tCons_cons, tInt_int, tCons_cons, tStr_str, tCons_cons, tInt_int, tCons_cons, tInt_int, tNil_nil]
  refine callG_of (findT_ok W.drd (by omega) y (fun i hi => ?_) (fun hi => ?_))
  · rw [hi] at hk
    rw [tTup_tuple, tCons_cons, tInt_int, tCons_cons, tBool_bool, tNil_nil]
    exact ifT_pos rfl (retG_of (hk h W))
  · rw [hi] at hk
    simp only at hk
    rw [tTup_tuple, tCons_cons, tInt_int, tCons_cons, tBool_bool, tNil_nil]
    refine ifT_neg rfl ?_
    obtain ⟨vM, O⟩ := W
    have rc := O.get 1 _ rd rfl rfl
    rw [nilCheck_ptr, addOff_ptr, ld1_fld rc rfl, O.len (i := 0) rfl, List.length_map]
    by_cases hl : ys.length < 1024
    · rw [if_neg (by omega), if_neg (by omega), if_neg (by omega)] at hk
      refine ifT_neg (decide_eq_false (by omega)) ?_
      rw [nilCheck_ptr, addOff_ptr, ld1_fld rc rfl]
      have e0 := ldN_node h y
      rw [nodeC] at e0
      rw [e0, tCons_cons, tInt_int, tCons_cons, tStr_str, tCons_cons, tInt_int, tCons_cons, tInt_int, tNil_nil]
      refine ⟨by rw [ld1_fld rc rfl], DD.app (y := y) O (by omega) fun v' h' W2 => ?_⟩
      rw [nilCheck_ptr, addOff_ptr]
      refine chk_iff.2 ⟨(W2.sc (i := 0) rfl).1, st_fld (W2.get 1 _ rd rfl rfl) (by simp) ?_⟩
      have W3 := W2.put (i := 1) rfl (.row 1 [.agg [v']])
      rw [nilCheck_ptr, addOff_ptr]
      have r3 := W3.get 1 _ rd rfl rfl
      refine Eq.mpr (ld1_fld r3 rfl _) ?_
      rw [W3.len (i := 0) rfl]
      simp only [List.length_map, List.length_append, List.length_singleton]
      refine rg_of (by omega) (by omega) (retG_of ?_)
      rw [show ((ys.length + 1 : Nat) : Int) - 1 = (ys.length : Int) by omega]
      exact hk _ ⟨v', W3⟩
    · rw [if_pos (by omega), if_pos (by omega), if_pos (by omega)] at hk
      exact ifT_pos (decide_eq_true (by omega)) (retG_of (hk h ⟨vM, O⟩))
theorem hasN_iff {n : Nat} {i : Int} : hasN n i = true ↔ 0 ≤ i ∧ i < n := by unfold hasN; simp
theorem putT_ok {rd : Nat} {ys : List Nd} {R : List Ow} (W : DD hb rd ys R h) (hx : ys.length ≤ 1024) (y : Nd)
    (hk : ∀ h', DD hb rd (putR ys y) R h' → K (.tuple [.int .i64 (putI ys y), .int .i64 (putE ys y)]) h') : ACalls prog 88 [.ptr rd 0 0, nodeV y] h K := by
  have bad : ∀ e : Int, e ≠ 0 → fitE ys.length y = e → retG (.tuple [.int .i64 0, .int .i64 e]) h K := fun e he hf => by
    have hp : fitE ys.length y ≠ 0 := by rw [hf]; exact he
    unfold putR putI putE at hk
    rw [if_pos hp, if_pos hp, if_pos hp, hf] at hk
    exact retG_of (hk h W)
  have good : fitE ys.length y = 0 → s88c1 K (.ptr rd 0 0) (.lptr (nodeC y)) h := fun hf => putT_c1 W hx hf hk
  clear hk
  obtain ⟨k, s, l, r⟩ := y
  refine s88_ok ?_
  unfold s88
  unfold fitE at bad good
  by_cases k1 : k = 1
  · subst k1
    simp only [if_true] at bad good
    have c2 : ∀ t : Bool, (t = true ↔ ¬ (l = 0 ∧ r = 0)) → s88c2 K (.ptr rd 0 0) (.lptr (nodeC ⟨1, s, l, r⟩)) t h := by
      intro t ht
      cases t with
      | true => exact ifT_pos rfl (bad 31 (by decide) (by rw [if_neg (ht.1 rfl)]))
      | false =>
        have hlr : l = 0 ∧ r = 0 := Decidable.not_not.1 fun h => by have := ht.2 h; cases this
        rw [if_pos hlr] at bad good
        refine ifT_neg rfl ?_
        simp only [nodeC, addOff_lptr, List.drop_succ_cons, List.drop_zero, ld1_lptr, tStr_str]
        refine callG_of (word3_ok _ ?_)
        rw [tBool_bool]
        cases hw : wordB s with
        | false => exact ifT_pos rfl (bad 32 (by decide) (by rw [hw, if_neg (by decide)]))
        | true => exact ifT_neg rfl (good (by rw [hw, if_pos rfl]))
    refine ifT_pos rfl ?_
    by_cases hl : l = 0
    · exact ifT_neg (by simp [hl]) (c2 _ (by simp [hl]))
    · exact ifT_pos (by simpa using hl) (c2 _ (by simp [hl]))
  · refine ifT_neg (by simpa using k1) ?_
    simp only [k1, if_false] at bad good
    by_cases k2 : k = 2
    · subst k2
      simp only [if_true] at bad good
      have c3 : ∀ t : Bool, (t = true ↔ ¬ (ndB ⟨2, s, l, r⟩ ⟨2, ByteArray.mk #[], 0, 0⟩ = true)) → s88c3 K (.ptr rd 0 0) (.lptr (nodeC ⟨2, s, l, r⟩)) t h := by
        intro t ht
        cases t with
        | true => exact ifT_pos rfl (bad 31 (by decide) (by rw [if_neg (ht.1 rfl)]))
        | false =>
          have hlr := Decidable.not_not.1 fun h => by have := ht.2 h; cases this
          exact ifT_neg rfl (good (by rw [if_pos hlr]))
      refine ifT_pos rfl ?_
      unfold ndB at c3
      cases hs : strEq s (ByteArray.mk #[]) with
      | false => exact ifT_pos rfl (c3 _ (by simp [hs]))
      | true =>
        refine ifT_neg rfl ?_
        by_cases hl : l = 0
        · exact ifT_neg (by simp [hl]) (c3 _ (by simp [hs, hl]))
        · exact ifT_pos (by simpa using hl) (c3 _ (by simp [hl]))
    · refine ifT_neg (by simpa using k2) ?_
      simp only [k2, if_false] at bad good
      have c5 : (k = 3 ∨ k = 4 ∨ k = 5) → ∀ t : Bool, (t = true ↔ ¬ (strEq s (ByteArray.mk #[]) = true ∧ hasN ys.length l = true ∧ hasN ys.length r = true)) → s88c5 K (.ptr rd 0 0) (.lptr (nodeC ⟨k, s, l, r⟩)) t h := by
        intro hk3 t ht
        rw [if_pos hk3] at bad good
        cases t with
        | true => exact ifT_pos rfl (bad 31 (by decide) (by rw [if_neg (ht.1 rfl)]))
        | false =>
          have hlr := Decidable.not_not.1 fun h => by have := ht.2 h; cases this
          exact ifT_neg rfl (good (by rw [if_pos hlr]))
      have c4 : (k = 3 ∨ k = 4 ∨ k = 5) → s88c4 K (.ptr rd 0 0) (.lptr (nodeC ⟨k, s, l, r⟩)) true h := by
        intro hk3
        have c5 := c5 hk3
        refine ifT_pos rfl ?_
        simp only [nodeC, addOff_lptr, List.drop_succ_cons, List.drop_zero, ld1_lptr, tStr_str, tInt_int]
        cases hs : strEq s (ByteArray.mk #[]) with
        | false => exact ifT_pos rfl (c5 true (by simp [hs]))
        | true =>
          refine ifT_neg rfl (callG_of (hasT_ok W.drd l ?_))
          rw [tBool_bool]
          cases hl : hasN ys.length l with
          | false => exact ifT_pos rfl (c5 true (by simp [hl]))
          | true =>
            refine ifT_neg rfl (callG_of (hasT_ok W.drd r ?_))
            rw [tBool_bool]
            exact c5 _ (by simp [hs, hl])
      by_cases k3 : k = 3
      · refine ifT_pos (by simpa using k3) ?_
        rw [show (k == 3) = true by simpa using k3]
        exact c4 (.inl k3)
      · refine ifT_neg (by simpa using k3) ?_
        by_cases k4 : k = 4
        · refine ifT_pos (by simpa using k4) ?_
          rw [show (k == 4) = true by simpa using k4]
          exact c4 (.inr (.inl k4))
        · refine ifT_neg (by simpa using k4) ?_
          by_cases k5 : k = 5
          · rw [show (k == 5) = true by simpa using k5]
            exact c4 (.inr (.inr k5))
          · rw [show (k == 5) = false by simpa using k5]
            exact ifT_neg rfl (bad 31 (by decide) (by rw [if_neg (by omega)]))
theorem fitsP_ok {t : AVal} {xs : List Nd} (P : PRd h t xs) (y : Nd) (hs : y.s.size ≤ 1073741824) (hk : K (.int .i64 (fitE xs.length y)) h) : ACalls prog 120 [t, nodeV y] h K := by
  obtain ⟨k, s, l, r⟩ := y
  refine s120_ok ?_
  unfold s120
  unfold fitE at hk
  have c1 : K (.int .i64 0) h → s120c1 K h := fun hk => retG_of hk
  by_cases k1 : k = 1
  · subst k1
    simp only [if_true] at hk
    have c2 : ∀ t : Bool, (t = true ↔ ¬ (l = 0 ∧ r = 0)) → s120c2 K (.lptr (nodeC ⟨1, s, l, r⟩)) t h := by
      intro t ht
      cases t with
      | true => exact ifT_pos rfl (retG_of (by rwa [if_neg (ht.1 rfl)] at hk))
      | false =>
        have hlr : l = 0 ∧ r = 0 := Decidable.not_not.1 fun h => by have := ht.2 h; cases this
        rw [if_pos hlr] at hk
        refine ifT_neg rfl ?_
        simp only [nodeC, addOff_lptr, List.drop_succ_cons, List.drop_zero, ld1_lptr, tStr_str]
        refine callG_of (word_ok _ hs ?_)
        rw [tBool_bool]
        cases hw : wordB s with
        | false => exact ifT_pos rfl (retG_of (by rwa [hw, if_neg (by decide)] at hk))
        | true => exact ifT_neg rfl (c1 (by rwa [hw, if_pos rfl] at hk))
    refine ifT_pos rfl ?_
    by_cases hl : l = 0
    · exact ifT_neg (by simp [hl]) (c2 _ (by simp [hl]))
    · exact ifT_pos (by simpa using hl) (c2 _ (by simp [hl]))
  · refine ifT_neg (by simpa using k1) ?_
    simp only [k1, if_false] at hk
    by_cases k2 : k = 2
    · subst k2
      simp only [if_true] at hk
      refine ifT_pos rfl (eqNodeX (x := ⟨2, s, l, r⟩) (y := ⟨2, ByteArray.mk #[], 0, 0⟩) ?_)
      cases e : ndB ⟨2, s, l, r⟩ ⟨2, ByteArray.mk #[], 0, 0⟩ with
      | true => exact ifT_neg rfl (c1 (by rwa [e, if_pos rfl] at hk))
      | false => exact ifT_pos rfl (retG_of (by rwa [e, if_neg (by decide)] at hk))
    · refine ifT_neg (by simpa using k2) ?_
      simp only [k2, if_false] at hk
      have c4 : (k = 3 ∨ k = 4 ∨ k = 5) → ∀ b : Bool, (b = true ↔ ¬ (strEq s (ByteArray.mk #[]) = true ∧ hasN xs.length l = true ∧ hasN xs.length r = true)) → s120c4 K b h := by
        intro hk3 b hb
        rw [if_pos hk3] at hk
        cases b with
        | true => exact ifT_pos rfl (retG_of (by rwa [if_neg (hb.1 rfl)] at hk))
        | false =>
          have hlr := Decidable.not_not.1 fun h => by have := hb.2 h; cases this
          exact ifT_neg rfl (c1 (by rwa [if_pos hlr] at hk))
      have c3 : (k = 3 ∨ k = 4 ∨ k = 5) → s120c3 K t (.lptr (nodeC ⟨k, s, l, r⟩)) true h := by
        intro hk3
        have c4 := c4 hk3
        refine ifT_pos rfl ?_
        simp only [nodeC, addOff_lptr, List.drop_succ_cons, List.drop_zero, ld1_lptr, tStr_str, tInt_int]
        cases hs : strEq s (ByteArray.mk #[]) with
        | false => exact ifT_pos rfl (c4 true (by simp [hs]))
        | true =>
          refine ifT_neg rfl (callG_of (hasP_ok P l ?_))
          rw [tBool_bool]
          cases hl : hasN xs.length l with
          | false => exact ifT_pos rfl (c4 true (by simp [hl]))
          | true =>
            refine ifT_neg rfl (callG_of (hasP_ok P r ?_))
            rw [tBool_bool]
            exact c4 _ (by simp [hs, hl])
      by_cases k3 : k = 3
      · refine ifT_pos (by simpa using k3) ?_
        rw [show (k == 3) = true by simpa using k3]
        exact c3 (.inl k3)
      · refine ifT_neg (by simpa using k3) ?_
        by_cases k4 : k = 4
        · refine ifT_pos (by simpa using k4) ?_
          rw [show (k == 4) = true by simpa using k4]
          exact c3 (.inr (.inl k4))
        · refine ifT_neg (by simpa using k4) ?_
          by_cases k5 : k = 5
          · rw [show (k == 5) = true by simpa using k5]
            exact c3 (.inr (.inr k5))
          · rw [show (k == 5) = false by simpa using k5]
            exact ifT_neg rfl (retG_of (by rwa [if_neg (by omega)] at hk))
theorem mapGet_ents {h : Heap} {q : Nat} {xs : List Nd} (hq : h q = some (.map (ents 0 xs))) (y : Nd) (K : AVal → Bool → Prop) :
    mapGet (.int .i64 0) h (.mapr q) (nodeV y) K = match ndIx y xs with
      | some i => K (.int .i64 (i : Int)) true
      | none => K (.int .i64 0) false := by
  unfold mapGet mapGetR entsA
  simp only [hq, findM_ents]
  cases ndIx y xs with
  | none => rfl
  | some i => simp
theorem mapPut_map {h : Heap} {q : Nat} {l l' : List (AVal × AVal)} {k v : AVal} (hq : h q = some (.map l)) (hl : putM k v l = some l') (K : Heap → Prop) : mapPut h (.mapr q) k v K = K (h.set q (.map l')) := by
  unfold mapPut mapPutR
  simp only [hq, hl]
theorem putP_ok {rt : Nat} {xs : List Nd} {R : List Ow} (W : PP hb rt xs R h) (hx : xs.length ≤ 1024) (y : Nd) (hs : y.s.size ≤ 1073741824)
    (hk : ∀ h', PP hb rt (putR xs y) R h' → K (.tuple [.int .i64 (putI xs y), .int .i64 (putE xs y)]) h') : ACalls prog 90 [.ptr rt 0 0, nodeV y] h K := by
  obtain ⟨k, s, l, r⟩ := y
  refine s90_ok ?_
  unfold s90
  refine callG_of (aliveP_ok W.prd ?_)
  rw [tBool_bool]
  refine ifT_neg rfl (callG_of (fitsP_ok W.prd ⟨k, s, l, r⟩ hs ?_))
  rw [tInt_int]
  unfold putR putI putE at hk
  by_cases hf : fitE xs.length ⟨k, s, l, r⟩ = 0
  · have hp : ¬ fitE xs.length ⟨k, s, l, r⟩ ≠ 0 := fun h => h hf
    rw [if_neg hp, if_neg hp, if_neg hp] at hk
    refine ifT_neg (by simpa using hf) ?_
    obtain ⟨vN, q, O⟩ := W
    have rc := O.get 1 _ rt rfl rfl
    have rq := O.get 2 _ q rfl rfl
    rw [nilCheck_ptr, addOff_ptr, ld1_fld rc rfl]
    refine Eq.mpr (mapGet_ents rq ⟨k, s, l, r⟩ _) ?_
    cases hi : ndIx ⟨k, s, l, r⟩ xs with
    | some i =>
      rw [hi] at hk
      simp only
      rw [tInt_int]
      exact ifT_pos rfl (retG_of (hk h ⟨vN, q, O⟩))
    | none =>
      rw [hi] at hk
      simp only at hk ⊢
      rw [tInt_int]
      refine ifT_neg rfl ?_
      rw [nilCheck_ptr, addOff_ptr, ld1_fld rc rfl, O.len (i := 0) rfl, List.length_map]
      by_cases hl : xs.length < 1024
      · rw [if_neg (by omega), if_neg (by omega), if_neg (by omega)] at hk
        refine ifT_neg (decide_eq_false (by omega)) ?_
        rw [nilCheck_ptr, addOff_ptr, ld1_fld rc rfl]
        refine ⟨by rw [ld1_fld rc rfl], O.app (i := 0) rfl (by simp; omega) (by simp; omega) fun v' h' W2 => ?_⟩
        rw [nilCheck_ptr, addOff_ptr]
        refine chk_iff.2 ⟨(W2.sc (i := 0) rfl).1, st_fld (W2.get 1 _ rt rfl rfl) (by simp) ?_⟩
        have W3 := W2.put (i := 1) rfl (.row 2 [.agg [v', .mapr q]])
        have r3 := W3.get 1 _ rt rfl rfl
        rw [nilCheck_ptr, addOff_ptr]
        refine Eq.mpr (ld1_fld r3 rfl _) ?_
        have q3 := W3.get 2 _ q rfl rfl
        have hput := putM_ents hi
        refine Eq.mpr (mapPut_map q3 hput _) ?_
        refine retG_of (hk _ ⟨v', q, ?_⟩)
        have W4 := W3.put (i := 2) rfl (.map (ents 0 (xs ++ [⟨k, s, l, r⟩])))
        rw [List.map_append]
        exact W4
      · rw [if_pos (by omega), if_pos (by omega), if_pos (by omega)] at hk
        exact ifT_pos (decide_eq_true (by omega)) (retG_of (hk h ⟨vN, q, O⟩))
  · rw [if_pos hf, if_pos hf, if_pos hf] at hk
    exact ifT_pos (by simpa using hf) (retG_of (hk h W))
end Go.Proofs.YtljglglbfcgjpaaGreat

namespace Go.Proofs.YtljglglbfcgjpaaGreat
open Go Go.Sym Go.Proofs.Tryz
variable {K : AVal → Heap → Prop} {h h0 hb : Heap}
theorem size0 : (ByteArray.mk #[]).size ≤ 1073741824 := by decide
def okTab (xs : List Nd) : Prop := ∀ (i : Nat) (x : Nd), xs[i]? = some x → putE (xs.take i) x = 0 ∧ putI (xs.take i) x = (i : Int)
theorem put_next {xs : List Nd} {y : Nd} (he : putE xs y = 0) (hi : putI xs y = (xs.length : Int)) : putR xs y = xs ++ [y] ∧ xs.length < 1024 := by
  unfold putE at he
  unfold putI at hi
  unfold putR
  by_cases hf : fitE xs.length y ≠ 0
  · rw [if_pos hf] at he
    exact absurd he hf
  · rw [if_neg hf] at he hi ⊢
    cases h : ndIx y xs with
    | some i =>
      rw [h] at hi
      simp only at hi
      have := (List.getElem?_eq_some_iff.1 (ndIx_some h)).1
      omega
    | none =>
      rw [h] at he hi
      simp only at he hi ⊢
      by_cases hl : 1024 ≤ xs.length
      · rw [if_pos hl] at he
        cases he
      · rw [if_neg hl]
        exact ⟨rfl, by omega⟩
theorem fromT_l1 {rd : Nat} {v : AVal} {xs : List Nd} (hv : Nodes v xs) (hxs : xs.length ≤ 1048576) (bad : ¬ okTab xs → ∀ e : Int, e ≠ 0 → K (.tuple [.nilptr, .int .i64 e]) h0) (good : okTab xs → xs.length ≤ 1024 → ∀ h', DD h0 rd xs [] h' → K (.tuple [.ptr rd 0 0, .int .i64 0]) h') :
    ∀ d i : Nat, i + d = xs.length → i ≤ 1024 → (∀ (j : Nat) (x : Nd), j < i → xs[j]? = some x → putE (xs.take j) x = 0 ∧ putI (xs.take j) x = (j : Int)) → ∀ h, DD h0 rd (xs.take i) [] h → s46l1 K (d + 1) v (.ptr rd 0 0) (i : Int) h
  | 0, i, hd, hi, hok, h, W => by
    unfold s46l1
    rw [hv.len]
    refine ifT_neg (by simp; omega) (retG_of ?_)
    rw [List.take_of_length_le (by omega)] at W
    refine good (fun j x hj => hok j x ?_ hj) (by omega) h W
    have := (List.getElem?_eq_some_iff.1 hj).1
    omega
  | d + 1, i, hd, hi, hok, h, W => by
    have hil : i < xs.length := by omega
    have htl : (xs.take i).length = i := by rw [List.length_take]; omega
    unfold s46l1
    rw [hv.len]
    refine ifT_pos (by simp; omega) ?_
    rw [hv.ix hil, ldN_node, nodeC, tCons_cons, tInt_int, tCons_cons, tStr_str, tCons_cons, tInt_int, tCons_cons, tInt_int, tNil_nil]
    have drop : ∀ h', DD h0 rd (putR (xs.take i) xs[i]) [] h' → ∀ q o, h0 q = some o → h' q = some o := fun h' ⟨_, O⟩ => O.old
    refine callG_of (putT_ok W (by omega) xs[i] fun h' W2 => ?_)
    rw [tTup_tuple, tCons_cons, tInt_int, tCons_cons, tInt_int, tNil_nil]
    by_cases he : putE (xs.take i) xs[i] = 0
    · refine ifT_neg (by simpa using he) ?_
      by_cases hI : putI (xs.take i) xs[i] = (i : Int)
      · refine ifT_neg (by simpa using hI) (rg_of (by omega) (by omega) (s46l1_go ?_))
        obtain ⟨e1, e2⟩ := put_next he (by rw [htl]; exact hI)
        rw [e1, ← List.take_succ_eq_append_getElem hil] at W2
        rw [htl] at e2
        refine fromT_l1 hv hxs bad good d (i + 1) (by omega) (by omega) (fun j x hj hx => ?_) h' W2
        rcases Nat.lt_or_ge j i with h1 | h1
        · exact hok j x h1 hx
        · obtain rfl : j = i := by omega
          rw [List.getElem?_eq_getElem hil] at hx
          cases hx
          exact ⟨he, hI⟩
      · refine ifT_pos (by simpa using hI) (retG_drop (drop h' W2) (bad (fun ok => hI (ok i _ (List.getElem?_eq_getElem hil)).2) 31 (by decide)))
    · exact ifT_pos (by simpa using he) (retG_drop (drop h' W2) (bad (fun ok => he (ok i _ (List.getElem?_eq_getElem hil)).1) _ he))
theorem fromT_ok {v : AVal} {xs : List Nd} (hv : Nodes v xs) (hxs : xs.length ≤ 1048576) (bad : ¬ okTab xs → ∀ e : Int, e ≠ 0 → K (.tuple [.nilptr, .int .i64 e]) h0) (good : okTab xs → xs.length ≤ 1024 → ∀ rd h', DD h0 rd xs [] h' → K (.tuple [.ptr rd 0 0, .int .i64 0]) h') :
    ACalls prog 46 [v] h0 K := by
  refine s46_ok (newRow_in fun rd hrd => s46l1_in (xs.length + 1) (fromT_l1 hv hxs bad (fun ok hl h' W => good ok hl rd h' W) xs.length 0 (by omega) (by omega) (fun j x hj => by omega) _ ⟨.nilsl, ?_⟩))
  exact ((Own.start h0).newN 4).newC hrd (.row 1 [.agg [.nilsl]])
theorem Own.swap13 {a b c : Ow} {R : List Ow} (W : Own hb ([a, b, c] ++ R) h) : Own hb ([c, b, a] ++ R) h := by
  refine W.renum _ (fun j => if j = 0 then 2 else if j = 2 then 0 else j) (fun j y hj => ?_) (fun j _ k _ e => ?_)
  · match j, hj with
    | 0, hj => exact hj
    | 1, hj => exact hj
    | 2, hj => exact hj
    | j + 3, hj => exact hj
  · split at e <;> split at e <;> (try split at e) <;> (try split at e) <;> omega
theorem newP_ok {R : List Ow} (W : Own hb R h) (hk : ∀ rt h', PP hb rt [] R h' → K (.ptr rt 0 0) h') : ACalls prog 89 [] h K := by
  refine s89_ok ?_
  unfold s89
  intro q hq _
  refine newRow_in fun rt hrt => retG_of (hk rt _ ⟨.nilsl, q, ?_⟩)
  have W1 := ((W.newC hq (.map [])).newC hrt (.row 2 [.agg [.nilsl, .mapr q]])).newN 4
  rw [List.append_assoc, List.append_assoc] at W1
  have W2 := Own.rot (A := R) (B := [.cell q (.map [])] ++ ([.cell rt (.row 2 [.agg [.nilsl, .mapr q]])] ++ [.slc 4 .nilsl []])) (R := []) (by rw [List.append_nil]; exact W1)
  rw [List.append_nil] at W2
  exact Own.swap13 W2
theorem Own.skip {os : List Ow} (W : Own hb os h) {r : Nat} (hr : h r = none) (o : AObj) : Own hb os (h.set r o) := (W.newC hr o).pop
theorem PP.skip {rt : Nat} {xs : List Nd} {R : List Ow} (W : PP hb rt xs R h) {r : Nat} (hr : h r = none) (o : AObj) : PP hb rt xs R (h.set r o) := by
  obtain ⟨vN, q, O⟩ := W
  exact ⟨vN, q, Own.skip O hr o⟩
theorem st4 {H : Heap} {r : Nat} {cs ds : List AVal} (hr : H r = some (.row 4 [.agg cs])) (hc : cs.length = 4) (hd : ds.length = 4) {X : Heap → Prop} (hx : X (H.set r (.row 4 [.agg ds]))) : st false H (.ptr r 0 0) ds X := st_all hr (by omega) hx
theorem fromP_l1 {rt : Nat} {R : List Ow} {v : AVal} {xs : List Nd} (hv : Nodes v xs) (ok : okTab xs) (hl : xs.length ≤ 1024) (hs : ∀ x ∈ xs, x.s.size ≤ 1073741824) (good : ∀ h', PP hb rt xs R h' → K (.tuple [.ptr rt 0 0, .int .i64 0]) h') :
    ∀ d i : Nat, i + d = xs.length → ∀ h, PP hb rt (xs.take i) R h → s47l1 K (d + 1) (.ptr rt 0 0) v (xs.length : Int) (i : Int) h
  | 0, i, hd, h, W => by
    unfold s47l1
    refine ifT_neg (by simp; omega) (retG_of ?_)
    rw [List.take_of_length_le (by omega)] at W
    exact good h W
  | d + 1, i, hd, h, W => by
    have hil : i < xs.length := by omega
    have htl : (xs.take i).length = i := by rw [List.length_take]; omega
    unfold s47l1
    refine ifT_pos (by simp; omega) ?_
    rw [hv.ix hil, ldN_node, nodeC, tCons_cons, tInt_int, tCons_cons, tStr_str, tCons_cons, tInt_int, tCons_cons, tInt_int, tNil_nil]
    refine newRow_in fun r hr => st4 (Heap.set_same _ _ _) rfl rfl ?_
    rw [Heap.set_set, ldN_elem (n := 4) (i := 0) (cs := nodeC xs[i]) (Heap.set_same _ _ _) rfl rfl]
    rw [nodeC, tCons_cons, tInt_int, tCons_cons, tStr_str, tCons_cons, tInt_int, tCons_cons, tInt_int, tNil_nil]
    refine callG_of (putP_ok (W.skip hr _) (by omega) xs[i] (hs _ (List.getElem_mem hil)) fun h' W2 => ?_)
    rw [tTup_tuple, tCons_cons, tInt_int, tCons_cons, tInt_int, tNil_nil]
    obtain ⟨he, hI⟩ := ok i _ (List.getElem?_eq_getElem hil)
    obtain ⟨e1, e2⟩ := put_next he (by rw [htl]; exact hI)
    rw [e1, ← List.take_succ_eq_append_getElem hil] at W2
    rw [he, hI]
    refine ifT_pos rfl ?_
    unfold s47c3
    refine ifT_neg (by simp) ?_
    unfold s47c2
    refine ifT_neg rfl (rg_of (by omega) (by omega) (s47l1_go ?_))
    exact fromP_l1 hv ok hl hs good d (i + 1) (by omega) h' W2
theorem fromP_ok {R : List Ow} (W : Own hb R h) {v : AVal} {xs : List Nd} (hv : Nodes v xs) (ok : okTab xs) (hl : xs.length ≤ 1024) (hs : ∀ x ∈ xs, x.s.size ≤ 1073741824) (good : ∀ rt h', PP hb rt xs R h' → K (.tuple [.ptr rt 0 0, .int .i64 0]) h') :
    ACalls prog 47 [v] h K := by
  refine s47_ok ?_
  unfold s47
  refine callG_of (newP_ok W fun rt h' W' => ?_)
  rw [hv.len]
  exact s47l1_in (xs.length + 1) (fromP_l1 hv ok hl hs (good rt) xs.length 0 (by omega) h' (by simpa using W'))
def TT (hb : Heap) (rt rd : Nat) (xs ys : List Nd) (R : List Ow) (h : Heap) : Prop := ∃ vM, PP hb rt xs ([.slc 4 vM (ys.map nodeV), .cell rd (.row 1 [.agg [vM]])] ++ R) h
theorem both_ok {v : AVal} {xs : List Nd} (hv : Nodes v xs) (hxs : xs.length ≤ 1048576) (hs : ∀ x ∈ xs, x.s.size ≤ 1073741824) (bad : ¬ okTab xs → K (.tuple [.nilptr, .nilptr, .bool false]) h0)
    (good : okTab xs → xs.length ≤ 1024 → ∀ rt rd h', TT h0 rt rd xs xs [] h' → K (.tuple [.ptr rt 0 0, .ptr rd 0 0, .bool true]) h') : ACalls prog 20 [v] h0 K := by
  refine s20_ok ?_
  unfold s20
  refine newRow_in fun r hr => appC_copy hr (elemsA_of hv) (by simp; omega) (by simp; omega) fun v' h' g => ?_
  obtain ⟨S, w, hl, hsl, gs⟩ := g.freeze
  refine ⟨S, w, h0, hl, gs, callG_of (fromT_ok hv hxs (fun nok e he => ?_) (fun ok hlen rd h2 W => ?_))⟩
  · rw [tTup_tuple, tCons_cons, tCons_cons, tInt_int, tNil_nil]
    exact ifT_pos (by simpa using he) (retG_of (bad nok))
  · rw [tTup_tuple, tCons_cons, tCons_cons, tInt_int, tNil_nil]
    obtain ⟨vM, O⟩ := W
    refine ifT_neg rfl (callG_of (fromP_ok O hsl ok hlen hs fun rt h3 W3 => ?_))
    rw [tTup_tuple, tCons_cons, tCons_cons, tInt_int, tNil_nil]
    exact retG_of (good ok hlen rt rd h3 ⟨vM, W3⟩)
theorem okTab_nil : okTab [] := fun i x hx => by simp at hx
theorem TT.reads {rt rd : Nat} {xs ys : List Nd} {R : List Ow} (W : TT hb rt rd xs ys R h) : PRd h (.ptr rt 0 0) xs ∧ DRd h (.ptr rd 0 0) ys := by
  obtain ⟨vM, W⟩ := W
  refine ⟨W.prd, ?_⟩
  obtain ⟨vN, q, O⟩ := W
  have O2 := Own.rot (A := [.slc 4 vN (xs.map nodeV), .cell rt (.row 2 [.agg [vN, .mapr q]]), .cell q (.map (ents 0 xs))]) (B := [.slc 4 vM (ys.map nodeV), .cell rd (.row 1 [.agg [vM]])]) O
  exact DD.drd ⟨vM, O2⟩
end Go.Proofs.YtljglglbfcgjpaaGreat

namespace Go.Proofs.YtljglglbfcgjpaaGreat
open Go Go.Sym Go.Proofs.Tryz
variable {K : AVal → Heap → Prop} {h h0 hb : Heap}
def ndZ : Nd := ⟨0, ByteArray.mk #[], 0, 0⟩
theorem Own.ext {h' : Heap} {os : List Ow} (W : Own hb os h) (x : Ext h h') : Own hb os h' :=
  ⟨W.fit, fun i y n e e1 => x _ _ (W.get i y n e e1), W.new, W.one, fun q o e => x _ _ (W.old q o e)⟩
theorem hasN_get {xs : List Nd} {i : Int} (h : hasN xs.length i = true) : ∃ (j : Nat) (x : Nd), i = (j : Int) ∧ xs[j]? = some x := by
  obtain ⟨h1, h2⟩ := hasN_iff.1 h
  obtain ⟨j, rfl⟩ := Int.eq_ofNat_of_zero_le h1
  have : j < xs.length := by omega
  exact ⟨j, xs[j], rfl, List.getElem?_eq_getElem this⟩
theorem nodeP_ok {t : AVal} {xs : List Nd} (P : PRd h t xs) (i : Int) (yes : ∀ (j : Nat) (x : Nd), i = (j : Int) → xs[j]? = some x → K (.tuple [nodeV x, .bool true]) h) (no : hasN xs.length i = false → K (.tuple [nodeV ndZ, .bool false]) h) :
    ACalls prog 49 [t, .int .i64 i] h K := by
  refine s49_ok ?_
  unfold s49
  refine newRow_in fun r hr => ?_
  have P2 := P.ext (h' := h.set r (.row 4 [nodeV ndZ])) (Heap.set_sub hr)
  refine callG_of (aliveP_ok P2 ?_)
  rw [tBool_bool]
  refine ifT_neg rfl (callG_of (hasP_ok P2 i ?_))
  rw [tBool_bool]
  unfold s49c1
  cases e : hasN xs.length i with
  | false =>
    refine ifT_pos rfl (st4 (Heap.set_same _ _ _) rfl rfl ?_)
    rw [Heap.set_set, ldN_elem (n := 4) (i := 0) (cs := nodeC ndZ) (Heap.set_same _ _ _) rfl rfl]
    rw [nodeC, tCons_cons, tInt_int, tCons_cons, tStr_str, tCons_cons, tInt_int, tCons_cons, tInt_int, tNil_nil]
    exact retG_drop (Heap.set_sub hr) (no e)
  | true =>
    obtain ⟨j, x, rfl, hx⟩ := hasN_get e
    refine ifT_neg rfl ?_
    obtain ⟨vN, R, hl⟩ := P2.ld
    rw [hl]
    refine R.ix hx ?_
    rw [nodeC, tCons_cons, tInt_int, tCons_cons, tStr_str, tCons_cons, tInt_int, tCons_cons, tInt_int, tNil_nil]
    refine st4 (Heap.set_same _ _ _) rfl rfl ?_
    rw [Heap.set_set, ldN_elem (n := 4) (i := 0) (cs := nodeC x) (Heap.set_same _ _ _) rfl rfl]
    rw [nodeC, tCons_cons, tInt_int, tCons_cons, tStr_str, tCons_cons, tInt_int, tCons_cons, tInt_int, tNil_nil]
    exact retG_drop (Heap.set_sub hr) (yes j x rfl hx)
def GoodT (xs : List Nd) : Prop := ∀ (i : Nat) (x : Nd), xs[i]? = some x → NdOK i x
theorem okTab_good {xs : List Nd} (ok : okTab xs) : GoodT xs := fun i x hx => by
  have he := (ok i x hx).1
  have hil := (List.getElem?_eq_some_iff.1 hx).1
  have htl : (xs.take i).length = i := by rw [List.length_take]; omega
  unfold putE at he
  rw [htl] at he
  by_cases hf : fitE i x ≠ 0
  · rw [if_pos hf] at he
    exact absurd he hf
  · have hf := Decidable.not_not.1 hf
    unfold fitE at hf
    by_cases k1 : x.k = 1
    · exact .inl k1
    · rw [if_neg k1] at hf
      by_cases k2 : x.k = 2
      · exact .inr (.inl k2)
      · rw [if_neg k2] at hf
        by_cases k3 : x.k = 3 ∨ x.k = 4 ∨ x.k = 5
        · rw [if_pos k3] at hf
          split at hf
          · rename_i hh
            exact .inr (.inr ⟨k3, hasN_iff.1 hh.2.1, hasN_iff.1 hh.2.2⟩)
          · cases hf
        · rw [if_neg k3] at hf
          cases hf
def Kid (xs : List Nd) (i j : Nat) : Prop := ∃ x, xs[i]? = some x ∧ 3 ≤ x.k ∧ (x.l = (j : Int) ∨ x.r = (j : Int))
inductive Sub (xs : List Nd) : Nat → Nat → Prop
  | refl (i : Nat) : Sub xs i i
  | step {i j k : Nat} (h : Kid xs i j) (s : Sub xs j k) : Sub xs i k
theorem Kid.lt {xs : List Nd} (G : GoodT xs) {i j : Nat} (h : Kid xs i j) : j < i := by
  obtain ⟨x, h1, h2, h3⟩ := h
  rcases G i x h1 with e | e | ⟨_, e1, e2⟩
  · omega
  · omega
  · omega
theorem Sub.le {xs : List Nd} (G : GoodT xs) {i j : Nat} (h : Sub xs i j) : j ≤ i := by
  induction h with
  | refl => omega
  | step h _ ih => have := h.lt G; omega
theorem Sub.trans {xs : List Nd} {i j k : Nat} (h : Sub xs i j) (s : Sub xs j k) : Sub xs i k := by
  induction h with
  | refl => exact s
  | step h _ ih => exact .step h (ih s)
noncomputable def subL (xs : List Nd) (i : Nat) : List Nat := (List.range (i + 1)).filter fun j => @decide (Sub xs i j) (Classical.propDecidable _)
theorem mem_subL {xs : List Nd} (G : GoodT xs) {i j : Nat} : j ∈ subL xs i ↔ Sub xs i j := by
  unfold subL
  rw [List.mem_filter, List.mem_range]
  exact ⟨fun h => @of_decide_eq_true _ (Classical.propDecidable _) h.2, fun h => ⟨by have := h.le G; omega, @decide_eq_true _ (Classical.propDecidable _) h⟩⟩
theorem natI_sorted {l : List Nat} (h : l.Pairwise (· ≤ ·)) : (natI l).Pairwise (· ≤ ·) := by
  unfold natI
  rw [List.pairwise_map]
  exact h.imp fun h => by omega
theorem subL_sorted (xs : List Nd) (i : Nat) : (subL xs i).Pairwise (· ≤ ·) :=
  (List.pairwise_lt_range.imp Nat.le_of_lt).sublist List.filter_sublist
theorem subL_nodup (xs : List Nd) (i : Nat) : (subL xs i).Nodup := List.nodup_range.sublist List.filter_sublist
/- ---- the walk down ---- -/
def marks (L : List Nat) : List (AVal × AVal) := L.map fun (j : Nat) => (.int .i64 (j : Int), .int .i64 1)
theorem findM_marks (i : Nat) : ∀ (L : List Nat) (p : Nat), findM (.int .i64 (i : Int)) (marks L) p = some (if i ∈ L then some (p + L.idxOf i, .int .i64 1) else none)
  | [], p => by simp [marks, findM]
  | j :: L, p => by
    show findM _ ((.int .i64 (j : Int), .int .i64 1) :: marks L) p = _
    unfold findM
    have e : keyEq (.int .i64 (i : Int)) (.int .i64 (j : Int)) = some ((i : Int) == (j : Int)) := rfl
    rw [e]
    by_cases hij : i = j
    · subst hij
      simp
    · rw [show ((i : Int) == (j : Int)) = false by simp; omega]
      simp only
      rw [findM_marks i L (p + 1)]
      by_cases hm : i ∈ L
      · rw [if_pos hm, if_pos (List.mem_cons_of_mem _ hm), List.idxOf_cons]
        rw [show (j == i) = false by simp; omega]
        simp only [cond_false]
        rw [show p + 1 + L.idxOf i = p + (L.idxOf i + 1) by omega]
      · rw [if_neg hm, if_neg (fun h => (List.mem_cons.1 h).elim hij hm)]
abbrev DS (hb : Heap) (r r1 r2 : Nat) (t : AVal) (L : List Nat) (R : List Ow) (h : Heap) : Prop :=
  Own hb ([.cell r (.map (marks L)), .cell r1 (.row 1 [.mapr r]), .cell r2 (.row 1 [.func (.func 93) [] [(.ptr r1 0 0), (.lptr [t]), (.ptr r2 0 0)]])] ++ R) h
theorem down_ok {t : AVal} {xs : List Nd} (P : PRd hb t xs) (G : GoodT xs) {r r1 r2 : Nat} : ∀ (i : Nat) (L : List Nat) (R : List Ow) (h : Heap) (K : AVal → Heap → Prop), i < xs.length → DS hb r r1 r2 t L R h →
    (∀ L' h', (∀ j ∈ L, j ∈ L') → (L.Nodup → L'.Nodup) → i ∈ L' → (∀ j ∈ L', j ∉ L → Sub xs i j ∧ ∀ c, Kid xs j c → c ∈ L') → DS hb r r1 r2 t L' R h' → K (.tuple []) h') →
    ACalls prog 93 [.int .i64 (i : Int), .ptr r1 0 0, .lptr [t], .ptr r2 0 0] h K := by
  intro i
  induction i using Nat.strongRecOn with
  | _ i ih =>
  intro L R h K hi O hk
  refine s93_ok ?_
  unfold s93
  rw [ld1_one (O.get 1 _ r1 rfl rfl) rfl]
  unfold mapGet mapGetR entsA
  simp only [O.get 0 _ r rfl rfl, Ow.obj, findM_marks]
  by_cases hm : i ∈ L
  · simp only [if_pos hm, tInt_int]
    exact ifT_pos rfl (retG_of (hk L h (fun _ h => h) (fun h => h) hm (fun j h1 h2 => absurd h1 h2) O))
  · simp only [if_neg hm, tInt_int]
    refine ifT_neg rfl ?_
    rw [ld1_one (O.get 1 _ r1 rfl rfl) rfl]
    have hput : putM (.int .i64 (i : Int)) (.int .i64 1) (marks L) = some (marks (L ++ [i])) := by
      unfold putM
      rw [findM_marks, if_neg hm]
      simp [marks]
    refine Eq.mpr (mapPut_map (O.get 0 _ r rfl rfl) hput _) ?_
    have O1 : DS hb r r1 r2 t (L ++ [i]) R _ := O.put (i := 0) rfl (.map (marks (L ++ [i])))
    rw [ld1_lptr]
    obtain ⟨vN, RN, hl⟩ := (P.ext O1.old).ld
    rw [hl]
    have hx := List.getElem?_eq_getElem hi
    refine RN.ix hx ?_
    rw [nodeC, tCons_cons, tInt_int, tCons_cons, tStr_str, tCons_cons, tInt_int, tCons_cons, tInt_int, tNil_nil]
    refine newRow_in fun rw hrw => st4 (Heap.set_same _ _ _) rfl rfl ?_
    rw [Heap.set_set, ld1_fld (o := 0) (Heap.set_same _ _ _) rfl, tInt_int]
    have O2 : DS hb r r1 r2 t (L ++ [i]) (R ++ [.cell rw (.row 4 [nodeV xs[i]])]) _ := O1.newC hrw (.row 4 [nodeV xs[i]])
    by_cases hk3 : 3 ≤ xs[i].k
    · refine ifT_pos (by simpa using hk3) ?_
      refine Eq.mpr (ld1_one (O2.get 2 _ r2 rfl rfl) rfl _) ?_
      rw [ld1_fld (o := 2) (Heap.set_same _ _ _) rfl, tInt_int]
      have hg := G i _ hx
      have hlr : (0 ≤ xs[i].l ∧ xs[i].l < i) ∧ 0 ≤ xs[i].r ∧ xs[i].r < i := by
        rcases hg with e | e | ⟨_, e⟩
        · omega
        · omega
        · exact e
      obtain ⟨a, ha⟩ := Int.eq_ofNat_of_zero_le hlr.1.1
      obtain ⟨b, hb'⟩ := Int.eq_ofNat_of_zero_le hlr.2.1
      show callG prog 93 ([] ++ [.int .i64 xs[i].l] ++ [(.ptr r1 0 0), (.lptr [t]), (.ptr r2 0 0)]) ((h.set r (.map (marks (L ++ [i])))).set rw (.row 4 [nodeV xs[i]])) _
      rw [show AVal.int .i64 xs[i].l = .int .i64 (a : Int) by rw [ha]]
      show callG prog 93 ([] ++ [.int .i64 (a : Int)] ++ [(.ptr r1 0 0), (.lptr [t]), (.ptr r2 0 0)]) _ _
      refine callG_of (ih a (by omega) (L ++ [i]) (R ++ [.cell rw (.row 4 [nodeV xs[i]])]) _ _ (by omega) O2 fun L2 h2 s1 n1 m1 c1 O3 => ?_)
      rw [ld1_one (O3.get 2 _ r2 rfl rfl) rfl]
      have hrw2 : h2 rw = some (.row 4 [nodeV xs[i]]) := O3.get (3 + R.length) (.cell rw (.row 4 [nodeV xs[i]])) rw (by rw [List.getElem?_append_right (by simp), List.getElem?_append_right (by simp)]; simp) rfl
      rw [ld1_fld (o := 3) (cs := nodeC xs[i]) hrw2 rfl, tInt_int, hb']
      show callG prog 93 ([] ++ [.int .i64 (b : Int)] ++ [(.ptr r1 0 0), (.lptr [t]), (.ptr r2 0 0)]) _ _
      refine callG_of (ih b (by omega) L2 (R ++ [.cell rw (.row 4 [nodeV xs[i]])]) _ _ (by omega) O3 fun L3 h3 s2 n2 m2 c2 O4 => retG_of ?_)
      have O5 : DS hb r r1 r2 t L3 R h3 := by
        have O4' : Own hb (([.cell r (.map (marks L3)), .cell r1 (.row 1 [.mapr r]), .cell r2 (.row 1 [.func (.func 93) [] [(.ptr r1 0 0), (.lptr [t]), (.ptr r2 0 0)]])] ++ R) ++ [.cell rw (.row 4 [nodeV xs[i]])]) h3 := by rw [List.append_assoc]; exact O4
        exact O4'.pop
      have kidl : Kid xs i a := ⟨_, hx, hk3, .inl ha⟩
      have kidr : Kid xs i b := ⟨_, hx, hk3, .inr hb'⟩
      refine hk L3 h3 (fun j hj => s2 j (s1 j (List.mem_append_left _ hj))) (fun hn => n2 (n1 ?_)) (s2 i (s1 i (by simp))) (fun j hj hjL => ?_) O5
      · rw [List.nodup_append]
        refine ⟨hn, by simp, fun x hxL y hy e => ?_⟩
        rw [List.mem_singleton] at hy
        subst hy; subst e
        exact hm hxL
      · by_cases h2' : j ∈ L2
        · by_cases h1' : j ∈ L ++ [i]
          · rcases List.mem_append.1 h1' with h | h
            · exact absurd h hjL
            · rw [List.mem_singleton] at h
              subst h
              refine ⟨.refl _, fun c hc => ?_⟩
              obtain ⟨x, hx1, _, hx2⟩ := hc
              rw [hx] at hx1
              cases hx1
              rcases hx2 with e | e
              · have : c = a := by omega
                subst this
                exact s2 _ m1
              · have : c = b := by omega
                subst this
                exact m2
          · obtain ⟨e1, e2⟩ := c1 j h2' h1'
            exact ⟨.step kidl e1, fun c hc => s2 c (e2 c hc)⟩
        · obtain ⟨e1, e2⟩ := c2 j hj h2'
          exact ⟨.step kidr e1, e2⟩
    · refine ifT_neg (by simpa using hk3) (retG_of ?_)
      have O5 : DS hb r r1 r2 t (L ++ [i]) R _ := Own.skip O1 hrw (.row 4 [nodeV xs[i]])
      refine hk (L ++ [i]) _ (fun j hj => List.mem_append_left _ hj) (fun hn => ?_) (by simp) (fun j hj hjL => ?_) O5
      · rw [List.nodup_append]
        refine ⟨hn, by simp, fun x hxL y hy e => ?_⟩
        rw [List.mem_singleton] at hy
        subst hy; subst e
        exact hm hxL
      · rcases List.mem_append.1 hj with h | h
        · exact absurd h hjL
        · rw [List.mem_singleton] at h
          subst h
          refine ⟨.refl _, fun c hc => ?_⟩
          obtain ⟨x, hx1, hx3, _⟩ := hc
          rw [hx] at hx1
          cases hx1
          exact absurd hx3 hk3
theorem toBaseG {h : Heap} {os : List Ow} (W : Own hb os h) (S : Nat → Prop) (hS : ∀ n, S n → hb n = none) : Go.Sym.GStep h hb S := Own.toBase W S hS
end Go.Proofs.YtljglglbfcgjpaaGreat

namespace Go.Proofs.YtljglglbfcgjpaaGreat
open Go Go.Sym Go.Proofs.Tryz
variable {K : AVal → Heap → Prop} {h h0 hb : Heap}
/- ---- maps from keys to numbers ---- -/
section
variable {α : Type} [DecidableEq α] {key : α → AVal} {f : α → Int}
def kmap (key : α → AVal) (f : α → Int) (L : List α) : List (AVal × AVal) := L.map fun x => (key x, .int .i64 (f x))
def KeyOK (key : α → AVal) : Prop := ∀ a b, keyEq (key a) (key b) = some (decide (a = b))
theorem findM_key (hk : KeyOK key) (a : α) : ∀ (L : List α) (p : Nat), findM (key a) (kmap key f L) p = some (if a ∈ L then some (p + L.idxOf a, .int .i64 (f a)) else none)
  | [], p => by simp [kmap, findM]
  | j :: L, p => by
    show findM _ ((key j, .int .i64 (f j)) :: kmap key f L) p = _
    unfold findM
    rw [hk a j]
    by_cases hij : a = j
    · subst hij
      simp
    · rw [decide_eq_false hij]
      simp only
      rw [findM_key hk a L (p + 1)]
      by_cases hm : a ∈ L
      · rw [if_pos hm, if_pos (List.mem_cons_of_mem _ hm), List.idxOf_cons]
        rw [show (j == a) = false by rw [beq_eq_false_iff_ne]; exact fun e => hij e.symm]
        simp only [cond_false]
        rw [show p + 1 + L.idxOf a = p + (L.idxOf a + 1) by omega]
      · rw [if_neg hm, if_neg (fun h => (List.mem_cons.1 h).elim hij hm)]
theorem mapGet_key (hk : KeyOK key) {q : Nat} {L : List α} (hq : h q = some (.map (kmap key f L))) (a : α) (X : AVal → Bool → Prop) : mapGet (.int .i64 0) h (.mapr q) (key a) X = X (.int .i64 (if a ∈ L then f a else 0)) (decide (a ∈ L)) := by
  unfold mapGet mapGetR entsA
  simp only [hq, findM_key hk]
  by_cases hm : a ∈ L
  · simp [hm]
  · simp [hm]
theorem mapGet_two (hk : KeyOK key) {q : Nat} {L : List α} (hq : h q = some (.map (kmap key f L))) (a : α) {X : AVal → Bool → Prop} (hin : a ∈ L → X (.int .i64 (f a)) true) (hout : a ∉ L → X (.int .i64 0) false) : mapGet (.int .i64 0) h (.mapr q) (key a) X := by
  rw [mapGet_key hk hq a X]
  by_cases hm : a ∈ L
  · rw [if_pos hm, decide_eq_true hm]; exact hin hm
  · rw [if_neg hm, decide_eq_false hm]; exact hout hm
theorem mapPut_key (hk : KeyOK key) {q : Nat} {L : List α} (hq : h q = some (.map (kmap key f L))) {a : α} (ha : a ∉ L) (X : Heap → Prop) : mapPut h (.mapr q) (key a) (.int .i64 (f a)) X = X (h.set q (.map (kmap key f (L ++ [a])))) := by
  unfold mapPut mapPutR putM
  simp only [hq, findM_key hk]
  rw [if_neg ha]
  simp [kmap]
end
def kS (s : ByteArray) : AVal := .str s
def kN (j : Nat) : AVal := .int .i64 (j : Int)
theorem kS_ok : KeyOK kS := fun a b => by
  have e : keyEq (.str a) (.str b) = some (strEq a b) := rfl
  show keyEq (.str a) (.str b) = _
  rw [e, strEq_dec]
theorem kN_ok : KeyOK kN := fun a b => by
  have e : keyEq (.int .i64 (a : Int)) (.int .i64 (b : Int)) = some ((a : Int) == (b : Int)) := rfl
  show keyEq (.int .i64 (a : Int)) (.int .i64 (b : Int)) = _
  rw [e]
  congr 1
  rw [Bool.eq_iff_iff]
  simp
  omega
theorem getN {q : Nat} {L : List Nat} {f : Nat → Int} (hq : h q = some (.map (kmap kN f L))) (a : Nat) (X : AVal → Bool → Prop) : mapGet (.int .i64 0) h (.mapr q) (.int .i64 (a : Int)) X = X (.int .i64 (if a ∈ L then f a else 0)) (decide (a ∈ L)) := mapGet_key kN_ok hq a X
theorem putN {q : Nat} {L : List Nat} {f : Nat → Int} (hq : h q = some (.map (kmap kN f L))) {a : Nat} (ha : a ∉ L) (X : Heap → Prop) : mapPut h (.mapr q) (.int .i64 (a : Int)) (.int .i64 (f a)) X = X (h.set q (.map (kmap kN f (L ++ [a])))) := mapPut_key kN_ok hq ha X
theorem getS {q : Nat} {L : List ByteArray} {f : ByteArray → Int} (hq : h q = some (.map (kmap kS f L))) (a : ByteArray) {X : AVal → Bool → Prop} (hin : a ∈ L → X (.int .i64 (f a)) true) (hout : a ∉ L → X (.int .i64 0) false) : mapGet (.int .i64 0) h (.mapr q) (.str a) X := mapGet_two kS_ok hq a hin hout
theorem putS {q : Nat} {L : List ByteArray} {f : ByteArray → Int} (hq : h q = some (.map (kmap kS f L))) {a : ByteArray} (ha : a ∉ L) (X : Heap → Prop) : mapPut h (.mapr q) (.str a) (.int .i64 (f a)) X = X (h.set q (.map (kmap kS f (L ++ [a])))) := mapPut_key kS_ok hq ha X
/- ---- what names stand for ---- -/
structure Hy where
  s : ByteArray
  f : Int
def hyC (x : Hy) : List AVal := [.str x.s, .int .i64 x.f]
def hyV (x : Hy) : AVal := .agg (hyC x)
def Hyps (v : AVal) (hs : List Hy) : Prop := SlOf 2 v (hs.map hyV)
theorem Hyps.len {v : AVal} {hs : List Hy} (H : Hyps v hs) (X : Int → Prop) : lenN v X = X hs.length := by rw [lenN_of H]; simp
theorem Hyps.ix {v : AVal} {hs : List Hy} (H : Hyps v hs) {i : Nat} (hi : i < hs.length) (X : AVal → Prop) : ixS 2 v (i : Int) X = X (.lptr (hyC hs[i])) := by
  rw [ixS_of H (e := hyV hs[i]) (by omega) (by simp [hi])]
  rfl
def byN (hs : List Hy) (s : ByteArray) : Option Int := (hs.find? fun x => strEq x.s s).map fun x => x.f
def nmS (hs : List Hy) : List ByteArray := hs.map fun x => x.s
theorem byN_isSome {hs : List Hy} {s : ByteArray} : (byN hs s).isSome = true ↔ s ∈ nmS hs := by
  unfold byN nmS
  rw [Option.isSome_map, List.find?_isSome]
  simp only [strEq_dec, decide_eq_true_eq, List.mem_map]
theorem byN_in {hs : List Hy} {s : ByteArray} {c : Int} (h : byN hs s = some c) : ∃ x ∈ hs, x.f = c := by
  unfold byN at h
  obtain ⟨x, hx, rfl⟩ := Option.map_eq_some_iff.1 h
  exact ⟨x, List.mem_of_find?_eq_some hx, rfl⟩
theorem byN_at {hs : List Hy} {i : Nat} (hi : i < hs.length) (hn : hs[i].s ∉ nmS (hs.take i)) : byN hs hs[i].s = some hs[i].f := by
  unfold byN
  have e : hs = hs.take i ++ hs[i] :: hs.drop (i + 1) := by simp
  have hno : (hs.take i).find? (fun x => strEq x.s hs[i].s) = none := by
    rw [List.find?_eq_none]
    intro x hx hc
    rw [strEq_dec, decide_eq_true_eq] at hc
    exact hn (List.mem_map.2 ⟨x, hx, hc⟩)
  have : hs.find? (fun x => strEq x.s hs[i].s) = some hs[i] := by
    conv => lhs; arg 2; rw [e]
    rw [List.find?_append, hno, Option.none_or, List.find?_cons_of_pos]
    rw [strEq_dec, decide_eq_true_eq]
  rw [this]
  rfl
def byF (hs : List Hy) (s : ByteArray) : Int := (byN hs s).getD 0
structure HyOK (n : Nat) (hs : List Hy) : Prop where
  el : ∀ x ∈ hs, inE n x.f = true
  nd : (nmS hs).Nodup
theorem HyOK.mono {n : Nat} {a b : List Hy} (W : HyOK n (a ++ b)) : HyOK n a :=
  ⟨fun x hx => W.el x (List.mem_append_left _ hx), by have := W.nd; unfold nmS at this ⊢; rw [List.map_append] at this; exact (List.nodup_append.1 this).1⟩
theorem HyOK.snoc {n : Nat} {a : List Hy} {x : Hy} : HyOK n (a ++ [x]) ↔ HyOK n a ∧ inE n x.f = true ∧ x.s ∉ nmS a := by
  constructor
  · intro W
    refine ⟨W.mono, W.el x (by simp), fun hm => ?_⟩
    have := W.nd
    unfold nmS at this
    rw [List.map_append, List.nodup_append] at this
    exact this.2.2 _ hm _ (by simp) rfl
  · rintro ⟨W, h1, h2⟩
    refine ⟨fun y hy => ?_, ?_⟩
    · rcases List.mem_append.1 hy with h | h
      · exact W.el y h
      · rw [List.mem_singleton.1 h]; exact h1
    · unfold nmS
      rw [List.map_append, List.nodup_append]
      refine ⟨W.nd, by simp, fun a ha b hb => ?_⟩
      simp only [List.map_cons, List.map_nil, List.mem_singleton] at hb
      subst hb
      exact fun e => h2 (e ▸ ha)
/- ---- a formula's element ---- -/
section
variable (n : Nat) (r : Nat → Nat → Bool) (hs : List Hy) (xs : List Nd)
def valF : Nat → Nat → Nat
  | 0, _ => 0
  | d + 1, j => match xs[j]? with
    | none => 0
    | some x => if x.k = 1 then (byF hs x.s).toNat else if x.k = 2 then lowP n r else
      if x.k = 3 then mt n r (valF d x.l.toNat) (valF d x.r.toNat) else if x.k = 4 then jn n r (valF d x.l.toNat) (valF d x.r.toNat) else im n r (valF d x.l.toNat) (valF d x.r.toNat)
def val (j : Nat) : Nat := valF n r hs xs (j + 1) j
end
section
variable {n : Nat} {r : Nat → Nat → Bool} {hs : List Hy} {xs : List Nd}
theorem valF_fuel (G : GoodT xs) : ∀ (d j : Nat), j < d → valF n r hs xs d j = val n r hs xs j := by
  intro d
  induction d using Nat.strongRecOn with
  | ind d ih =>
    intro j hj
    obtain ⟨d, rfl⟩ : ∃ c, d = c + 1 := ⟨d - 1, by omega⟩
    unfold val
    show valF n r hs xs (d + 1) j = valF n r hs xs (j + 1) j
    unfold valF
    cases e : xs[j]? with
    | none => rfl
    | some x =>
      simp only
      rcases G j x e with h1 | h1 | ⟨_, ⟨l1, l2⟩, r1, r2⟩
      · rw [if_pos h1, if_pos h1]
      · rw [if_neg (by omega), if_pos h1, if_neg (by omega), if_pos h1]
      · have hl : x.l.toNat < j := by omega
        have hr : x.r.toNat < j := by omega
        rw [ih d (by omega) _ (by omega), ih d (by omega) _ (by omega)]
        by_cases hjd : j = d
        · subst hjd
          rw [ih j (by omega) _ hl, ih j (by omega) _ hr]
        · rw [ih j (by omega) _ hl, ih j (by omega) _ hr]
variable (G : GoodT xs) {j : Nat} {x : Nd} (hx : xs[j]? = some x)
include hx
theorem val_1 (hk : x.k = 1) : val n r hs xs j = (byF hs x.s).toNat := by
  unfold val valF
  simp only [hx, if_pos hk]
theorem val_2 (hk : x.k = 2) : val n r hs xs j = lowP n r := by
  unfold val valF
  simp only [hx]
  rw [if_neg (by omega), if_pos hk]
include G
theorem val_k (hk : 3 ≤ x.k) : val n r hs xs j = if x.k = 3 then mt n r (val n r hs xs x.l.toNat) (val n r hs xs x.r.toNat) else if x.k = 4 then jn n r (val n r hs xs x.l.toNat) (val n r hs xs x.r.toNat) else im n r (val n r hs xs x.l.toNat) (val n r hs xs x.r.toNat) := by
  rcases G j x hx with h1 | h1 | ⟨_, ⟨l1, l2⟩, r1, r2⟩
  · omega
  · omega
  · rw [show val n r hs xs j = valF n r hs xs (j + 1) j from rfl]
    unfold valF
    simp only [hx]
    rw [if_neg (by omega), if_neg (by omega), valF_fuel G _ _ (by omega), valF_fuel G _ _ (by omega)]
omit hx G in
theorem val_lt (h1 : 1 ≤ n) (H : ∀ x ∈ hs, inE n x.f = true) : ∀ j, val n r hs xs j < n := by
  intro j
  unfold val valF
  cases e : xs[j]? with
  | none => simp only; omega
  | some x =>
    simp only
    split
    · unfold byF
      cases e2 : byN hs x.s with
      | none => simp; omega
      | some c =>
        obtain ⟨y, hy, rfl⟩ := byN_in e2
        have := H y hy
        simp only [inE, Bool.and_eq_true, decide_eq_true_eq] at this
        simp only [Option.getD_some]
        omega
    · split
      · exact low_lt h1
      · split
        · exact mt_lt h1 _ _
        · split
          · exact jn_lt h1 _ _
          · exact im_lt h1 _ _
end
def NamedB (hs : List Hy) (xs : List Nd) (c : Nat) : Prop := ∀ x, xs[c]? = some x → x.k = 1 → x.s ∈ nmS hs
open Classical in
noncomputable def valR (L : List (List Bool)) (hs : List Hy) (xs : List Nd) (id : Int) : Int × Int :=
  if algP L = true then (if hasN xs.length id = true then (if HyOK L.length hs ∧ ∀ c ∈ subL xs id.toNat, NamedB hs xs c then ((val L.length (at2 L) hs xs id.toNat : Nat), 0) else (0, 2)) else (0, 31)) else (0, 230)
noncomputable def valV (L : List (List Bool)) (hs : List Hy) (xs : List Nd) (id : Int) : AVal := .tuple [.int .i64 (valR L hs xs id).1, .int .i64 (valR L hs xs id).2]
section
variable {L : List (List Bool)} {hs : List Hy} {xs : List Nd} {id : Int}
theorem valV_alg (h1 : algP L = false) : valV L hs xs id = .tuple [.int .i64 0, .int .i64 230] := by
  unfold valV valR
  rw [if_neg (by rw [h1]; simp)]
theorem valV_has (h1 : algP L = true) (h2 : hasN xs.length id = false) : valV L hs xs id = .tuple [.int .i64 0, .int .i64 31] := by
  unfold valV valR
  rw [if_pos h1, if_neg (by rw [h2]; simp)]
theorem valV_no (h1 : algP L = true) (h2 : hasN xs.length id = true) (h3 : ¬ (HyOK L.length hs ∧ ∀ c ∈ subL xs id.toNat, NamedB hs xs c)) : valV L hs xs id = .tuple [.int .i64 0, .int .i64 2] := by
  unfold valV valR
  rw [if_pos h1, if_pos h2, if_neg h3]
theorem valV_yes (h1 : algP L = true) (h2 : hasN xs.length id = true) (h3 : HyOK L.length hs ∧ ∀ c ∈ subL xs id.toNat, NamedB hs xs c) : valV L hs xs id = .tuple [.int .i64 (val L.length (at2 L) hs xs id.toNat : Nat), .int .i64 0] := by
  unfold valV valR
  rw [if_pos h1, if_pos h2, if_pos h3]
end
end Go.Proofs.YtljglglbfcgjpaaGreat

namespace Go.Proofs.YtljglglbfcgjpaaGreat
open Go Go.Proofs Go.Shelf
def layS_ren : Ren := ⟨fun | 190 => 31 | 125 => 67 | 258 => 66 | 128 => 113 | 129 => 114 | 302 => 104 | 303 => 105 | 304 => 106 | 305 => 107 | 306 => 108 | 307 => 109 | 308 => 110 | 309 => 111 | 310 => 112 | 333 => 133 | 329 => 134 | 330 => 135 | 334 => 136 | 335 => 137 | 336 => 138 | 344 => 156 | n => n, fun | 31 => 91 | 9 => 9 | 3 => 3 | 46 => 89 | 0 => 0 | 51 => 187 | 53 => 88 | 4 => 4 | 183 => 180 | 182 => 179 | 131 => 105 | 5 => 5 | 218 => 205 | 222 => 209 | 228 => 219 | 229 => 62 | n => n, fun n => n⟩
set_option maxRecDepth 100000 in
theorem layS : Lays.n190 Tryz.prog layS_ren := {
  mixed := by kernel_rfl,
  f125 := Tryz.func67.trans (congrArg some (by kernel_rfl)),
  f128 := Tryz.func113.trans (congrArg some (by kernel_rfl)),
  f129 := Tryz.func114.trans (congrArg some (by kernel_rfl)),
  f190 := Tryz.func31.trans (congrArg some (by kernel_rfl)),
  f258 := Tryz.func66.trans (congrArg some (by kernel_rfl)),
  f302 := Tryz.func104.trans (congrArg some (by kernel_rfl)),
  f303 := Tryz.func105.trans (congrArg some (by kernel_rfl)),
  f304 := Tryz.func106.trans (congrArg some (by kernel_rfl)),
  f305 := Tryz.func107.trans (congrArg some (by kernel_rfl)),
  f306 := Tryz.func108.trans (congrArg some (by kernel_rfl)),
  f307 := Tryz.func109.trans (congrArg some (by kernel_rfl)),
  f308 := Tryz.func110.trans (congrArg some (by kernel_rfl)),
  f309 := Tryz.func111.trans (congrArg some (by kernel_rfl)),
  f310 := Tryz.func112.trans (congrArg some (by kernel_rfl)),
  f329 := Tryz.func134.trans (congrArg some (by kernel_rfl)),
  f330 := Tryz.func135.trans (congrArg some (by kernel_rfl)),
  f333 := Tryz.func133.trans (congrArg some (by kernel_rfl)),
  f334 := Tryz.func136.trans (congrArg some (by kernel_rfl)),
  f335 := Tryz.func137.trans (congrArg some (by kernel_rfl)),
  f336 := Tryz.func138.trans (congrArg some (by kernel_rfl)),
  f344 := Tryz.func156.trans (congrArg some (by kernel_rfl)),
  t0 := Tryz.underlying0,
  a0 := Tryz.isAgg0,
  z0 := Tryz.sizeOf0,
  v0 := Tryz.zeroValue0,
  t3 := Tryz.underlying3,
  a3 := Tryz.isAgg3,
  z3 := Tryz.sizeOf3,
  v3 := Tryz.zeroValue3,
  t4 := Tryz.underlying4,
  a4 := Tryz.isAgg4,
  z4 := Tryz.sizeOf4,
  v4 := Tryz.zeroValue4,
  t5 := Tryz.underlying5,
  a5 := Tryz.isAgg5,
  z5 := Tryz.sizeOf5,
  v5 := Tryz.zeroValue5,
  t9 := Tryz.underlying9,
  a9 := Tryz.isAgg9,
  z9 := Tryz.sizeOf9,
  v9 := Tryz.zeroValue9,
  t31 := Tryz.underlying91,
  a31 := Tryz.isAgg91,
  z31 := Tryz.sizeOf91,
  v31 := Tryz.zeroValue91,
  t46 := Tryz.underlying89,
  a46 := Tryz.isAgg89,
  z46 := Tryz.sizeOf89,
  v46 := Tryz.zeroValue89,
  t51 := Tryz.underlying187,
  a51 := Tryz.isAgg187,
  z51 := Tryz.sizeOf187,
  v51 := Tryz.zeroValue187,
  t53 := Tryz.underlying88,
  a53 := Tryz.isAgg88,
  z53 := Tryz.sizeOf88,
  v53 := Tryz.zeroValue88,
  t131 := Tryz.underlying105,
  a131 := Tryz.isAgg105,
  z131 := Tryz.sizeOf105,
  v131 := Tryz.zeroValue105,
  t182 := Tryz.underlying179,
  a182 := Tryz.isAgg179,
  z182 := Tryz.sizeOf179,
  v182 := Tryz.zeroValue179,
  t183 := Tryz.underlying180,
  a183 := Tryz.isAgg180,
  z183 := Tryz.sizeOf180,
  v183 := Tryz.zeroValue180,
  t218 := Tryz.underlying205,
  a218 := Tryz.isAgg205,
  z218 := Tryz.sizeOf205,
  v218 := Tryz.zeroValue205,
  t222 := Tryz.underlying209,
  a222 := Tryz.isAgg209,
  z222 := Tryz.sizeOf209,
  v222 := Tryz.zeroValue209,
  t228 := Tryz.underlying219,
  a228 := Tryz.isAgg219,
  z228 := Tryz.sizeOf219,
  v228 := Tryz.zeroValue219,
  t229 := Tryz.underlying62,
  a229 := Tryz.isAgg62,
  z229 := Tryz.sizeOf62,
  v229 := Tryz.zeroValue62 }
end Go.Proofs.YtljglglbfcgjpaaGreat

namespace Go.Proofs.YtljglglbfcgjpaaGreat
open Go Go.Sym Go.Proofs.Tryz
variable {K : AVal → Heap → Prop} {h h0 hb : Heap}
theorem rg_bt0 {s : ByteArray} {i : Int} {X : Prop} (h : X) : rg (btA s i) X := by
  have := btA_range s i
  exact rg_of (by omega) (by omega) h
theorem rg_bt {s : ByteArray} {i : Int} {X : Prop} (h : X) : rg (0 + btA s i) X := by
  have := btA_range s i
  exact rg_of (by omega) (by omega) h
set_option maxRecDepth 100000 in
theorem sortNil_ok (hk : K (.tuple []) h) : ACalls prog 31 [.nilsl] h K := by
  refine s31_ok ?_
  unfold s31
  show callG prog _ [.int .u64 (IntKind.u64.wrap 0)] h _
  refine callG_of (s67_ok ?_)
  unfold s67
  refine callG_of (s114_ok ?_)
  unfold s114
  refine ifT_neg (by decide) ?_
  unfold s114c1
  refine ifT_neg (by decide) ?_
  unfold s114c2
  refine ifT_neg (by decide) ?_
  unfold s114c3
  refine ⟨⟨by decide, by decide +kernel⟩, ?_⟩
  refine rg_bt0 (rg_bt (retG_of ?_))
  rw [tInt_int]
  refine retG_of ?_
  rw [tInt_int]
  refine callG_of (s66_ok ?_)
  unfold s66
  refine s66l1_in 1 ?_
  unfold s66l1
  refine rg_of (by decide) (by decide) (ifT_pos (by decide) (callG_of (s104_ok ?_)))
  unfold s104
  refine rg_of (by decide) (by decide) (s104l1_in 1 ?_)
  unfold s104l1
  exact ifT_neg (by decide) (retG_of (retG_of (retG_of hk)))
theorem sortS_perm (l : List ByteArray) : (sortS l).Perm l := by
  unfold sortS
  have h1 := (List.mergeSort_perm (l.map bsL) fun x y => decide (x ≤ y)).map fun b : List UInt8 => (⟨b.toArray⟩ : ByteArray)
  refine h1.trans ?_
  rw [List.map_map]
  have : ((fun b : List UInt8 => (⟨b.toArray⟩ : ByteArray)) ∘ bsL) = id := by
    funext s
    cases s
    simp [bsL]
  rw [this, List.map_id]
end Go.Proofs.YtljglglbfcgjpaaGreat

namespace Go.Proofs.YtljglglbfcgjpaaGreat
open Go Go.Sym Go.Proofs.Tryz
variable {K : AVal → Heap → Prop} {h h0 hb : Heap} {up : List (List Int)} {val : List (List ByteArray)} {mU mV : AVal}
/- ---- a map from names to slices ---- -/
abbrev Ent := ByteArray × AVal × List Nat
def eM (E : List Ent) : List (AVal × AVal) := E.map fun e => (.str e.1, e.2.1)
def eO (E : List Ent) : List Ow := E.map fun e => .slc 1 e.2.1 ((natI e.2.2).map (.int .i64))
def eN (E : List Ent) : List ByteArray := E.map fun e => e.1
def eP (E : List Ent) : List (ByteArray × List Nat) := E.map fun e => (e.1, e.2.2)
theorem eN_eP (E : List Ent) : eN E = (eP E).map fun e => e.1 := by unfold eN eP; rw [List.map_map]; rfl
theorem keyEq_str (a b : ByteArray) : keyEq (.str a) (.str b) = some (decide (a = b)) := kS_ok a b
theorem findE_out {s : ByteArray} : ∀ (E : List Ent) (p : Nat), s ∉ eN E → findM (.str s) (eM E) p = some none
  | [], p, _ => rfl
  | e :: E, p, hs => by
    have h2 : s ≠ e.1 ∧ s ∉ eN E := by simpa [eN] using hs
    show findM (.str s) ((.str e.1, e.2.1) :: eM E) p = _
    unfold findM
    rw [keyEq_str, decide_eq_false h2.1]
    exact findE_out E (p + 1) h2.2
theorem findE_in {s : ByteArray} : ∀ (E : List Ent), s ∈ eN E → ∃ (j : Nat) (e : Ent), E[j]? = some e ∧ e.1 = s ∧ ∀ p, findM (.str s) (eM E) p = some (some (p + j, e.2.1))
  | [], hs => by simp [eN] at hs
  | e :: E, hs => by
    by_cases h2 : s = e.1
    · subst h2
      refine ⟨0, e, rfl, rfl, fun p => ?_⟩
      show findM (.str e.1) ((.str e.1, e.2.1) :: eM E) p = _
      unfold findM
      rw [keyEq_str, decide_eq_true rfl]
      rfl
    · obtain ⟨j, e', h3, h4, h5⟩ := findE_in E (by simpa [eN, h2] using hs)
      refine ⟨j + 1, e', by simpa using h3, h4, fun p => ?_⟩
      show findM (.str s) ((.str e.1, e.2.1) :: eM E) p = _
      unfold findM
      rw [keyEq_str, decide_eq_false h2]
      simp only
      rw [h5 (p + 1), show p + 1 + j = p + (j + 1) by omega]
/- ---- which name was met where ---- -/
def Occ (val : List (List ByteArray)) (w k u : Nat) (s : ByteArray) : Prop := (u < w ∧ s ∈ val.getD u []) ∨ (u = w ∧ s ∈ (val.getD w []).take k)
def cB (w k : Nat) : Nat := w * 1048576 + k
theorem cB_row {w k : Nat} (h : k ≤ 1048576) : cB w k ≤ cB (w + 1) 0 := by unfold cB; omega
theorem cB_next (w k : Nat) : cB w k + 1 = cB w (k + 1) := by unfold cB; omega
structure EI (val : List (List ByteArray)) (w k : Nat) (P : List (ByteArray × List Nat)) : Prop where
  nd : (P.map fun e => e.1).Nodup
  all : ∀ u s, Occ val w k u s → s ∈ P.map fun e => e.1
  mem : ∀ e ∈ P, ∀ u, u ∈ e.2 ↔ Occ val w k u e.1
  inc : ∀ e ∈ P, e.2.Pairwise (· < ·)
  occ : ∀ e ∈ P, ∃ u, Occ val w k u e.1
  cnt : P.length ≤ cB w k
theorem EI.len {w k : Nat} {P : List (ByteArray × List Nat)} (I : EI val w k P) {e : ByteArray × List Nat} (he : e ∈ P) : e.2.length ≤ w + 1 :=
  inc_len (a := 0) (n := w + 1) (I.inc e he) fun u hu => ⟨Nat.zero_le _, by rcases (I.mem e he u).1 hu with h | h <;> omega⟩
theorem EI.start : EI val 0 0 [] where
  nd := .nil
  all u s h := by rcases h with h | h <;> simp at h
  mem e he := by simp at he
  inc e he := by simp at he
  occ e he := by simp at he
  cnt := by simp
theorem Occ.row {w u : Nat} {s : ByteArray} : Occ val (w + 1) 0 u s ↔ Occ val w (val.getD w []).length u s := by
  unfold Occ
  rw [List.take_length]
  constructor
  · rintro (⟨h1, h2⟩ | ⟨_, h2⟩)
    · by_cases e : u = w
      · subst e; exact .inr ⟨rfl, h2⟩
      · exact .inl ⟨by omega, h2⟩
    · simp at h2
  · rintro (⟨h1, h2⟩ | ⟨rfl, h2⟩)
    · exact .inl ⟨by omega, h2⟩
    · exact .inl ⟨by omega, h2⟩
theorem EI.row {w : Nat} {P : List (ByteArray × List Nat)} (hs : (val.getD w []).length ≤ 1048576) (I : EI val w (val.getD w []).length P) : EI val (w + 1) 0 P where
  nd := I.nd
  all u s h := I.all u s (Occ.row.1 h)
  mem e he u := (I.mem e he u).trans Occ.row.symm
  inc := I.inc
  occ e he := let ⟨u, hu⟩ := I.occ e he; ⟨u, Occ.row.2 hu⟩
  cnt := Nat.le_trans I.cnt (cB_row hs)
theorem Occ.next {w k u : Nat} {s : ByteArray} (hk : k < (val.getD w []).length) : Occ val w (k + 1) u s ↔ Occ val w k u s ∨ (u = w ∧ s = (val.getD w [])[k]) := by
  unfold Occ
  rw [List.take_succ_eq_append_getElem hk, List.mem_append, List.mem_singleton]
  constructor
  · rintro (h | ⟨rfl, h | h⟩)
    · exact .inl (.inl h)
    · exact .inl (.inr ⟨rfl, h⟩)
    · exact .inr ⟨rfl, h⟩
  · rintro ((h | ⟨rfl, h⟩) | ⟨rfl, h⟩)
    · exact .inl h
    · exact .inr ⟨rfl, .inl h⟩
    · exact .inr ⟨rfl, .inr h⟩
theorem EI.put_new {w k : Nat} {P : List (ByteArray × List Nat)} (I : EI val w k P) (hk : k < (val.getD w []).length) (hs : (val.getD w [])[k] ∉ P.map fun e => e.1) : EI val w (k + 1) (P ++ [((val.getD w [])[k], [w])]) where
  nd := by
    rw [List.map_append, List.nodup_append]
    refine ⟨I.nd, by simp, fun a ha b hb => ?_⟩
    simp only [List.map_cons, List.map_nil, List.mem_singleton] at hb
    subst hb
    exact fun e => hs (e ▸ ha)
  all u s h := by
    rw [List.map_append, List.mem_append]
    rcases (Occ.next hk).1 h with h | ⟨_, h⟩
    · exact .inl (I.all u s h)
    · exact .inr (by simp [h])
  mem e he u := by
    rw [Occ.next hk]
    rcases List.mem_append.1 he with h | h
    · rw [I.mem e h u]
      refine ⟨.inl, fun h2 => h2.resolve_right fun h3 => hs ?_⟩
      rw [← h3.2]
      exact List.mem_map.2 ⟨e, h, rfl⟩
    · rw [List.mem_singleton.1 h]
      simp only [List.mem_singleton]
      refine ⟨fun e => .inr ⟨e, trivial⟩, fun h2 => ?_⟩
      rcases h2 with h2 | h2
      · exact absurd (I.all _ _ h2) hs
      · exact h2.1
  inc e he := by
    rcases List.mem_append.1 he with h | h
    · exact I.inc e h
    · rw [List.mem_singleton.1 h]; exact List.pairwise_singleton _ _
  occ e he := by
    rcases List.mem_append.1 he with h | h
    · obtain ⟨u, hu⟩ := I.occ e h
      exact ⟨u, (Occ.next hk).2 (.inl hu)⟩
    · rw [List.mem_singleton.1 h]
      exact ⟨w, (Occ.next hk).2 (.inr ⟨rfl, rfl⟩)⟩
  cnt := by have := I.cnt; have := cB_next w k; simp only [List.length_append, List.length_singleton]; omega
theorem EI.put_old {w k j : Nat} {P : List (ByteArray × List Nat)} {l : List Nat} (I : EI val w k P) (hk : k < (val.getD w []).length) (hf : (val.getD w []).Nodup) (hj : P[j]? = some ((val.getD w [])[k], l)) : EI val w (k + 1) (P.set j ((val.getD w [])[k], l ++ [w])) := by
  have hjl := (List.getElem?_eq_some_iff.1 hj).1
  have hmem : ((val.getD w [])[k], l) ∈ P := List.mem_of_getElem? hj
  have names : (P.set j ((val.getD w [])[k], l ++ [w])).map (fun e => e.1) = P.map fun e => e.1 := by
    rw [List.map_set]
    apply List.ext_getElem?
    intro i
    rw [List.getElem?_set]
    split
    · rename_i e
      subst e
      rw [if_pos (by simpa using hjl), List.getElem?_map, hj]
      rfl
    · rfl
  have notin : w ∉ l := fun hw => by
    have := (I.mem _ hmem w).1 hw
    rcases this with h | ⟨_, h⟩
    · omega
    · obtain ⟨i, hi, e⟩ := List.mem_take_iff_getElem.1 h
      have := List.pairwise_iff_getElem.1 hf i k (by omega) hk (by omega)
      exact this e
  have cases' : ∀ e ∈ P.set j ((val.getD w [])[k], l ++ [w]), (e ∈ P ∧ e.1 ≠ (val.getD w [])[k]) ∨ e = ((val.getD w [])[k], l ++ [w]) := fun e he => by
    obtain ⟨i, hi⟩ := List.getElem?_of_mem he
    rw [List.getElem?_set] at hi
    split at hi
    · rename_i e1
      exact .inr (Option.some.inj hi).symm
    · rename_i e1
      refine .inl ⟨List.mem_of_getElem? hi, fun e2 => ?_⟩
      have h1 := (List.getElem?_eq_some_iff.1 hi)
      have h2 := (List.getElem?_eq_some_iff.1 hj)
      have nd := List.pairwise_iff_getElem.1 I.nd
      rcases Nat.lt_or_gt_of_ne e1 with h | h
      · refine nd j i (by simpa using h2.1) (by simpa using h1.1) h ?_
        simp only [List.getElem_map, h1.2, h2.2, e2]
      · refine nd i j (by simpa using h1.1) (by simpa using h2.1) h ?_
        simp only [List.getElem_map, h1.2, h2.2, e2]
  refine ⟨by rw [names]; exact I.nd, fun u s h => ?_, fun e he u => ?_, fun e he => ?_, fun e he => ?_, by have := I.cnt; have := cB_next w k; rw [List.length_set]; omega⟩
  · rw [names]
    rcases (Occ.next hk).1 h with h | ⟨_, h⟩
    · exact I.all u s h
    · rw [h]; exact List.mem_map.2 ⟨_, hmem, rfl⟩
  · rw [Occ.next hk]
    rcases cases' e he with ⟨h1, h2⟩ | rfl
    · rw [I.mem e h1 u]
      exact ⟨.inl, fun h3 => h3.resolve_right fun h4 => h2 h4.2⟩
    · rw [List.mem_append, List.mem_singleton, I.mem _ hmem u]
      simp
  · rcases cases' e he with ⟨h1, _⟩ | rfl
    · exact I.inc e h1
    · rw [List.pairwise_append]
      refine ⟨I.inc _ hmem, List.pairwise_singleton _ _, fun a ha b hb => ?_⟩
      rw [List.mem_singleton.1 hb]
      have := (I.mem _ hmem a).1 ha
      rcases this with h | ⟨h, _⟩
      · exact h.1
      · exact absurd (h ▸ ha) notin
  · rcases cases' e he with ⟨h1, _⟩ | rfl
    · obtain ⟨u, hu⟩ := I.occ e h1
      exact ⟨u, (Occ.next hk).2 (.inl hu)⟩
    · exact ⟨w, (Occ.next hk).2 (.inr ⟨rfl, rfl⟩)⟩
theorem mapPut_mapA {h : Heap} {q : Nat} {l l' : List (AVal × AVal)} {k v : AVal} (hq : h q = some (.map l)) (hl : putM k v l = some l') (X : Heap → Prop) : mapPut h (.mapr q) k v X = X (h.set q (.map l')) := by
  unfold mapPut mapPutR
  simp only [hq, hl]
/- ---- the walk ---- -/
abbrev ES (h0 : Heap) (q : Nat) (E : List Ent) (h : Heap) : Prop := Own h0 ([.cell q (.map (eM E))] ++ eO E) h
theorem atomsH_l2 {q w : Nat} {l_ tv : AVal} {L1 : s10l1_T} {e : AVal} {n : Int} (hw : w < 1048576) (hsz : (val.getD w []).length ≤ 1048576) (hf : (val.getD w []).Nodup) (he : Strs e (val.getD w []))
    (next : ∀ E h, EI val w (val.getD w []).length (eP E) → ES h0 q E h → L1 (.lptr [mU, mV]) l_ (.mapr q) tv n ((w : Int) + 1) h) :
    ∀ (d k : Nat) (E : List Ent) (h : Heap), k + d = (val.getD w []).length → EI val w k (eP E) → ES h0 q E h →
      s10l2 K L1 (d + 1) (.lptr [mU, mV]) l_ (.mapr q) (w : Int) tv n (w : Int) e ((val.getD w []).length : Int) (k : Int) h
  | 0, k, E, h, hd, I, W => by
    obtain rfl : k = (val.getD w []).length := by omega
    unfold s10l2
    exact ifT_neg (by simp) (rg_of (by omega) (by omega) (next E h I W))
  | d + 1, k, E, h, hd, I, W => by
    have hk : k < (val.getD w []).length := by omega
    have hlenP : (eP E).length = E.length := by simp [eP]
    have hcnt := I.cnt
    unfold s10l2
    refine ifT_pos (decide_eq_true (by omega)) ?_
    rw [he.ix hk, ld1_lptr, tStr_str]
    have hq := W.get 0 _ q rfl rfl
    unfold mapGet mapGetR entsA
    simp only [hq, Ow.obj]
    by_cases hs : (val.getD w [])[k] ∈ eN E
    · obtain ⟨j, en, hj, hen, hfind⟩ := findE_in E hs
      rw [hfind 0]
      simp only
      have hjl := (List.getElem?_eq_some_iff.1 hj).1
      have hPj : (eP E)[j]? = some ((val.getD w [])[k], en.2.2) := by
        unfold eP
        rw [List.getElem?_map, hj]
        simp [hen]
      have hle : en.2.2.length ≤ w + 1 := I.len (List.mem_of_getElem? hPj)
      have hos : ([Ow.cell q (.map (eM E))] ++ eO E)[j + 1]? = some (.slc 1 en.2.1 ((natI en.2.2).map (.int .i64))) := by
        show (eO E)[j]? = _
        unfold eO
        rw [List.getElem?_map, hj]
        rfl
      have hl2 : ((natI en.2.2).map (AVal.int .i64)).length ≤ w + 1 := by rw [List.length_map]; unfold natI; rw [List.length_map]; exact hle
      refine W.app hos ?_ ?_ fun v' h' W2 => ?_
      · omega
      · omega
      have e2 : ([Ow.cell q (.map (eM E))] ++ eO E).set (j + 1) (.slc 1 v' ((natI en.2.2).map (.int .i64) ++ [.int .i64 (w : Int)])) = [Ow.cell q (.map (eM E))] ++ eO (E.set j ((val.getD w [])[k], v', en.2.2 ++ [w])) := by
        show Ow.cell q (.map (eM E)) :: (eO E).set j _ = _
        unfold eO
        rw [List.map_set]
        simp [natI]
      rw [e2] at W2
      have hq2 := W2.get 0 _ q rfl rfl
      have hput : mapPut h' (.mapr q) (.str (val.getD w [])[k]) v' = fun X => X (h'.set q (.map (eM (E.set j ((val.getD w [])[k], v', en.2.2 ++ [w]))))) := by
        funext X
        refine mapPut_mapA hq2 ?_ X
        unfold putM
        rw [hfind 0]
        simp only [Nat.zero_add]
        unfold eM
        rw [List.map_set]
      rw [hput]
      have W3 : ES h0 q (E.set j ((val.getD w [])[k], v', en.2.2 ++ [w])) _ := W2.put (i := 0) rfl _
      refine rg_of (by omega) (by omega) (s10l2_go (atomsH_l2 hw hsz hf he next d (k + 1) _ _ (by omega) ?_ W3))
      have := I.put_old hk hf hPj
      have e3 : eP (E.set j ((val.getD w [])[k], v', en.2.2 ++ [w])) = (eP E).set j ((val.getD w [])[k], en.2.2 ++ [w]) := by unfold eP; rw [List.map_set]
      rw [e3]
      exact this
    · rw [findE_out E 0 hs]
      simp only
      have Wn := W.newN 1
      have hos : ([Ow.cell q (.map (eM E))] ++ eO E ++ [Ow.slc 1 .nilsl []])[([Ow.cell q (.map (eM E))] ++ eO E).length]? = some (.slc 1 .nilsl []) := by simp
      refine Wn.app hos (by simp) (by simp) fun v' h' W2 => ?_
      have e2 : ([Ow.cell q (.map (eM E))] ++ eO E ++ [Ow.slc 1 .nilsl []]).set ([Ow.cell q (.map (eM E))] ++ eO E).length (.slc 1 v' ([] ++ [.int .i64 (w : Int)])) = [Ow.cell q (.map (eM E))] ++ eO (E ++ [((val.getD w [])[k], v', [w])]) := by
        rw [List.set_append_right _ _ (Nat.le_refl _), Nat.sub_self]
        unfold eO
        simp [natI]
      rw [e2] at W2
      have hq2 := W2.get 0 _ q rfl rfl
      have hput : mapPut h' (.mapr q) (.str (val.getD w [])[k]) v' = fun X => X (h'.set q (.map (eM (E ++ [((val.getD w [])[k], v', [w])])))) := by
        funext X
        refine mapPut_mapA hq2 ?_ X
        unfold putM
        rw [findE_out E 0 hs]
        simp [eM]
      rw [hput]
      have W3 : ES h0 q (E ++ [((val.getD w [])[k], v', [w])]) _ := W2.put (i := 0) rfl _
      refine rg_of (by omega) (by omega) (s10l2_go (atomsH_l2 hw hsz hf he next d (k + 1) _ _ (by omega) ?_ W3))
      have := I.put_new hk (by rw [← eN_eP]; exact hs)
      have e3 : eP (E ++ [((val.getD w [])[k], v', [w])]) = eP E ++ [((val.getD w [])[k], [w])] := by unfold eP; simp
      rw [e3]
      exact this
end Go.Proofs.YtljglglbfcgjpaaGreat

namespace Go.Proofs.YtljglglbfcgjpaaGreat
open Go Go.Sym Go.Proofs.Tryz
variable {K : AVal → Heap → Prop} {h h0 hb : Heap} {up : List (List Int)} {val : List (List ByteArray)} {mU mV : AVal}
/- ---- the slices become plain data ---- -/
theorem litE {S : Nat → Prop} : ∀ E : List Ent, (∀ e ∈ E, ∃ v', Go.Sym.Lit h S e.2.1 v' ∧ Ints v' (natI e.2.2)) → ∃ E' : List Ent, eP E' = eP E ∧ (∀ e ∈ E', Ints e.2.1 (natI e.2.2)) ∧ LitEs h S (eM E) (eM E')
  | [], _ => ⟨[], rfl, fun e he => by simp at he, .nil⟩
  | e :: E, H => by
    obtain ⟨v', h1, h2⟩ := H e (List.mem_cons_self ..)
    obtain ⟨E', h3, h4, h5⟩ := litE E fun x hx => H x (List.mem_cons_of_mem _ hx)
    refine ⟨(e.1, v', e.2.2) :: E', ?_, fun x hx => ?_, .cons h1 h5⟩
    · show (e.1, e.2.2) :: eP E' = (e.1, e.2.2) :: eP E
      rw [h3]
    · rcases List.mem_cons.1 hx with rfl | hx
      · exact h2
      · exact h4 x hx
theorem freezeE {q : Nat} {E : List Ent} (W : ES h0 q E h) : ∃ S h' E', eP E' = eP E ∧ (∀ e ∈ E', Ints e.2.1 (natI e.2.2)) ∧ Go.Sym.GStep h h' S ∧ Own h0 [.cell q (.map (eM E'))] h' := by
  have at' : ∀ (i : Nat) (e : Ent), E[i]? = some e → ([Ow.cell q (.map (eM E))] ++ eO E)[i + 1]? = some (.slc 1 e.2.1 ((natI e.2.2).map (.int .i64))) := fun i e he => by
    show (eO E)[i]? = _
    unfold eO
    rw [List.getElem?_map, he]
    rfl
  let S : Nat → Prop := fun n => ∃ (i : Nat) (e : Ent), E[i]? = some e ∧ nameOf e.2.1 n
  obtain ⟨E', h1, h2, h3⟩ := litE (h := h) (S := S) E fun e he => by
    obtain ⟨i, hi⟩ := List.getElem?_of_mem he
    obtain ⟨v', lv, sv⟩ := W.lit (at' i e hi) (S := S) (fun n hn => ⟨i, e, hi, hn⟩) (Lits.refl _)
    exact ⟨v', lv, sv⟩
  obtain ⟨h', g, W'⟩ := W.step S [.cell q (.map (eM E'))] (fun n ⟨i, e, hi, hn⟩ => W.new _ _ n (at' i e hi) hn) (fun j y hj => by
    cases j with
    | zero =>
      cases hj
      refine ⟨_, rfl, trivial, fun n hn => ⟨hn, fun ⟨i, e, hi, hn2⟩ => ?_⟩, .map h3⟩
      have := W.one 0 (i + 1) _ _ n rfl (at' i e hi) hn hn2
      omega
    | succ j => simp at hj)
  exact ⟨S, h', E', h1, h2, g, W'⟩
/- ---- the walk ---- -/
theorem atomsH_l1 {q : Nat} {l_ : AVal} (hV : Strss mV val) (S : Small up val) (hfine : ∀ l ∈ val, l.Nodup)
    (final : ∀ E h, EI val val.length 0 (eP E) → (∀ e ∈ E, Ints e.2.1 (natI e.2.2)) → Own h0 [.cell q (.map (eM E))] h → rangeM h (.mapr q) fun v9 h_4 => s10l3_E (s10l3 K) (.lptr [mU, mV]) l_ (.mapr q) .nilsl v9 h_4) :
    ∀ (d w : Nat) (E : List Ent) (h : Heap), w + (d + 1) = val.length → EI val w 0 (eP E) → ES h0 q E h →
      s10l1 K (d + 2) (.lptr [mU, mV]) l_ (.mapr q) mV (val.length : Int) (w : Int) h := by
  intro d
  induction d with
  | zero =>
    intro w E h hd I W
    have hw : w < val.length := by omega
    have hvl := S.vals
    obtain ⟨e, he, hix⟩ := hV.ix hw
    have eg : val.getD w [] = val[w] := getD_val hw
    unfold s10l1
    refine ifT_pos (decide_eq_true (by omega)) ?_
    rw [hix, ld1_lptr, he.len, ← eg]
    rw [← eg] at he
    have hm : val.getD w [] ∈ val := by rw [eg]; exact List.getElem_mem hw
    refine s10l2_in ((val.getD w []).length + 1) (atomsH_l2 (by omega) (S.names _ hm).2 (hfine _ hm) he (fun E h I W => ?_) (val.getD w []).length 0 E h (by omega) I W)
    obtain ⟨Sg, h', E', e1, e2, g, W'⟩ := freezeE W
    refine ⟨Sg, _, h', Lits.refl _, g, rfl, ?_⟩
    show s10l1 K 1 (.lptr [mU, mV]) l_ (.mapr q) mV (val.length : Int) ((w : Int) + 1) h'
    unfold s10l1
    refine ifT_neg (decide_eq_false (by omega)) (final E' h' ?_ e2 W')
    have := I.row (S.names _ hm).2
    rw [e1]
    rwa [show w + 1 = val.length by omega] at this
  | succ d ih =>
    intro w E h hd I W
    have hw : w < val.length := by omega
    have hvl := S.vals
    obtain ⟨e, he, hix⟩ := hV.ix hw
    have eg : val.getD w [] = val[w] := getD_val hw
    unfold s10l1
    refine ifT_pos (decide_eq_true (by omega)) ?_
    rw [hix, ld1_lptr, he.len, ← eg]
    rw [← eg] at he
    have hm : val.getD w [] ∈ val := by rw [eg]; exact List.getElem_mem hw
    refine s10l2_in ((val.getD w []).length + 1) (atomsH_l2 (by omega) (S.names _ hm).2 (hfine _ hm) he (fun E h I W => ?_) (val.getD w []).length 0 E h (by omega) I W)
    exact s10l1_go (ih (w + 1) E h (by omega) (I.row (S.names _ hm).2) W)
theorem idxQ_l1 {V : List (List Bool)} {v : AVal} (hv : SlOf 1 v (strsQ V)) {i : Nat} (hi : i < V.length) (hl : V.length ≤ 1048576) (hk : K (.int .i64 (i : Int)) h) (hnd : ∀ j (hj : j < V.length), j < i → V[j] ≠ V[i]) :
    ∀ d j : Nat, j + d = i → s32l1 K (d + 1) v (bsS V[i]) (V.length : Int) (j : Int) h
  | 0, j, hd => by
    obtain rfl : j = i := by omega
    unfold s32l1
    refine ifT_pos (decide_eq_true (by omega)) ?_
    rw [ixS_nat hv (e := .str (bsS V[j])) (by simp [hi]), show cellsOf (.str (bsS V[j])) = [.str (bsS V[j])] from rfl, ld1_lptr, tStr_str, strEq_dec]
    exact ifT_pos (by simp) (retG_of hk)
  | d + 1, j, hd => by
    have hj : j < V.length := by omega
    unfold s32l1
    refine ifT_pos (decide_eq_true (by omega)) ?_
    rw [ixS_nat hv (e := .str (bsS V[j])) (by simp [hj]), show cellsOf (.str (bsS V[j])) = [.str (bsS V[j])] from rfl, ld1_lptr, tStr_str, strEq_dec]
    refine ifT_neg ?_ (rg_of (by omega) (by omega) (s32l1_go (idxQ_l1 hv hi hl hk hnd d (j + 1) (by omega))))
    exact decide_eq_false fun e => hnd j hj (by omega) (bsS_inj e).symm
theorem idxQ_ok {V : List (List Bool)} {v : AVal} (hv : SlOf 1 v (strsQ V)) {i : Nat} (hi : i < V.length) (hl : V.length ≤ 1048576) (hnd : ∀ j (hj : j < V.length), j < i → V[j] ≠ V[i]) (hk : K (.int .i64 (i : Int)) h) : ACalls prog 32 [v, .str (bsS V[i])] h K := by
  refine s32_ok ?_
  unfold s32
  rw [lenN_of hv, show ((strsQ V).length : Int) = (V.length : Int) by simp]
  exact s32l1_in (i + 1) (idxQ_l1 hv hi hl hk hnd i 0 (by omega))
/- ---- which set a name is ---- -/
def atomS (val : List (List ByteArray)) (n : Nat) (s : ByteArray) : List Bool := (List.range n).map fun u => inS (val.getD u []) s
theorem atomS_len {n : Nat} {s : ByteArray} : (atomS val n s).length = n := by simp [atomS]
theorem atomS_get {n u : Nat} {s : ByteArray} (hu : u < n) : (atomS val n s).getD u false = inS (val.getD u []) s := by
  unfold atomS
  rw [List.getD_eq_getElem?_getD, List.getElem?_map, List.getElem?_range hu]
  rfl
theorem atomS_closed (W : WF up val) (s : ByteArray) : ClosedU up (atomS val up.length s) := by
  refine ⟨atomS_len, fun a b ha hb hr h => ?_⟩
  rw [atomS_get ha] at h
  rw [atomS_get hb]
  by_cases e : a = b
  · rw [← e]; exact h
  · exact inS_iff.2 ((W.cond a b ha hb (rb_iff.1 hr) e).2 s (inS_iff.1 h))
theorem join_atomS {n : Nat} {P : List (ByteArray × List Nat)} (I : EI val n 0 P) {e : ByteArray × List Nat} (he : e ∈ P) : joinS (List.replicate n false) e.2 = atomS val n e.1 := by
  refine ext_getD (by rw [joinS_len, atomS_len, List.length_replicate]) fun i hi => ?_
  rw [joinS_len, List.length_replicate] at hi
  rw [joinS_get _ _ _ (by rw [List.length_replicate]; exact hi), getD_rep, Bool.false_or, atomS_get hi, Bool.eq_iff_iff, decide_eq_true_eq, I.mem e he i, inS_iff]
  unfold Occ
  simp [hi]
def atomHs (val : List (List ByteArray)) (n : Nat) (V : List (List Bool)) (l : List ByteArray) : List Hy := l.map fun s => ⟨s, ((V.idxOf (atomS val n s) : Nat) : Int)⟩
theorem rise_ne {V : List (List Bool)} {n : Nat} (R : Rising n V) {i j : Nat} (hi : i < V.length) (hj : j < V.length) (h : j < i) : V[j] ≠ V[i] := fun e => by
  have := List.pairwise_iff_getElem.1 R j i hj hi h
  rw [e] at this
  have h2 := cmpD_swap V[i] V[i] n
  omega
section
variable {V : List (List Bool)} {vS : AVal} (W : WF up val) (hUp : IsUps up V) (hl : V.length ≤ 64) (hv : SlOf 1 vS (strsQ V)) (hU : Intss mU up)
include W hUp hl hv hU
theorem atomsH_l4 {q : Nat} {E : List Ent} (I : EI val val.length 0 (eP E)) (hE : ∀ e ∈ E, Ints e.2.1 (natI e.2.2)) {vN : AVal} {l : List ByteArray} (hN : Strs vN l) (hin : ∀ s ∈ l, s ∈ eN E) (hll : l.length ≤ 1099511627776) (yes : ∀ v h', Own h0 [.slc 2 v ((atomHs val up.length V l).map hyV)] h' → K (.tuple [v, .int .i64 0]) h') :
    ∀ (d k : Nat) (out : AVal) (h : Heap), k + d = l.length → Own h0 [.cell q (.fmap (eM E)), .slc 2 out ((atomHs val up.length V (l.take k)).map hyV)] h →
      s10l4 K (d + 1) (.lptr [mU, mV]) vS (.mapr q) out vN (l.length : Int) (k : Int) h
  | 0, k, out, h, hd, O => by
    unfold s10l4
    refine ifT_neg (decide_eq_false (by omega)) ?_
    rw [List.take_of_length_le (by omega)] at O
    refine retG_of (yes out h (O.renum _ (fun j => j + 1) (fun j y hj => ?_) (fun j _ k _ e => by omega)))
    cases j with
    | zero => exact hj
    | succ j => simp at hj
  | d + 1, k, out, h, hd, O => by
    have hk : k < l.length := by omega
    have hvu := W.len
    have hmax := W.max
    have hks : l[k] ∈ eN E := hin _ (List.getElem_mem hk)
    obtain ⟨j, en, hj, hen, hfind⟩ := findE_in E hks
    have hmE := List.mem_of_getElem? hj
    have hmP : (en.1, en.2.2) ∈ eP E := List.mem_map.2 ⟨en, hmE, rfl⟩
    have hie := hE en hmE
    have hlen := I.len hmP
    have hjoin := join_atomS I hmP
    simp only at hlen hjoin
    unfold s10l4
    refine ifT_pos (decide_eq_true (by omega)) ?_
    rw [hN.ix hk, ld1_lptr, tStr_str, addOff_lptr, List.drop_zero, ld1_lptr, hU.len]
    have hmg : ∀ (h' : Heap), h' q = some (.fmap (eM E)) → ∀ X : AVal → Bool → Prop, mapGet .nilsl h' (.mapr q) (.str l[k]) X = X en.2.1 true := fun h' hq X => by
      unfold mapGet mapGetR entsA
      simp only [hq, hfind 0]
    rw [hmg h (O.get 0 _ q rfl rfl)]
    refine mkS_own (n := up.length) (by omega) (by omega) fun r hr => ?_
    have O1 := Own.skip O hr (.row 1 (List.replicate up.length (.int .u8 0)))
    refine ⟨by rw [hmg _ (O1.get 0 _ q rfl rfl)], ?_⟩
    have eb : List.replicate up.length (AVal.int .u8 0) = bV (List.replicate up.length false) := by simp [bV]
    rw [eb]
    rw [eb] at O1
    have hb2 := bStr_row (l := List.replicate up.length false) (Heap.set_same h r (.row 1 (bV (List.replicate up.length false))))
    rw [List.length_replicate] at hb2
    rw [hb2]
    refine callG_of (joined_ok (l := List.replicate up.length false) (ws := en.2.2) hie (fun u hu => ?_) (by rw [List.length_replicate]; omega) (by omega) ?_)
    · rw [List.length_replicate]
      have := (I.mem _ hmP u).1 hu
      rcases this with h1 | h1
      · omega
      · simp at h1
    rw [tStr_str, ← hvu, hjoin, hen]
    have hcl := atomS_closed W l[k]
    rw [← hvu] at hcl
    have hm := (hUp.mem _).2 hcl
    have hi := List.idxOf_lt_length_of_mem hm
    have hget : V[V.idxOf (atomS val val.length l[k])] = atomS val val.length l[k] := List.getElem_idxOf hi
    refine callG_of ?_
    have := idxQ_ok (K := fun v26 h_10 => tInt .i64 v26 fun v27 => appC 2 24 h_10 out (.lsl 2 [(.agg [(.str l[k]), (.int .i64 v27)])]) fun v28 h_11 => rg ((k : Int) + 1) (s10l4_G (s10l4 K (d + 1)) (.lptr [mU, mV]) vS (.mapr q) v28 vN (l.length : Int) ((k : Int) + 1) h_11)) hv hi (by omega) (fun a ha hai => rise_ne hUp.rise hi ha hai) ?_ (h := h.set r (.row 1 (bV (List.replicate val.length false))))
    · rw [hget] at this
      exact this
    · rw [tInt_int]
      have hcnt : (atomHs val up.length V (l.take k)).length ≤ k := by unfold atomHs; rw [List.length_map, List.length_take]; omega
      have O1' : Own h0 [.cell q (.fmap (eM E)), .slc 2 out ((atomHs val up.length V (l.take k)).map hyV)] (h.set r (.row 1 (bV (List.replicate val.length false)))) := by rw [hvu]; exact O1
      refine O1'.app (i := 1) rfl (by rw [List.length_map]; omega) (by rw [List.length_map]; omega) fun v' h' O2 => rg_of (by omega) (by omega) (s10l4_go (atomsH_l4 I hE hN hin hll yes d (k + 1) v' h' (by omega) ?_))
      have e1 : l.take (k + 1) = l.take k ++ [l[k]] := List.take_succ_eq_append_getElem hk
      have e2 : (atomHs val up.length V (l.take (k + 1))).map hyV = (atomHs val up.length V (l.take k)).map hyV ++ [.agg [.str l[k], .int .i64 ((V.idxOf (atomS val val.length l[k]) : Nat) : Int)]] := by
        rw [e1]
        unfold atomHs
        rw [List.map_append, List.map_append, hvu]
        rfl
      rw [e2]
      exact O2
end
end Go.Proofs.YtljglglbfcgjpaaGreat

namespace Go.Proofs.YtljglglbfcgjpaaGreat
open Go Go.Sym Go.Proofs.Tryz
variable {K : AVal → Heap → Prop} {h h0 hb : Heap} {up : List (List Int)} {val : List (List ByteArray)} {mU mV : AVal}
theorem extrA {l : List AVal} {i : Nat} {x : AVal} (h : l[i]? = some x) (X : AVal → Prop) : extractA (.tuple l) i X = X x := by
  simp [extractA, h]
theorem pick_perm {α : Type} {i : Nat} {j : α} : ∀ {L : List α}, L[i]? = some j → (j :: L.eraseIdx i).Perm L := by
  induction i with
  | zero =>
    intro L h
    cases L with
    | nil => simp at h
    | cons a L => simp at h; subst h; exact .refl _
  | succ i ih =>
    intro L h
    cases L with
    | nil => simp at h
    | cons a L =>
      simp only [List.getElem?_cons_succ] at h
      simp only [List.eraseIdx_cons_succ]
      exact (List.Perm.swap a j _).trans ((ih h).cons a)
theorem eM_erase (i : Nat) (E : List Ent) : (eM E).eraseIdx i = eM (E.eraseIdx i) := by
  unfold eM
  rw [List.eraseIdx_eq_take_drop_succ, List.eraseIdx_eq_take_drop_succ, List.map_append, List.map_take, List.map_drop]
section
variable {V : List (List Bool)} {vS : AVal} (W : WF up val) (hUp : IsUps up V) (hl : V.length ≤ 64) (hv : SlOf 1 vS (strsQ V)) (hU : Intss mU up)
include W hUp hl hv hU
theorem atomsH_l3 {q qi : Nat} {E : List Ent} (I : EI val val.length 0 (eP E)) (hE : ∀ e ∈ E, Ints e.2.1 (natI e.2.2)) (hcnt : E.length ≤ 1099511627776)
    (yes : ∀ N : List ByteArray, N.Perm (eN E) → ∀ v h', Own h0 [.slc 2 v ((atomHs val up.length V (sortS N)).map hyV)] h' → K (.tuple [v, .int .i64 0]) h') :
    ∀ (d : Nat) (left : List Ent) (acc : List ByteArray) (nm : AVal) (cur : Option (AVal × AVal)) (h : Heap), left.length = d → (acc ++ eN left).Perm (eN E) → (acc = [] → nm = .nilsl) →
      Own h0 [.cell q (.fmap (eM E)), .cell qi (.miter (eM left) cur), .slc 1 nm (acc.map .str)] h → s10l3 K (d + 1) (.lptr [mU, mV]) vS (.mapr q) nm (.iter qi) h
  | 0, left, acc, nm, cur, h, hd, hp, hz, O => by
    obtain rfl := List.length_eq_zero_iff.1 hd
    have hp : acc.Perm (eN E) := by simpa [eN] using hp
    have hlen : acc.length = E.length := by rw [hp.length_eq]; simp [eN]
    unfold s10l3
    unfold nextM
    simp only [O.get 1 _ qi rfl rfl, Ow.obj, eM, List.map_nil]
    rw [extrA rfl, tBool_bool]
    refine ifT_neg rfl ?_
    have hin : ∀ s ∈ sortS acc, s ∈ eN E := fun s hs => hp.mem_iff.1 ((sortS_perm acc).mem_iff.1 hs)
    have hsl : (sortS acc).length = acc.length := (sortS_perm acc).length_eq
    rcases O.fit 2 _ rfl with ⟨rfl, e⟩ | ⟨r, rfl⟩
    · have hacc : acc = [] := List.map_eq_nil_iff.1 e
      subst hacc
      have hs0 : sortS [] = [] := List.length_eq_zero_iff.1 hsl
      refine callG_of (sortNil_ok ?_)
      have O2 : Own h0 [.cell q (.fmap (eM E)), .slc 2 .nilsl ((atomHs val up.length V ((sortS []).take 0)).map hyV)] h := by
        have := (O.renum [.cell q (.fmap (eM E))] (fun j => j) (fun j y hj => by
          cases j with
          | zero => exact hj
          | succ j => simp at hj) (fun j _ k _ e => e)).newN 2
        simpa [atomHs] using this
      exact s10l4_in 1 (atomsH_l4 (mV := mV) W hUp hl hv hU I hE (vN := .nilsl) (l := sortS []) (by rw [hs0]; exact .nil 1) hin (by omega) (yes [] hp) 0 0 .nilsl h (by rw [hs0]; rfl) O2 |> fun h => by rw [hs0] at h; exact h)
    · by_cases hz' : acc.length = 0
      · exact absurd (hz (List.length_eq_zero_iff.1 hz')) (by simp)
      · have hr := O.get 2 _ r rfl rfl
        have hn : (acc.map AVal.str).length = acc.length := List.length_map _
        rw [hn] at hr ⊢
        refine callG_of (sortS_ok (ρ := layS_ren) layS (by kernel_rfl) (by omega) (by omega) hr ?_)
        rw [lenN_sl]
        have O2 := O.putS (i := 2) (r := r) (es := 1) rfl (l' := (sortS acc).map .str) (by rw [List.length_map, List.length_map, hsl])
        rw [hn] at O2
        have O3 : Own h0 ([.cell q (.fmap (eM E))] ++ [.slc 1 (.sl r 1 0 acc.length) ((sortS acc).map .str)]) _ := O2.renum _ (fun j => if j = 0 then 0 else 2) (fun j y hj => by
          match j, hj with
          | 0, hj => exact hj
          | 1, hj => exact hj
          | j + 2, hj => simp at hj) (show ∀ j, j < 2 → ∀ k, k < 2 → _ = _ → j = k by decide)
        obtain ⟨Sg, h', vN, l1, s1, g, O4⟩ := Own.frzL O3
        have O5 : Own h0 [.cell q (.fmap (eM E)), .slc 2 .nilsl ((atomHs val up.length V ((sortS acc).take 0)).map hyV)] h' := by
          have := O4.newN 2
          simpa [atomHs] using this
        refine ⟨Sg, [.lptr [mU, mV], vS, .mapr q, .nilsl, vN, .int .i64 acc.length, .int .i64 0], h', .cons (.refl _) (.cons (.refl _) (.cons (.refl _) (.cons (.refl _) (.cons l1 (Lits.refl _))))), g, rfl, (sortS acc).length + 1, ?_⟩
        have := atomsH_l4 (mV := mV) W hUp hl hv hU I hE (vN := vN) (l := sortS acc) s1 hin (by omega) (yes acc hp) (sortS acc).length 0 .nilsl h' (by omega) O5
        rw [hsl] at this ⊢
        exact this
  | d + 1, left, acc, nm, cur, h, hd, hp, hz, O => by
    have hlen : acc.length + left.length = E.length := by
      have := hp.length_eq
      rw [List.length_append] at this
      simpa [eN] using this
    unfold s10l3
    unfold nextM
    have hq := O.get 1 _ qi rfl rfl
    cases left with
    | nil => simp at hd
    | cons a left =>
      simp only [hq, Ow.obj, eM, List.map_cons]
      intro i kv hkv
      have hkv' : (eM (a :: left))[i]? = some kv := hkv
      unfold eM at hkv'
      rw [List.getElem?_map] at hkv'
      obtain ⟨en, hj, rfl⟩ := Option.map_eq_some_iff.1 hkv'
      have O1 := O.put (i := 1) rfl (.miter (eM ((a :: left).eraseIdx i)) (some (.str en.1, en.2.1)))
      rw [extrA rfl, tBool_bool]
      refine ifT_pos rfl ?_
      have e0 : ((AVal.str a.1, a.2.1) :: left.map fun e => (AVal.str e.1, e.2.1)).eraseIdx i = eM ((a :: left).eraseIdx i) := eM_erase i (a :: left)
      rw [e0]
      unfold entryA
      have hq1 := O1.get 1 _ qi rfl rfl
      simp only [Ow.obj] at hq1
      simp only [hq1]
      rw [extrA rfl, tStr_str]
      refine O1.app (i := 2) rfl (by rw [List.length_map]; simp at hd; omega) (by rw [List.length_map]; simp at hd; omega) fun v2 h2 O2 => s10l3_go ?_
      have e2 : (acc ++ [en.1]).map AVal.str = acc.map .str ++ [.str en.1] := by simp
      refine atomsH_l3 I hE hcnt yes d ((a :: left).eraseIdx i) (acc ++ [en.1]) v2 (some (.str en.1, en.2.1)) h2 ?_ ?_ (fun e => absurd e (by simp)) ?_
      · rw [List.length_eraseIdx, if_pos (List.getElem?_eq_some_iff.1 hj).1]
        simp at hd ⊢
        omega
      · rw [List.append_assoc]
        have := (pick_perm hj).map fun e => e.1
        exact (this.append_left acc).trans hp
      · rw [e2]
        exact O2
end
theorem atomsH_ok (S : Small up val) (hU : Intss mU up) (hV : Strss mV val) (bad : ¬ WF up val → K (.tuple [.nilsl, .int .i64 170]) h) (many : WF up val → Many up → K (.tuple [.nilsl, .int .i64 231]) h)
    (yes : WF up val → ∀ V, IsUps up V → V.length ≤ 64 → ∀ N : List ByteArray, N.Nodup → N.length ≤ 549755813888 → (∀ s, s ∈ N ↔ ∃ u, u < up.length ∧ s ∈ val.getD u []) → ∀ v h', Own h [.slc 2 v ((atomHs val up.length V (sortS N)).map hyV)] h' → K (.tuple [v, .int .i64 0]) h') : ACalls prog 10 [.agg [mU, mV]] h K := by
  refine s10_ok ?_
  unfold s10
  refine callG_of (upsets_ok S hU hV (fun hW => ?_) (fun hW hm => ?_) fun hW V vS hUp hl hv => ?_)
  · rw [tTup_tuple, tCons_cons, tCons_cons, tInt_int, tNil_nil]
    exact ifT_pos rfl (retG_of (bad hW))
  · rw [tTup_tuple, tCons_cons, tCons_cons, tInt_int, tNil_nil]
    exact ifT_pos rfl (retG_of (many hW hm))
  · rw [tTup_tuple, tCons_cons, tCons_cons, tInt_int, tNil_nil]
    refine ifT_neg rfl ?_
    intro q hq _
    rw [hV.len]
    have hpos := hW.pos
    have hlen := hW.len
    obtain ⟨d, hd⟩ : ∃ d, val.length = d + 1 := ⟨val.length - 1, by omega⟩
    refine s10l1_in (d + 2) (atomsH_l1 hV S (fun l hl => fine_nodup (hW.fine l hl)) (fun E h1 I hE O => ?_) d 0 [] _ (by omega) EI.start ((Own.start h).newC hq (.map [])))
    have hmx := hW.max
    have hcnt2 : E.length ≤ 549755813888 := by
      have h1 := I.cnt
      have h2 : (eP E).length = E.length := by simp [eP]
      have h3 : val.length ≤ 512 := by omega
      unfold cB at h1
      have h4 := Nat.mul_le_mul_right 1048576 h3
      omega
    have hcnt : E.length ≤ 1099511627776 := by omega
    unfold rangeM
    simp only [O.get 0 _ q rfl rfl, Ow.obj]
    intro qi hqi _
    have hne : qi ≠ q := fun e => by rw [e, O.get 0 _ q rfl rfl] at hqi; cases hqi
    have O1 := O.put (i := 0) rfl (.fmap (eM E))
    have O2 := (O1.newC (r := qi) (by rw [Heap.set_ne _ _ hne]; exact hqi) (.miter (eM E) none)).newN 1
    refine s10l3_in (E.length + 1) (atomsH_l3 hW hUp hl hv hU I hE hcnt (fun N hp v h' hv' => yes hW V hUp hl N (hp.nodup_iff.2 (by rw [eN_eP]; exact I.nd)) (by rw [hp.length_eq]; unfold eN; rw [List.length_map]; exact hcnt2) (fun s => ?_) v h' hv') E.length E [] .nilsl none _ rfl (.refl _) (fun _ => rfl) O2)
    rw [hp.mem_iff, eN_eP]
    constructor
    · intro hs
      obtain ⟨e, he, rfl⟩ := List.mem_map.1 hs
      obtain ⟨u, hu⟩ := I.occ e he
      rcases hu with h2 | h2
      · exact ⟨u, by omega, h2.2⟩
      · simp at h2
    · rintro ⟨u, hu, hs⟩
      exact I.all u s (.inl ⟨by omega, hs⟩)
end Go.Proofs.YtljglglbfcgjpaaGreat

/- Contracts: lists of names and of numbers, the same models. No condition. Contracts: what a name is. No condition. Contracts: is a name among some? names that rise (the document). No condition. Contracts: who is above whom (the document's order). No condition. Contracts: which models are well-formed (the document's look at one). No condition. Contract: the document's up-sets as words, sorted. No condition. Contract: the document's Ups. No condition. Plain: the order of texts; names that rise are all different; rising numbers are few. No condition. Words for contracts: nodes of a table of formulas, and memory that is read as a list of them. No condition. Contracts: tables that are read: has, Find. No condition. Contracts: a table of formulas is owned: a row is put in (the program's and the document's). No condition. Contracts: tables out of rows: From, Both. No condition. Contracts: the program's Node, Below. No condition. Words: what names stand for; a formula's element; maps by a key. No condition. Printed by lay.py (this repo, wip/tools): where the library's functions stand in the given program. No condition. Contract: the library's sort of no names. No condition. Contract: the program's Atoms: the worlds of each name. No condition. Contract: the program's Atoms. No condition. Contract: the program's Atoms, whole. No condition. -/
import Derived.Test.YtljglglbfcgjpaaGreatA1
import Derived.Test.YtljglglbfcgjpaaGreatM5
import Derived.Test.YtljglglbfcgjpaaGreatA2
import Derived.Sort.Walk0
import Derived.Test.YtljglglbfcgjpaaGreatM6
import Derived.Shelf.Sort.Plain
import Derived.Test.YtljglglbfcgjpaaGreatProg
import Derived.KernelRfl
import Derived.Test.YtljglglbfcgjpaaGreatM7

set_option linter.unusedVariables false
set_option linter.unusedSimpArgs false

namespace Go.Proofs.YtljglglbfcgjpaaGreat
open Go Go.Sym Go.Proofs.Tryz
variable {K : AVal → Heap → Prop} {h : Heap}
theorem names_loop {a b : AVal} {la lb : List ByteArray} (ha : Strs a la) (hb : Strs b lb) (hl : la.length = lb.length) (hm : la.length ≤ 1073741824) : ∀ d i : Nat, i + d = la.length →
    K (.bool (decide (la.drop i = lb.drop i))) h → s42l1 K (d + 1) a b (i : Int) h
  | 0, i, hd, hk => by
    unfold s42l1
    rw [ha.len]
    refine ifT_neg (by simp; omega) (retG_of ?_)
    rw [List.drop_eq_nil_of_le (by omega), List.drop_eq_nil_of_le (by omega)] at hk
    simpa using hk
  | d + 1, i, hd, hk => by
    have hi : i < la.length := by omega
    have hi' : i < lb.length := by omega
    unfold s42l1
    rw [ha.len]
    refine ifT_pos (by simp; omega) ?_
    rw [ha.ix hi, ld1_lptr, tStr_str, hb.ix hi', ld1_lptr, tStr_str, strEq_dec]
    rw [drop_eq_step hi hi'] at hk
    by_cases he : la[i] = lb[i]
    · refine ifT_neg (by simp [he]) (rg_of (by omega) (by omega) ?_)
      exact s42l1_go (names_loop ha hb hl hm d (i + 1) (by omega) (by simpa [he] using hk))
    · refine ifT_pos (by simp [he]) (retG_of ?_)
      simpa [he] using hk
theorem names_ok {a b : AVal} {la lb : List ByteArray} (ha : Strs a la) (hb : Strs b lb) (hm : la.length ≤ 1073741824) (hk : K (.bool (decide (la = lb))) h) :
    ACalls prog 42 [a, b] h K := by
  refine s42_ok ?_
  unfold s42
  rw [ha.len, hb.len]
  by_cases hl : la.length = lb.length
  · refine ifT_neg (by simp [hl]) (s42l1_in (la.length + 1) ?_)
    exact names_loop ha hb hl hm la.length 0 (by omega) (by simpa using hk)
  · refine ifT_pos (by simp; omega) (retG_of ?_)
    rwa [show decide (la = lb) = false by simp; intro e; exact hl (by rw [e])] at hk
end Go.Proofs.YtljglglbfcgjpaaGreat

namespace Go.Proofs.YtljglglbfcgjpaaGreat
open Go Go.Sym Go.Proofs.Tryz
variable {K : AVal → Heap → Prop} {h : Heap}
theorem letter_ok (c : Int) (hk : K (.bool (ltB c)) h) : ACalls prog 131 [.int .u8 c] h K := by
  refine s131_ok ?_
  unfold s131
  unfold ltB at hk
  by_cases h1 : 97 ≤ c <;> by_cases h2 : c ≤ 122 <;> by_cases h3 : 65 ≤ c <;> simp [h1, h2, h3, ifT_eq] at hk ⊢ <;> exact retG_of (by simpa using hk)
theorem reserved3_ok (hk : ∀ v, Strs v resL → K v h) : ACalls prog 132 [] h K := by
  refine s132_ok ?_
  unfold s132
  exact retG_of (hk _ (.inl rfl))
theorem word3_res {v : AVal} {s : ByteArray} {l : List ByteArray} (hv : Strs v l) (hm : l.length ≤ 1073741824) : ∀ d i : Nat, i + d = l.length → K (.bool ((l.drop i).all fun r => !strEq r s)) h → s103l4 K (d + 1) s v (i : Int) h
  | 0, i, hd, hk => by
    unfold s103l4
    rw [hv.len]
    refine ifT_neg (by simp; omega) (retG_of ?_)
    rw [List.drop_eq_nil_of_le (by omega)] at hk
    simpa using hk
  | d + 1, i, hd, hk => by
    have hi : i < l.length := by omega
    unfold s103l4
    rw [hv.len]
    refine ifT_pos (by simp; omega) ?_
    rw [hv.ix hi, ld1_lptr, tStr_str]
    rw [List.drop_eq_getElem_cons hi, List.all_cons] at hk
    cases he : strEq l[i] s with
    | true => rw [he] at hk; exact ifT_pos rfl (retG_of (by simpa using hk))
    | false =>
      rw [he] at hk
      refine ifT_neg rfl (rg_of (by omega) (by omega) ?_)
      exact s103l4_go (word3_res hv hm d (i + 1) (by omega) (by simpa using hk))
theorem word3_loop {s : ByteArray} (hm : s.size ≤ 31) : ∀ d i : Nat, 1 ≤ i → i + d = s.size → K (.bool ((List.range' i d).all (goodB s) && resL.all fun r => !strEq r s)) h → s103l2 K (d + 1) s (i : Int) h
  | 0, i, h1, hd, hk => by
    unfold s103l2
    refine ifT_neg (by simp; omega) (callG_of (reserved3_ok fun v hv => s103l4_in 13 ?_))
    exact word3_res hv (by decide) 12 0 rfl (by simpa using hk)
  | d + 1, i, h1, hd, hk => by
    unfold s103l2
    refine ifT_pos (by simp; omega) ⟨by omega, callG_of (letter_ok _ ?_)⟩
    rw [tBool_bool]
    rw [List.range'_succ, List.all_cons] at hk
    have rest : goodB s i = true → s103c3 K (s103l2_G (s103l2 K (d + 1))) s i false h := by
      intro hg
      rw [hg] at hk
      exact ifT_neg rfl (rg_of (by omega) (by omega) (s103l2_go (word3_loop hm d (i + 1) (by omega) (by omega) (by simpa using hk))))
    have stop : goodB s i = false → s103c3 K (s103l2_G (s103l2 K (d + 1))) s i true h := by
      intro hg
      rw [hg] at hk
      exact ifT_pos rfl (retG_of (by simpa using hk))
    have hi0 : (i != 0) = true := by simp; omega
    have hgood : goodB s i = (ltB (btA s i) || dgB (btA s i)) := by simp [goodB, hi0]
    cases hl : ltB (btA s i) with
    | true => exact ifT_neg rfl (rest (by rw [hgood, hl]; rfl))
    | false =>
      rw [hl, Bool.false_or] at hgood
      unfold dgB at hgood
      generalize btA s i = c at *
      refine ifT_pos rfl ⟨by omega, ?_⟩
      by_cases h48 : 48 ≤ c
      · refine ifT_pos (by simpa using h48) ⟨by omega, ?_⟩
        by_cases h57 : c ≤ 57
        · refine ifT_neg (by simpa using h57) (rest (by rw [hgood]; simp [h48, h57]))
        · refine ifT_pos (by simpa using h57) ⟨by omega, ?_⟩
          by_cases h95 : c = 95
          · exact ifT_neg (by simp [h95]) (rest (by rw [hgood]; simp [h95]))
          · refine ifT_pos (by simpa using h95) ⟨by omega, ?_⟩
            by_cases h39 : c = 39
            · rw [show (c != 39) = false by simp [h39]]; exact rest (by rw [hgood]; simp [h39])
            · rw [show (c != 39) = true by simpa using h39]; exact stop (by rw [hgood]; simp [h57, h95, h39])
      · refine ifT_neg (by simpa using h48) ⟨by omega, ?_⟩
        by_cases h95 : c = 95
        · exact ifT_neg (by simp [h95]) (rest (by rw [hgood]; simp [h95]))
        · refine ifT_pos (by simpa using h95) ⟨by omega, ?_⟩
          by_cases h39 : c = 39
          · rw [show (c != 39) = false by simp [h39]]; exact rest (by rw [hgood]; simp [h39])
          · rw [show (c != 39) = true by simpa using h39]; exact stop (by rw [hgood]; simp [h48, h95, h39])
theorem word3_ok (s : ByteArray) (hk : K (.bool (wordB s)) h) : ACalls prog 103 [.str s] h K := by
  refine s103_ok ?_
  unfold s103
  unfold wordB at hk
  by_cases h1 : s.size < 1
  · refine ifT_pos (by simp; omega) (ifT_pos rfl (retG_of ?_))
    rw [decide_eq_false (by omega : ¬ s.size ≠ 0)] at hk
    exact hk
  · refine ifT_neg (by simp; omega) ?_
    rw [decide_eq_true (by omega : s.size ≠ 0), Bool.true_and] at hk
    by_cases h2 : 31 < s.size
    · refine ifT_pos (by simp; omega) (ifT_pos rfl (retG_of ?_))
      rw [show decide (s.size ≤ 31) = false by simp; omega] at hk
      exact hk
    · refine ifT_neg (by simp; omega) ⟨by omega, callG_of (letter_ok _ ?_)⟩
      rw [tBool_bool]
      rw [show decide (s.size ≤ 31) = true by simp; omega, Bool.true_and] at hk
      obtain ⟨m, hm⟩ : ∃ m, s.size = m + 1 := ⟨s.size - 1, by omega⟩
      rw [hm, List.range'_succ, List.all_cons, show goodB s 0 = ltB (btA s 0) by simp [goodB]] at hk
      cases hl : ltB (btA s 0) with
      | true =>
        rw [hl] at hk
        exact ifT_neg rfl (s103l2_in (m + 1) (word3_loop (by omega) m 1 (by omega) (by omega) (by simpa using hk)))
      | false =>
        rw [hl] at hk
        exact ifT_pos rfl (retG_of (by simpa using hk))
end Go.Proofs.YtljglglbfcgjpaaGreat

namespace Go.Proofs.YtljglglbfcgjpaaGreat
open Go Go.Sym Go.Proofs.Tryz
variable {K : AVal → Heap → Prop} {h : Heap}
theorem has17_loop {v : AVal} {l : List ByteArray} {s : ByteArray} (hv : Strs v l) (hm : l.length ≤ 1073741824) : ∀ d i : Nat, i + d = l.length → K (.bool (inS (l.drop i) s)) h → s65l1 K (d + 1) v s (i : Int) h
  | 0, i, hd, hk => by
    unfold s65l1
    rw [hv.len]
    refine ifT_neg (by simp; omega) (retG_of ?_)
    rw [List.drop_eq_nil_of_le (by omega)] at hk
    exact hk
  | d + 1, i, hd, hk => by
    have hi : i < l.length := by omega
    unfold s65l1
    rw [hv.len]
    refine ifT_pos (by simp; omega) ?_
    rw [hv.ix hi, ld1_lptr, tStr_str, strEq_dec]
    rw [List.drop_eq_getElem_cons hi] at hk
    simp only [inS, List.any_cons] at hk
    by_cases he : l[i] = s
    · exact ifT_pos (by simpa using he) (retG_of (by simpa [he] using hk))
    · refine ifT_neg (by simpa using he) (rg_of (by omega) (by omega) (s65l1_go (has17_loop hv hm d (i + 1) (by omega) ?_)))
      rwa [decide_eq_false he, Bool.false_or] at hk
theorem has17_ok {v : AVal} {l : List ByteArray} {s : ByteArray} (hv : Strs v l) (hm : l.length ≤ 1073741824) (hk : K (.bool (inS l s)) h) : ACalls prog 65 [v, .str s] h K :=
  s65_ok (s65l1_in (l.length + 1) (has17_loop hv hm l.length 0 (by omega) (by simpa using hk)))
theorem fine_loop {v : AVal} {l : List ByteArray} (hv : Strs v l) (hm : SB l) : ∀ d i : Nat, i + d = l.length → K (.bool ((List.range' i d).all (fine1 l))) h → s64l1 K (d + 1) v (i : Int) h
  | 0, i, hd, hk => by
    unfold s64l1
    rw [hv.len]
    exact ifT_neg (by simp; omega) (retG_of (by simpa using hk))
  | d + 1, i, hd, hk => by
    have hi : i < l.length := by omega
    have hl := hm.1
    unfold s64l1
    rw [hv.len]
    refine ifT_pos (by simp; omega) ?_
    rw [hv.ix hi, ld1_lptr, tStr_str]
    refine callG_of (word3_ok _ ?_)
    rw [tBool_bool]
    rw [List.range'_succ, List.all_cons] at hk
    have rest : fine1 l i = true → s64c2 K (s64l1_G (s64l1 K (d + 1))) v i false h := by
      intro hg
      rw [hg] at hk
      exact ifT_neg rfl (rg_of (by omega) (by omega) (s64l1_go (fine_loop hv hm d (i + 1) (by omega) (by simpa using hk))))
    have stop : fine1 l i = false → s64c2 K (s64l1_G (s64l1 K (d + 1))) v i true h := by
      intro hg
      rw [hg] at hk
      exact ifT_pos rfl (retG_of (by simpa using hk))
    unfold fine1 at rest stop
    rw [getD_of hi] at rest stop
    cases hw : wordB l[i] with
    | false => exact ifT_pos rfl (stop (by rw [hw]; rfl))
    | true =>
      rw [hw, Bool.true_and] at rest stop
      refine ifT_neg rfl ?_
      by_cases h0 : 0 < i
      · refine ifT_pos (by simp; omega) (rg_of (by omega) (by omega) ?_)
        have hi1 : i - 1 < l.length := by omega
        rw [show (i : Int) - 1 = ((i - 1 : Nat) : Int) by omega, hv.ix hi1, ld1_lptr, tStr_str, hv.ix hi, ld1_lptr, tStr_str]
        rw [getD_of hi1, show (i == 0) = false by simp; omega, Bool.false_or] at rest stop
        cases hs : strLt l[i - 1] l[i] with
        | true => exact rest hs
        | false => exact stop hs
      · obtain rfl : i = 0 := by omega
        exact ifT_neg (by simp) (rest (by simp))
theorem fine_ok {v : AVal} {l : List ByteArray} (hv : Strs v l) (hm : SB l) (hk : K (.bool (fineB l)) h) : ACalls prog 64 [v] h K :=
  s64_ok (s64l1_in (l.length + 1) (fine_loop hv hm l.length 0 (by omega) hk))
end Go.Proofs.YtljglglbfcgjpaaGreat

namespace Go.Proofs.YtljglglbfcgjpaaGreat
open Go Go.Sym Go.Proofs.Tryz
variable {K : AVal → Heap → Prop}
section
variable {h0 : Heap} {up : List (List Int)} {ro ra a : Nat} {R : List AVal}
theorem order_l3 (hn : up.length ≤ 1073741824) (bad : ¬ InR up → K (.tuple [.nilsl, .bool false]) h0)
    {L1 : AVal → Int → AVal → Int → Heap → Prop} {L2 : AVal → Int → AVal → Int → AVal → Int → Heap → Prop} {m row : AVal} {r : List Int} {x : Nat} {i : Int} (hrow : Ints row r) (hr : r.length ≤ 1073741824)
    (hx : up[x]? = some r) (hax : Reach up a x) (han : a < up.length) (hi : -1 ≤ i ∧ i ≤ 1073741824) {marks0 : List Bool} {W : List Nat}
    (hL : ∀ marks t wait hb h, BF up a marks (W ++ t) → OM h0 ro ra a up.length R marks hb → Grow 1 hb wait (natV (W ++ t)) h → (∀ y : Nat, marks0[y]? = some true → marks[y]? = some true) →
      (∀ b ∈ r, 0 ≤ b ∧ b < up.length ∧ marks[b.toNat]? = some true) → L2 m up.length (.sl ro 1 0 up.length) a wait (i + 1) h) :
    ∀ d k : Nat, k + d = r.length → ∀ marks t wait hb h, BF up a marks (W ++ t) → OM h0 ro ra a up.length R marks hb → Grow 1 hb wait (natV (W ++ t)) h → (∀ y : Nat, marks0[y]? = some true → marks[y]? = some true) →
      (∀ b ∈ r.take k, 0 ≤ b ∧ b < up.length ∧ marks[b.toNat]? = some true) → s63l3 K L1 L2 (d + 1) m up.length (.sl ro 1 0 up.length) a wait i row (k : Int) h
  | 0, k, hd, marks, t, wait, hb, h, B, M, g, hmono, hdone => by
    unfold s63l3
    rw [hrow.len]
    refine ifT_neg (by simp; omega) (rg_of (by omega) (by omega) (hL marks t wait hb h B M g hmono ?_))
    rwa [List.take_of_length_le (by omega)] at hdone
  | d + 1, k, hd, marks, t, wait, hb, h, B, M, g, hmono, hdone => by
    have hk : k < r.length := by omega
    unfold s63l3
    rw [hrow.len]
    refine ifT_pos (by simp; omega) ?_
    rw [hrow.ix hk, ld1_lptr, tInt_int]
    have key : s63c5 K L1 L2 (s63l3_G (s63l3 K L1 L2 (d + 1))) m up.length (.sl ro 1 0 up.length) a wait i row k r[k] (decide (r[k] < 0) || decide ((up.length : Int) ≤ r[k])) h := by
      by_cases hbad : r[k] < 0 ∨ (up.length : Int) ≤ r[k]
      · refine ifT_pos (by simpa using hbad) (retG_drop (fun q o hq => g.old (M.old hq)) (bad fun hI => ?_))
        have := hI r (List.mem_of_getElem? hx) r[k] (List.getElem_mem hk)
        omega
      · refine ifT_neg (by simpa using hbad) ?_
        obtain ⟨b, hbk⟩ : ∃ b : Nat, r[k] = (b : Int) := ⟨r[k].toNat, by omega⟩
        have hbn : b < up.length := by omega
        rw [hbk]
        have hbm : b < marks.length := by rw [B.len]; exact hbn
        refine ixS_sl0 han ?_
        rw [ld1_ptr (g.old M.get_o) M.at_ rfl]
        refine ixS_sl0 hbn ?_
        rw [ld1_ptr (g.old M.get_a) (e := .bool marks[b]) (by simp [hbm]) rfl, tBool_bool]
        have hstep : Reach up a b := .tail hax ⟨r, hx, by rw [← hbk]; exact List.getElem_mem hk⟩
        have next : ∀ marks' t' wait' hb' h', BF up a marks' (W ++ t') → OM h0 ro ra a up.length R marks' hb' → Grow 1 hb' wait' (natV (W ++ t')) h' → (∀ y : Nat, marks[y]? = some true → marks'[y]? = some true) → marks'[b]? = some true →
            s63c4 K L1 L2 (s63l3_G (s63l3 K L1 L2 (d + 1))) m up.length (.sl ro 1 0 up.length) a wait' i row k h' := by
          intro marks' t' wait' hb' h' B' M' g' hm' hmb
          refine rg_of (by omega) (by omega) (s63l3_go (order_l3 hn bad hrow hr hx hax han hi hL d (k + 1) (by omega) marks' t' wait' hb' h' B' M' g' (fun y hy => hm' y (hmono y hy)) ?_))
          rw [List.take_succ_eq_append_getElem hk]
          intro c hc
          rcases List.mem_append.1 hc with hc | hc
          · obtain ⟨h1, h2, h3⟩ := hdone c hc
            exact ⟨h1, h2, hm' _ h3⟩
          · rw [List.mem_singleton.1 hc, hbk]
            exact ⟨by omega, by omega, by simpa using hmb⟩
        cases hmk : marks[b] with
        | true => exact ifT_neg rfl (next marks t wait hb h B M g (fun _ hy => hy) (by rw [List.getElem?_eq_getElem hbm, hmk]))
        | false =>
          refine ifT_pos rfl (ixS_sl0 han ?_)
          rw [ld1_ptr (g.old M.get_o) M.at_ rfl]
          refine ixS_sl0 hbn (st_elem (g.old M.get_a) (e := .bool marks[b]) (by simp [hbm]) rfl ?_)
          have hset : (marks.map AVal.bool).set b (.bool true) = (marks.set b true).map .bool := by rw [List.map_set]
          rw [hset]
          have B' := B.add (b := b) (by rw [List.getElem?_eq_getElem hbm, hmk]) hstep
          have g' := g.upd (x := .row 1 ((marks.set b true).map .bool)) M.get_a
          have hcnt := B'.cnt
          rw [List.append_assoc] at B' hcnt
          have hlen : (W ++ t).length + 1 ≤ up.length := by simp only [List.length_append, List.length_singleton] at hcnt ⊢; omega
          refine appC_one g' (by rw [natV_len]; omega) (by rw [natV_len]; omega) fun v' h' g2 => ?_
          rw [← natV_app, List.append_assoc] at g2
          refine next _ (t ++ [b]) v' _ h' B' M.put g2 (fun y hy => ?_) (by simp [hbm])
          rw [List.getElem?_set]
          by_cases e : b = y
          · subst e; simp [hbm]
          · rw [if_neg e]; exact hy
    by_cases h0' : r[k] < 0
    · refine ifT_pos (by simpa using h0') ?_
      rwa [show (decide (r[k] < 0) || decide ((up.length : Int) ≤ r[k])) = true by simp [h0']] at key
    · refine ifT_neg (by simpa using h0') ?_
      rwa [show (decide (r[k] < 0) || decide ((up.length : Int) ≤ r[k])) = decide ((up.length : Int) ≤ r[k]) by simp [h0']] at key
theorem order_l2 (hn : up.length ≤ 1073741824) (hrl : ∀ r ∈ up, r.length ≤ 1073741824) (bad : ¬ InR up → K (.tuple [.nilsl, .bool false]) h0)
    {L1 : AVal → Int → AVal → Int → Heap → Prop} {mU mV : AVal} (hU : Intss mU up) (han : a < up.length)
    (hL : ∀ wait hb h marks W, OM h0 ro ra a up.length R (rowB up a) hb → Grow 1 hb wait (natV W) h → marks = rowB up a → (∀ b ∈ up[a], 0 ≤ b ∧ b < up.length) → L1 (.lptr [mU, mV]) up.length (.sl ro 1 0 up.length) (a + 1) h) :
    ∀ d i : Nat, i + d = up.length → ∀ marks W wait hb h, W.length ≤ i + d → i ≤ W.length → W[0]? = some a → BF up a marks W → OM h0 ro ra a up.length R marks hb → Grow 1 hb wait (natV W) h →
      (∀ j y r, j < i → W[j]? = some y → up[y]? = some r → ∀ b ∈ r, 0 ≤ b ∧ b < up.length ∧ marks[b.toNat]? = some true) →
      s63l2 K L1 (d + 1) (.lptr [mU, mV]) up.length (.sl ro 1 0 up.length) a wait (i : Int) h := by
  intro d
  induction d with
  | zero =>
    intro i hd marks W wait hb h hWi hiW h0W B M g hcl
    unfold s63l2
    rw [g.len, natV_len]
    refine ifT_neg (by simp; omega) (rg_of (by omega) (by omega) ?_)
    have hW : W.length = i := by omega
    have hm := B.done (List.mem_of_getElem? h0W) fun y hy c ⟨r, hr, hc⟩ => by
      obtain ⟨j, hj, hjy⟩ := List.mem_iff_getElem.1 hy
      have := (hcl j y r (by omega) (by rw [← hjy]; exact List.getElem?_eq_getElem hj) hr _ hc).2.2
      simpa using this
    rw [hm] at M
    exact hL wait hb h marks W M g hm fun b hb => by
      have h1 := hcl 0 a _ (by have := (List.getElem?_eq_some_iff.1 h0W).1; omega) h0W (List.getElem?_eq_getElem han) b hb
      exact ⟨h1.1, h1.2.1⟩
  | succ d ih =>
    intro i hd marks W wait hb h hWi hiW h0W B M g hcl
    unfold s63l2
    rw [g.len, natV_len]
    by_cases hlt : i < W.length
    · refine ifT_pos (by simp; omega) ?_
      rw [addOff_lptr]
      simp only [List.drop_zero, ld1_lptr]
      have hWx : W[i]? = some W[i] := List.getElem?_eq_getElem hlt
      obtain ⟨hxn, hxr⟩ := B.reach _ (List.getElem_mem hlt)
      refine g.ix (natV_get hWx) rfl ?_
      rw [tInt_int]
      obtain ⟨e, he, hix⟩ := hU.ix hxn
      rw [hix, ld1_lptr]
      have hup : up[W[i]]? = some up[W[i]] := List.getElem?_eq_getElem hxn
      refine s63l3_in (up[W[i]].length + 1) ?_
      have hWn : W.length ≤ up.length := by have := B.cnt; omega
      refine order_l3 (W := W) (marks0 := marks) hn bad he (hrl _ (List.getElem_mem hxn)) hup hxr han (by omega) (fun marks' t wait' hb' h' B' M' g' hmono hr' => ?_) _ 0 (by omega) marks [] wait hb h (by simpa using B) M (by simpa using g) (fun _ hy => hy) (by simp)
      refine s63l2_go ?_
      have hcnt := B'.cnt
      rw [show (i : Int) + 1 = ((i + 1 : Nat) : Int) by omega]
      refine ih (i + 1) (by omega) marks' (W ++ t) wait' hb' h' (by omega) (by simp; omega) ?_ B' M' g' ?_
      · rw [List.getElem?_append_left (by omega)]; exact h0W
      · intro j y r hj hy hr b hb
        rw [List.getElem?_append_left (by omega)] at hy
        by_cases hji : j = i
        · subst hji
          rw [hWx] at hy
          cases hy
          rw [hup] at hr
          cases hr
          exact hr' b hb
        · obtain ⟨h1, h2, h3⟩ := hcl j y r (by omega) hy hr b hb
          exact ⟨h1, h2, hmono _ h3⟩
    · refine ifT_neg (by simp; omega) (rg_of (by omega) (by omega) ?_)
      have hm := B.done (List.mem_of_getElem? h0W) fun y hy c ⟨r, hr, hc⟩ => by
        obtain ⟨j, hj, hjy⟩ := List.mem_iff_getElem.1 hy
        have := (hcl j y r (by omega) (by rw [← hjy]; exact List.getElem?_eq_getElem hj) hr _ hc).2.2
        simpa using this
      rw [hm] at M
      exact hL wait hb h marks W M g hm fun b hb => by
        have h1 := hcl 0 a _ (by have := (List.getElem?_eq_some_iff.1 h0W).1; omega) h0W (List.getElem?_eq_getElem han) b hb
        exact ⟨h1.1, h1.2.1⟩
theorem order_l1 (hn : up.length ≤ 1073741824) (hrl : ∀ r ∈ up, r.length ≤ 1073741824) (bad : ¬ InR up → K (.tuple [.nilsl, .bool false]) h0) (good : InR up → ∀ o, OTab o up → K (.tuple [o, .bool true]) h0)
    {mU mV : AVal} (hU : Intss mU up) (ho : h0 ro = none) : ∀ d a : Nat, a + d = up.length → ∀ R, TU up a R → (∀ a' r, a' < a → up[a']? = some r → ∀ b ∈ r, 0 ≤ b ∧ b < up.length) →
      s63l1 K (d + 1) (.lptr [mU, mV]) up.length (.sl ro 1 0 up.length) (a : Int) (h0.set ro (.row 1 R))
  | 0, a, hd, R, T, hr => by
    unfold s63l1
    refine ifT_neg (by simp; omega) ?_
    refine ⟨fun q => q = ro, .tuple [.lsl 1 R, .bool true], h0, .tuple (.cons (.whole rfl (Heap.set_same _ _ _) T.len.symm) (.cons (.refl _) .nil)), ⟨fun _ _ => trivial, fun q o hq => ⟨o, Heap.set_sub ho q o hq, (fun e => by rw [e, ho] at hq; cases hq), .refl o⟩⟩, ?_⟩
    refine good (fun r hrm b hb => ?_) _ ⟨R, .lsl 1 R, T.len, fun a' ha' => T.done a' (by omega)⟩
    obtain ⟨j, hj, rfl⟩ := List.mem_iff_getElem.1 hrm
    exact hr j _ (by omega) (List.getElem?_eq_getElem hj) b hb
  | d + 1, a, hd, R, T, hr => by
    have han : a < up.length := by omega
    unfold s63l1
    refine ifT_pos (by simp; omega) (mkS_own (by omega) (by omega) fun ra hra => ?_)
    have hne : ra ≠ ro := fun e => by rw [e, Heap.set_same] at hra; cases hra
    have ha0 : h0 ra = none := by rwa [Heap.set_ne _ _ hne] at hra
    obtain ⟨e0, he0, hagg0⟩ := T.rest a han
    refine ixS_sl0 han (chk_iff.2 ⟨rfl, ?_⟩)
    refine st_elem (es := 1) (elems := R) (by rw [Heap.set_ne _ _ hne.symm, Heap.set_same]) he0 hagg0 ?_
    refine ixS_sl0 han ?_
    have hRa : (R.set a (.sl ra 1 0 up.length))[a]? = some (.sl ra 1 0 up.length) := by rw [List.getElem?_set_self]; rw [T.len]; exact han
    rw [ld1_ptr (Heap.set_same _ _ _) hRa rfl]
    refine ixS_sl0 han (st_elem (es := 1) (elems := List.replicate up.length (.bool false)) (e := .bool false) (by rw [Heap.set_ne _ _ hne, Heap.set_same]) (by simp [han]) rfl ?_)
    have hmarks : (List.replicate up.length (AVal.bool false)).set a (.bool true) = ((List.replicate up.length false).set a true).map .bool := by rw [List.map_set, List.map_replicate]
    rw [hmarks]
    refine newRow_in fun r hrn => ?_
    have M : OM h0 ro ra a up.length (R.set a (.sl ra 1 0 up.length)) ((List.replicate up.length false).set a true)
        ((((h0.set ro (.row 1 R)).set ra (.row 1 (List.replicate up.length (.bool false)))).set ro (.row 1 (R.set a (.sl ra 1 0 up.length)))).set ra (.row 1 (((List.replicate up.length false).set a true).map .bool))) := by
      refine ⟨ho, ha0, hne, ?_, hRa, by simp [T.len]⟩
      funext q
      by_cases h1 : q = ra
      · simp [Heap.set, h1]
      · by_cases h2 : q = ro
        · subst h2; simp [Heap.set, h1]
        · simp [Heap.set, h1, h2]
    refine s63l2_in (up.length + 1) ?_
    refine order_l2 (ra := ra) (R := R.set a (.sl ra 1 0 up.length)) hn hrl bad hU han (fun wait hb h marks W M' g hm hra' => ?_) up.length 0 (by omega) _ [a] _ _ _ (by simp; omega) (by simp) rfl (BF.start han) M (Grow.own (l := natV [a]) hrn) (by intro j y r hj; omega)
    refine ⟨fun q => q = ra, _, h0.set ro (.row 1 ((R.set a (.sl ra 1 0 up.length)).set a (.lsl 1 ((rowB up a).map .bool)))), Lits.refl _, GStep.row (g.old M'.get_o) hne ha0 (fun q o hq => g.old (M'.old hq)) hRa
      (.whole rfl (g.old M'.get_a) (by simp [rowB])), rfl, ?_⟩
    rw [List.set_set]
    have := order_l1 (mV := mV) hn hrl bad good hU ho d (a + 1) (by omega) (R.set a (.lsl 1 ((rowB up a).map .bool))) ⟨by simp [T.len], fun a' ha' => ?_, fun a' ha' => ?_⟩ (fun a' r ha' hr' => ?_)
    · exact this
    · by_cases e : a' = a
      · subst e
        exact ⟨_, List.getElem?_set_self (by rw [T.len]; exact han), rfl, .lsl 1 _⟩
      · rw [List.getElem?_set_ne (Ne.symm e)]
        exact T.done a' (by omega)
    · by_cases e : a' = a
      · subst e
        exact ⟨_, List.getElem?_set_self (by rw [T.len]; exact han), rfl⟩
      · rw [List.getElem?_set_ne (Ne.symm e)]
        exact T.rest a' ha'
    · by_cases e : a' = a
      · subst e
        rw [List.getElem?_eq_getElem han] at hr'
        cases hr'
        exact hra'
      · exact hr a' r (by omega) hr'
theorem order_ok {mU mV : AVal} {h : Heap} (hn : up.length ≤ 1048576) (hrl : ∀ r ∈ up, r.length ≤ 1073741824) (hU : Intss mU up) (bad : ¬ InR up → K (.tuple [.nilsl, .bool false]) h) (good : InR up → ∀ o, OTab o up → K (.tuple [o, .bool true]) h) :
    ACalls prog 63 [.agg [mU, mV]] h K := by
  refine s63_ok ?_
  unfold s63
  rw [hU.len]
  refine mkS_own (by omega) (by omega) fun ro hro => s63l1_in (up.length + 1) ?_
  exact order_l1 (by omega) hrl bad good hU hro up.length 0 (by omega) _ ⟨by simp, by intro a' ha'; omega, fun a' ha' => ⟨.nilsl, by simp [ha'], rfl⟩⟩ (by intro a' r ha'; omega)
end
end Go.Proofs.YtljglglbfcgjpaaGreat

namespace Go.Proofs.YtljglglbfcgjpaaGreat
open Go Go.Sym Go.Proofs.Tryz
variable {K : AVal → Heap → Prop} {h : Heap} {up : List (List Int)} {val : List (List ByteArray)} {mU mV : AVal}
theorem right_l7 (S : Small up val) (hU : Intss mU up) (hV : Strss mV val) {o : AVal} {a b : Nat} (ha : a < val.length) (hb : b < val.length) (hn : up.length ≤ 512)
    {L3 : AVal → Int → AVal → Int → Heap → Prop} {L4 : AVal → Int → AVal → Int → Int → Heap → Prop}
    (bad : ¬ (∀ s ∈ val[a], s ∈ val[b]) → K (.tuple [.nilsl, .bool false]) h) (hL : (∀ s ∈ val[a], s ∈ val[b]) → s29c5 K L3 L4 (.lptr [mU, mV]) up.length o a b h) :
    ∀ d k : Nat, k + d = val[a].length → (∀ s ∈ val[a].take k, s ∈ val[b]) → s29l7 K L3 L4 (d + 1) (.lptr [mU, mV]) up.length o a b (k : Int) h := by
  intro d
  have hSa := (S.names _ (List.getElem_mem ha)).1
  have hSb := (S.names _ (List.getElem_mem hb)).1
  obtain ⟨ea, hea, hixa⟩ := hV.ix ha
  obtain ⟨eb, heb, hixb⟩ := hV.ix hb
  induction d with
  | zero =>
    intro k hd hk
    unfold s29l7
    simp only [addOff_lptr, List.drop_succ_cons, List.drop_zero, ld1_lptr, hixa, hea.len]
    refine ifT_neg (by simp; omega) (hL ?_)
    rwa [List.take_of_length_le (by omega)] at hk
  | succ d ih =>
    intro k hd hk
    have hlt : k < val[a].length := by omega
    unfold s29l7
    simp only [addOff_lptr, List.drop_succ_cons, List.drop_zero, ld1_lptr, hixa, hixb, hea.len, hea.ix hlt, tStr_str]
    refine ifT_pos (by simp; omega) (callG_of (has17_ok heb hSb.1 ?_))
    rw [tBool_bool]
    have hla := hSa.1
    cases hin : inS val[b] val[a][k] with
    | true =>
      refine ifT_neg rfl (rg_of (by omega) (by omega) (s29l7_go (ih (k + 1) (by omega) ?_)))
      rw [List.take_succ_eq_append_getElem hlt]
      intro s hs
      rcases List.mem_append.1 hs with hs | hs
      · exact hk s hs
      · rw [List.mem_singleton.1 hs]; exact inS_iff.1 hin
    | false =>
      refine ifT_pos rfl (retG_of (bad fun hall => ?_))
      have := inS_iff.2 (hall _ (List.getElem_mem hlt))
      rw [hin] at this
      cases this
theorem right_l4 (S : Small up val) (hU : Intss mU up) (hV : Strss mV val) {o : AVal} (hO : OTab o up) (hl : val.length = up.length) (hn : up.length ≤ 512) {a : Nat} (ha : a < up.length)
    (bad : ¬ WF up val → K (.tuple [.nilsl, .bool false]) h) {L3 : AVal → Int → AVal → Int → Heap → Prop} (hL : (∀ b, b < up.length → Cond up val a b) → L3 (.lptr [mU, mV]) up.length o (a + 1) h) :
    ∀ d b : Nat, b + d = up.length → (∀ b', b' < b → Cond up val a b') → s29l4 K L3 (d + 1) (.lptr [mU, mV]) up.length o a (b : Int) h := by
  intro d
  induction d with
  | zero =>
    intro b hd hk
    unfold s29l4
    exact ifT_neg (by simp; omega) (rg_of (by omega) (by omega) (hL fun b' hb' => hk b' (by omega)))
  | succ d ih =>
    intro b hd hk
    have hb : b < up.length := by omega
    obtain ⟨ea, hrow, _, hixa⟩ := hO.row (h' := h) ha
    obtain ⟨eb, hrowb, _, hixb⟩ := hO.row (h' := h) hb
    have next : Cond up val a b → s29c5 K L3 (s29l4_G (s29l4 K L3 (d + 1))) (.lptr [mU, mV]) up.length o a b h := by
      intro hc
      refine rg_of (by omega) (by omega) (s29l4_go (ih (b + 1) (by omega) fun b' hb' => ?_))
      by_cases e : b' = b
      · rw [e]; exact hc
      · exact hk b' (by omega)
    unfold s29l4
    refine ifT_pos (by simp; omega) ?_
    rw [hrow, hixa b hb, tBool_bool]
    cases hr : rb up a b with
    | false =>
      refine ifT_pos rfl (ifT_pos rfl (next fun hR => ?_))
      rw [rb_iff.2 hR] at hr; cases hr
    | true =>
      refine ifT_neg rfl ?_
      by_cases hab : a = b
      · refine ifT_pos (by simp [hab]) (next fun _ hne => absurd hab hne)
      · refine ifT_neg (by simp; omega) ?_
        rw [hrowb, hixb a ha, tBool_bool]
        cases hr2 : rb up b a with
        | true =>
          refine ifT_pos rfl (retG_of (bad fun W => ?_))
          exact (W.cond a b ha hb (rb_iff.1 hr) hab).1 (rb_iff.1 hr2)
        | false =>
          refine ifT_neg rfl (s29l7_in (val[a].length + 1) ?_)
          have hgo : (∀ s ∈ val[a], s ∈ val[b]) → Cond up val a b := fun hall _ _ => ⟨(fun e => by rw [rb_iff.2 e] at hr2; cases hr2), by rw [getD_val, getD_val]; exact hall⟩
          refine right_l7 S hU hV (by omega) (by omega) hn (fun hno => bad fun W => hno ?_) (fun hall => next (hgo hall)) _ 0 (by omega) (by simp)
          have := (W.cond a b ha hb (rb_iff.1 hr) hab).2
          rwa [getD_val, getD_val] at this
theorem right_l3 (S : Small up val) (hU : Intss mU up) (hV : Strss mV val) {o : AVal} (hO : OTab o up) (hl : val.length = up.length) (hn : up.length ≤ 512)
    (bad : ¬ WF up val → K (.tuple [.nilsl, .bool false]) h) (good : (∀ a b, a < up.length → b < up.length → Cond up val a b) → K (.tuple [o, .bool true]) h) :
    ∀ d a : Nat, a + d = up.length → (∀ a' b, a' < a → b < up.length → Cond up val a' b) → s29l3 K (d + 1) (.lptr [mU, mV]) up.length o (a : Int) h := by
  intro d
  induction d with
  | zero =>
    intro a hd hk
    unfold s29l3
    exact ifT_neg (by simp; omega) (retG_of (good fun a' b ha' hb' => hk a' b (by omega) hb'))
  | succ d ih =>
    intro a hd hk
    unfold s29l3
    refine ifT_pos (by simp; omega) (s29l4_in (up.length + 1) ?_)
    refine right_l4 S hU hV hO hl hn (by omega) bad (fun hc => s29l3_go (ih (a + 1) (by omega) fun a' b ha' hb' => ?_)) up.length 0 (by omega) (by intro b' hb'; omega)
    by_cases e : a' = a
    · rw [e]; exact hc b hb'
    · exact hk a' b (by omega) hb'
theorem right_l2 (S : Small up val) (hU : Intss mU up) (hV : Strss mV val) {o : AVal} (hO : OTab o up) (hl : val.length = up.length) (hn : up.length ≤ 512)
    (bad : ¬ WF up val → K (.tuple [.nilsl, .bool false]) h) (good : (∀ l ∈ val, fineB l = true) → (∀ a b, a < up.length → b < up.length → Cond up val a b) → K (.tuple [o, .bool true]) h) :
    ∀ d a : Nat, a + d = up.length → (∀ l ∈ val.take a, fineB l = true) → s29l2 K (d + 1) (.lptr [mU, mV]) up.length o (a : Int) h := by
  intro d
  induction d with
  | zero =>
    intro a hd hk
    unfold s29l2
    rw [List.take_of_length_le (by omega)] at hk
    refine ifT_neg (by simp; omega) (s29l3_in (up.length + 1) (right_l3 S hU hV hO hl hn bad (good hk) up.length 0 (by omega) (by intro a' b ha'; omega)))
  | succ d ih =>
    intro a hd hk
    have ha : a < val.length := by omega
    obtain ⟨ea, hea, hixa⟩ := hV.ix ha
    unfold s29l2
    refine ifT_pos (by simp; omega) ?_
    simp only [addOff_lptr, List.drop_succ_cons, List.drop_zero, ld1_lptr, hixa]
    refine callG_of (fine_ok hea (S.names _ (List.getElem_mem ha)).1 ?_)
    rw [tBool_bool]
    cases hf : fineB val[a] with
    | false =>
      refine ifT_pos rfl (retG_of (bad fun W => ?_))
      have := W.fine _ (List.getElem_mem ha)
      rw [hf] at this; cases this
    | true =>
      refine ifT_neg rfl (rg_of (by omega) (by omega) (s29l2_go (ih (a + 1) (by omega) ?_)))
      rw [List.take_succ_eq_append_getElem ha]
      intro l hl'
      rcases List.mem_append.1 hl' with hl' | hl'
      · exact hk l hl'
      · rw [List.mem_singleton.1 hl']; exact hf
theorem right_ok (S : Small up val) (hU : Intss mU up) (hV : Strss mV val) (bad : ¬ WF up val → K (.tuple [.nilsl, .bool false]) h) (good : WF up val → ∀ o, OTab o up → K (.tuple [o, .bool true]) h) :
    ACalls prog 29 [.agg [mU, mV]] h K := by
  refine s29_ok ?_
  have hup := S.ups
  unfold s29
  rw [hU.len]
  by_cases h1 : up.length < 1
  · exact ifT_pos (by simp; omega) (ifT_pos rfl (retG_of (bad fun W => by have := W.pos; omega)))
  · refine ifT_neg (by simp; omega) ?_
    by_cases h2 : 512 < up.length
    · exact ifT_pos (by simp; omega) (ifT_pos rfl (retG_of (bad fun W => by have := W.max; omega)))
    · refine ifT_neg (by simp; omega) ?_
      rw [hV.len]
      by_cases h3 : val.length = up.length
      · refine ifT_neg (by simp [h3]) ?_
        rw [ldN_agg2, tCons_cons, tCons_cons, tNil_nil]
        refine callG_of (order_ok hup (fun r hr => by have := S.row r hr; omega) hU (fun hI => ?_) fun hI o hO => ?_)
        · simp only [tTup_tuple, tCons_cons, tBool_bool, tNil_nil]
          exact ifT_pos rfl (retG_of (bad fun W => hI W.inR))
        · simp only [tTup_tuple, tCons_cons, tBool_bool, tNil_nil]
          refine ifT_neg rfl (s29l2_in (up.length + 1) (right_l2 S hU hV hO h3 (by omega) bad (fun hf hc => good ⟨by omega, by omega, h3, hI, hf, hc⟩ o hO) up.length 0 (by omega) (by simp)))
      · exact ifT_pos (by simp; omega) (retG_of (bad fun W => h3 W.len))
end Go.Proofs.YtljglglbfcgjpaaGreat

namespace Go.Proofs.YtljglglbfcgjpaaGreat
open Go Go.Sym Go.Proofs.Tryz
variable {K : AVal → Heap → Prop} {h h0 hb : Heap} {up : List (List Int)} {val : List (List ByteArray)}
theorem Own.rd {os : List Ow} (O : Own hb os h) {j : Nat} {v : AVal} {l : List AVal} (hj : os[j]? = some (.slc 1 v l)) {i : Nat} {x : AVal} (hi : l[i]? = some x) (ha : x.isAgg = false) {X : AVal → Prop} (hX : X x) : ixS 1 v (i : Int) fun p => ld1 h p X := by
  have hlt := (List.getElem?_eq_some_iff.1 hi).1
  rcases O.fit j _ hj with ⟨_, e⟩ | ⟨r, rfl⟩
  · rw [e] at hlt; simp at hlt
  · refine ixS_sl0 hlt ?_
    rw [ld1_ptr (O.get j _ r hj rfl) hi ha]
    exact hX
theorem Own.wr {os : List Ow} (O : Own hb os h) {j : Nat} {v : AVal} {l : List AVal} (hj : os[j]? = some (.slc 1 v l)) {i : Nat} {x y : AVal} (hi : l[i]? = some x) (ha : x.isAgg = false) {X : Heap → Prop} (hX : ∀ h', Own hb (os.set j (.slc 1 v (l.set i y))) h' → X h') : ixS 1 v (i : Int) fun p => st true h p [y] X := by
  have hlt := (List.getElem?_eq_some_iff.1 hi).1
  rcases O.fit j _ hj with ⟨_, e⟩ | ⟨r, rfl⟩
  · rw [e] at hlt; simp at hlt
  · refine ixS_sl0 hlt ?_
    have hr := O.get j _ r hj rfl
    refine st_elem hr hi ha ?_
    exact hX _ (O.putS hj (by simp))
def wsV (L : List (BitVec 64)) : List AVal := L.map wV
theorem wsV_get {L : List (BitVec 64)} {i : Nat} {s : BitVec 64} (h : L[i]? = some s) : (wsV L)[i]? = some (wV s) := by simp [wsV, h]
@[simp] theorem wsV_len (L : List (BitVec 64)) : (wsV L).length = L.length := by simp [wsV]
section
variable {o : AVal} (ho : OTab o up) (hn : up.length ≤ 63)
include ho hn
omit ho hn in
theorem sets_l5 {L1 : s30l1_T} {L4 : s30l4_T} {l : AVal} {w i : Int} {u s : BitVec 64} {L : List (BitVec 64)} (hL : L.length ≤ 64) (hi : 0 ≤ i ∧ i ≤ 64)
    (O : Own h0 [.slc 1 l (wsV L)] h) (old : s ∈ L → s30c7 K L1 L4 o l w ((u.toNat : Nat) : Int) i h) (new : s ∉ L → ∀ l' h', Own h0 [.slc 1 l' (wsV (L ++ [s]))] h' → s30c7 K L1 L4 o l' w ((u.toNat : Nat) : Int) i h') :
    ∀ d k : Nat, k + d = L.length → ∀ there : Bool, (there = true ↔ s ∈ L.take k) → s30l5 K L1 L4 (d + 1) o l w ((u.toNat : Nat) : Int) i ((s.toNat : Nat) : Int) there (k : Int) h
  | 0, k, hd, there, ht => by
    rw [List.take_of_length_le (by omega)] at ht
    unfold s30l5
    rw [O.len (i := 0) rfl]
    refine ifT_neg (by simp; omega) ?_
    cases there with
    | true => exact ifT_neg rfl (old (ht.1 rfl))
    | false =>
      refine ifT_pos rfl ?_
      refine O.app (i := 0) rfl (by simp; omega) (by simp; omega) fun v2 h2 O2 => new (fun h => by have := ht.2 h; cases this) v2 h2 ?_
      simpa [wsV, wV] using O2
  | d + 1, k, hd, there, ht => by
    have hk : k < L.length := by omega
    unfold s30l5
    rw [O.len (i := 0) rfl]
    refine ifT_pos (by simp; omega) ?_
    have step : ∀ b : Bool, (b = true ↔ s ∈ L.take (k + 1)) → s30c6 K L1 L4 (s30l5_G (s30l5 K L1 L4 (d + 1))) o l w ((u.toNat : Nat) : Int) i ((s.toNat : Nat) : Int) b (k : Int) h := fun b hb => by
      unfold s30c6
      exact rg_of (by omega) (by omega) (s30l5_go (sets_l5 hL hi O old new d (k + 1) (by omega) b hb))
    have htk : L.take (k + 1) = L.take k ++ [L[k]] := List.take_succ_eq_append_getElem hk
    cases there with
    | true =>
      refine ifT_pos rfl (step true ?_)
      rw [htk]
      exact ⟨fun _ => List.mem_append_left _ (ht.1 rfl), fun _ => rfl⟩
    | false =>
      refine ifT_neg rfl (Own.rd O (j := 0) rfl (wsV_get (List.getElem?_eq_getElem hk)) rfl ?_)
      show tInt .u64 (.int .u64 _) _
      rw [tInt_int]
      have e : ((((L[k].toNat : Nat) : Int)) == ((s.toNat : Nat) : Int)) = decide (L[k] = s) := w_eq _ _
      rw [e]
      refine step _ ?_
      rw [htk, decide_eq_true_eq, List.mem_append, List.mem_singleton]
      constructor
      · exact fun h => .inr h.symm
      · rintro (h | h)
        · have := ht.2 h; cases this
        · exact h.symm
omit ho in
theorem sets_l4 {L1 : s30l1_T} {w : Nat} (hw : w < up.length) {L0 : List (BitVec 64)} (many : Many up → K (.tuple [.nilsl, .bool false]) h0)
    (next : ∀ L l h, SetsJ up w L0 L L.length → L.length ≤ 64 → Own h0 [.slc 1 l (wsV L)] h → L1 o l ((w : Int) + 1) h) :
    ∀ d i : Nat, i + d = 65 → ∀ L l h, SetsJ up w L0 L i → i ≤ L.length → L.length ≤ 64 → Own h0 [.slc 1 l (wsV L)] h → s30l4 K L1 (d + 1) o l (w : Int) (((coneW up w).toNat : Nat) : Int) (i : Int) h
  | 0, i, hd, L, l, h, J, hi, hL, O => by omega
  | d + 1, i, hd, L, l, h, J, hi, hL, O => by
    unfold s30l4
    rw [O.len (i := 0) rfl]
    by_cases hlt : i < L.length
    · refine ifT_pos (by simp; omega) (Own.rd O (j := 0) rfl (wsV_get (List.getElem?_eq_getElem hlt)) rfl ?_)
      show tInt .u64 (.int .u64 _) _
      rw [tInt_int, w_or]
      have hgo : ∀ L' l' h', SetsJ up w L0 L' (i + 1) → i + 1 ≤ L'.length → L'.length ≤ 65 → Own h0 [.slc 1 l' (wsV L')] h' → s30c7 K L1 (s30l4_G (s30l4 K L1 (d + 1))) o l' (w : Int) (((coneW up w).toNat : Nat) : Int) (i : Int) h' := fun L' l' h' J' hi' hL' O' => by
        unfold s30c7
        rw [O'.len (i := 0) rfl, wsV_len]
        by_cases h64 : 64 < L'.length
        · refine ifT_pos (by simp; omega) (retG_drop O'.old (many (J'.many (by omega))))
        · exact ifT_neg (by simp; omega) (rg_of (by omega) (by omega) (s30l4_go (sets_l4 hw many next d (i + 1) (by omega) L' l' h' J' hi' (by omega) O')))
      refine s30l5_in (L.length + 1) (sets_l5 hL (by omega) O (fun hm => ?_) (fun hm l' h' O' => ?_) L.length 0 (by omega) false (by simp))
      · exact hgo L l h (J.old (List.getElem?_eq_getElem hlt) hm) (by omega) (by omega) O
      · exact hgo _ l' h' (J.new (by omega) (List.getElem?_eq_getElem hlt) hm) (by simp; omega) (by simp; omega) O'
    · obtain rfl : i = L.length := by omega
      exact ifT_neg (by simp) (rg_of (by omega) (by omega) (next L l h J hL O))
theorem sets_l2 {L1 : s30l1_T} {w : Nat} (hw : w < up.length) {L0 : List (BitVec 64)} (I : SetsI up w L0) (hL0 : L0.length ≤ 64) (many : Many up → K (.tuple [.nilsl, .bool false]) h0)
    (next : ∀ L l h, SetsJ up w L0 L L.length → L.length ≤ 64 → Own h0 [.slc 1 l (wsV L)] h → L1 o l ((w : Int) + 1) h) {l : AVal} (O : Own h0 [.slc 1 l (wsV L0)] h) :
    ∀ d b : Nat, b + d = up.length → s30l2 K (s30l1_G L1) (d + 1) o l (w : Int) (((coneK up w b).toNat : Nat) : Int) (b : Int) h
  | 0, b, hd => by
    obtain rfl : b = up.length := by omega
    unfold s30l2
    rw [ho.len]
    refine ifT_neg (by simp) (s30l4_in (65 + 1) ?_)
    exact sets_l4 hn hw many (fun L l h J hL O => s30l1_go (next L l h J hL O)) 65 0 rfl L0 l h I.enter (by omega) hL0 O
  | d + 1, b, hd => by
    have hb : b < up.length := by omega
    obtain ⟨e, h1, _, h3⟩ := ho.row hw (h' := h)
    unfold s30l2
    rw [ho.len]
    refine ifT_pos (by simp; omega) ?_
    rw [h1, h3 b hb, tBool_bool]
    have hwb : IntKind.u64.wrap (b : Int) = (b : Int) := by
      rw [w_wrap, Nat.mod_eq_of_lt (by omega)]
    have step : ∀ x : BitVec 64, x = coneK up w (b + 1) → s30c3 K (s30l1_G L1) (s30l2_G (s30l2 K (s30l1_G L1) (d + 1))) o l (w : Int) ((x.toNat : Nat) : Int) (b : Int) h := fun x hx => by
      subst hx
      unfold s30c3
      exact rg_of (by omega) (by omega) (s30l2_go (sets_l2 hw I hL0 many next O d (b + 1) (by omega)))
    cases hr : rb up w b with
    | true =>
      refine ifT_pos rfl ⟨by rw [hwb]; omega, ?_⟩
      rw [hwb, w_one, w_shl (1#64) (show b < 64 by omega), w_or]
      refine step _ ?_
      rw [coneK, hr, if_pos rfl]
    | false =>
      refine ifT_neg rfl (step _ ?_)
      rw [coneK, hr, if_neg (by simp)]
theorem sets_l1 (many : Many up → K (.tuple [.nilsl, .bool false]) h0) (yes : ∀ L l h, SetsI up up.length L → L.length ≤ 64 → Own h0 [.slc 1 l (wsV L)] h → s30l8_E (s30l8 K) l 1 h) :
    ∀ d w : Nat, w + d = up.length → ∀ L l h, SetsI up w L → L.length ≤ 64 → Own h0 [.slc 1 l (wsV L)] h → s30l1 K (d + 1) o l (w : Int) h
  | 0, w, hd, L, l, h, I, hL, O => by
    obtain rfl : w = up.length := by omega
    unfold s30l1
    rw [ho.len]
    exact ifT_neg (by simp) (yes L l h I hL O)
  | d + 1, w, hd, L, l, h, I, hL, O => by
    have hw : w < up.length := by omega
    unfold s30l1
    rw [ho.len]
    refine ifT_pos (by simp; omega) ?_
    have := sets_l2 (K := K) (h0 := h0) ho hn hw I hL many (fun L' l' h' J hL' O' => sets_l1 many yes d (w + 1) (by omega) L' l' h' (J.leave I) hL' O') O up.length 0 (by omega)
    exact s30l2_in (up.length + 1) this
end
/- ---------------- sorted by putting in ---------------- -/
structure SinkI (L0 L : List (BitVec 64)) (i k : Nat) : Prop where
  perm : L.Perm L0
  hi : i < L.length
  hk : k ≤ i
  rise : ∀ a b (ha : a < L.length) (hb : b < L.length), a < b → b ≤ i → a ≠ k → b ≠ k → L[a].toNat ≤ L[b].toNat
  low : ∀ b (hb : b < L.length), k < b → b ≤ i → (L[k]'(by omega)).toNat ≤ L[b].toNat
def swapL (L : List (BitVec 64)) (k : Nat) : List (BitVec 64) := (L.set k (L.getD (k - 1) 0#64)).set (k - 1) (L.getD k 0#64)
theorem swapL_len {L : List (BitVec 64)} {k : Nat} : (swapL L k).length = L.length := by simp [swapL]
theorem swapL_get {L : List (BitVec 64)} {k : Nat} (hk : k < L.length) (h0 : 0 < k) {j : Nat} (hj : j < L.length) : (swapL L k)[j]'(by rw [swapL_len]; exact hj) = if j = k - 1 then L[k] else if j = k then L[k - 1]'(by omega) else L[j] := by
  unfold swapL
  rw [List.getElem_set]
  by_cases h1 : k - 1 = j
  · rw [if_pos h1, if_pos h1.symm]
    simp [List.getD_eq_getElem?_getD, hk]
  · rw [if_neg h1, if_neg (fun e => h1 e.symm), List.getElem_set]
    by_cases h2 : k = j
    · rw [if_pos h2, if_pos h2.symm]
      simp [List.getD_eq_getElem?_getD, show k - 1 < L.length by omega]
    · rw [if_neg h2, if_neg (fun e => h2 e.symm)]
theorem swapL_perm {L : List (BitVec 64)} {k : Nat} (hk : k < L.length) (h0 : 0 < k) : (swapL L k).Perm L := by
  obtain ⟨m, rfl⟩ : ∃ m, k = m + 1 := ⟨k - 1, by omega⟩
  have e : L = L.take m ++ L[m] :: L[m + 1] :: L.drop (m + 2) := by
    rw [← List.drop_eq_getElem_cons hk, ← List.drop_eq_getElem_cons (show m < L.length by omega), List.take_append_drop]
  have e2 : swapL L (m + 1) = L.take m ++ L[m + 1] :: L[m] :: L.drop (m + 2) := by
    apply List.ext_getElem
    · rw [swapL_len]
      simp
      omega
    · intro j h1 h2
      rw [swapL_len] at h1
      rw [swapL_get hk h0 h1]
      rw [List.getElem_append]
      simp only [List.length_take, Nat.add_sub_cancel]
      by_cases hj : j < m
      · rw [dif_pos (by omega), if_neg (by omega), if_neg (by omega)]
        simp
      · rw [dif_neg (by omega)]
        by_cases hj1 : j = m
        · subst hj1
          simp [show min j L.length = j by omega]
        · by_cases hj2 : j = m + 1
          · subst hj2
            simp [show min m L.length = m by omega, show m + 1 - m = 1 by omega]
          · rw [if_neg hj1, if_neg hj2]
            have : j - min m L.length = (j - m - 2) + 2 := by omega
            simp only [this, List.getElem_cons_succ, List.getElem_drop]
            congr 1
            omega
  rw [e2]
  conv => rhs; rw [e]
  exact List.Perm.append_left _ (List.Perm.swap _ _ _)
theorem SinkI.down {L0 L : List (BitVec 64)} {i k : Nat} (J : SinkI L0 L i k) (h0 : 0 < k) (hgt : (L[k]'(by have := J.hi; have := J.hk; omega)).toNat < (L[k - 1]'(by have := J.hi; have := J.hk; omega)).toNat) : SinkI L0 (swapL L k) i (k - 1) := by
  have hi := J.hi
  have hki := J.hk
  refine ⟨(swapL_perm (by omega) h0).trans J.perm, by rw [swapL_len]; exact hi, by omega, fun a b ha hb hab hbi hak hbk => ?_, fun b hb hkb hbi => ?_⟩
  · have ha' : a < L.length := by rw [swapL_len] at ha; exact ha
    have hb' : b < L.length := by rw [swapL_len] at hb; exact hb
    rw [swapL_get (by omega) h0 ha', swapL_get (by omega) h0 hb', if_neg hak, if_neg hbk]
    by_cases h1 : a = k
    · subst h1
      rw [if_pos rfl, if_neg (by omega)]
      exact J.rise (a - 1) b (by omega) hb' (by omega) hbi (by omega) (by omega)
    · rw [if_neg h1]
      by_cases h2 : b = k
      · subst h2
        rw [if_pos rfl]
        exact J.rise a (b - 1) ha' (by omega) (by omega) (by omega) h1 (by omega)
      · rw [if_neg h2]
        exact J.rise a b ha' hb' hab hbi h1 h2
  · have hb' : b < L.length := by rw [swapL_len] at hb; exact hb
    rw [swapL_get (by omega) h0 (by omega), swapL_get (by omega) h0 hb', if_pos rfl, if_neg (by omega)]
    by_cases h2 : b = k
    · rw [if_pos h2]; omega
    · rw [if_neg h2]
      exact J.low b hb' (by omega) hbi
def RiseTo (L : List (BitVec 64)) (i : Nat) : Prop := ∀ a b (ha : a < L.length) (hb : b < L.length), a < b → b < i → L[a].toNat ≤ L[b].toNat
theorem SinkI.start {L0 L : List (BitVec 64)} {i : Nat} (hp : L.Perm L0) (hi : i < L.length) (hr : RiseTo L i) : SinkI L0 L i i :=
  ⟨hp, hi, Nat.le_refl _, fun a b ha hb hab hbi _ hbk => hr a b ha hb hab (by omega), fun b hb h1 h2 => by omega⟩
theorem SinkI.stop {L0 L : List (BitVec 64)} {i k : Nat} (J : SinkI L0 L i k) (hs : ∀ h0 : 0 < k, (L[k - 1]'(by have := J.hi; have := J.hk; omega)).toNat ≤ (L[k]'(by have := J.hi; have := J.hk; omega)).toNat) : RiseTo L (i + 1) := by
  intro a b ha hb hab hbi
  have hki := J.hk
  by_cases h1 : a = k
  · subst h1
    exact J.low b hb hab (by omega)
  · by_cases h2 : b = k
    · subst h2
      have h3 := hs (by omega)
      by_cases h4 : a = b - 1
      · subst h4; exact h3
      · exact Nat.le_trans (J.rise a (b - 1) ha (by omega) (by omega) (by omega) h1 (by omega)) h3
    · exact J.rise a b ha hb hab (by omega) h1 h2
theorem sort_l9 {L0 : List (BitVec 64)} {i : Nat} {L8 : s30l8_T} (hL : L0.length ≤ 64) (next : ∀ L l h, L.Perm L0 → RiseTo L (i + 1) → Own h0 [.slc 1 l (wsV L)] h → L8 l ((i : Int) + 1) h) :
    ∀ k : Nat, ∀ L l h, SinkI L0 L i k → Own h0 [.slc 1 l (wsV L)] h → s30l9 K L8 (k + 1) l (i : Int) (k : Int) h
  | 0, L, l, h, J, O => by
    unfold s30l9
    have hlen := J.perm.length_eq
    have hi := J.hi
    refine ifT_neg (by simp) ?_
    unfold s30c10
    exact ifT_neg rfl (rg_of (by omega) (by omega) (next L l h J.perm (J.stop fun h => by omega) O))
  | k + 1, L, l, h, J, O => by
    have hlen := J.perm.length_eq
    have hi := J.hi
    have hk := J.hk
    unfold s30l9
    refine ifT_pos (by simp) (rg_of (by omega) (by omega) ?_)
    rw [show (((k + 1 : Nat) : Int)) - 1 = (k : Int) by omega]
    refine Own.rd O (j := 0) rfl (wsV_get (List.getElem?_eq_getElem (show k < L.length by omega))) rfl ?_
    show tInt .u64 (.int .u64 _) _
    rw [tInt_int]
    refine Own.rd O (j := 0) rfl (wsV_get (List.getElem?_eq_getElem (show k + 1 < L.length by omega))) rfl ?_
    show tInt .u64 (.int .u64 _) _
    rw [tInt_int]
    unfold s30c10
    by_cases hlt : L[k + 1].toNat < L[k].toNat
    · refine ifT_pos (decide_eq_true (by omega)) ?_
      refine Own.rd O (j := 0) rfl (wsV_get (List.getElem?_eq_getElem (show k + 1 < L.length by omega))) rfl ?_
      show tInt .u64 (.int .u64 _) _
      rw [tInt_int]
      refine rg_of (by omega) (by omega) ?_
      rw [show (((k + 1 : Nat) : Int)) - 1 = (k : Int) by omega]
      refine Own.rd O (j := 0) rfl (wsV_get (List.getElem?_eq_getElem (show k < L.length by omega))) rfl ?_
      show tInt .u64 (.int .u64 _) _
      rw [tInt_int]
      refine Own.wr O (j := 0) (i := k + 1) (y := wV L[k]) rfl (wsV_get (List.getElem?_eq_getElem (show k + 1 < L.length by omega))) rfl fun h1 O1 => rg_of (by omega) (by omega) ?_
      have g1 : ((wsV L).set (k + 1) (wV L[k]))[k]? = some (wV L[k]) := by
        rw [List.getElem?_set_ne (by omega)]; exact wsV_get (List.getElem?_eq_getElem _)
      refine Own.wr O1 (j := 0) (i := k) (y := wV L[k + 1]) rfl g1 rfl fun h2 O2 => rg_of (by omega) (by omega) (s30l9_go (sort_l9 hL next k (swapL L (k + 1)) l h2 (J.down (by omega) hlt) ?_))
      have e : wsV (swapL L (k + 1)) = ((wsV L).set (k + 1) (wV L[k])).set k (wV L[k + 1]) := by
        unfold swapL wsV
        rw [List.map_set, List.map_set, Nat.add_sub_cancel]
        simp [List.getD_eq_getElem?_getD, show k < L.length by omega, show k + 1 < L.length by omega]
      rw [e]
      exact O2
    · refine ifT_neg (decide_eq_false (by omega)) (rg_of (by omega) (by omega) (next L l h J.perm (J.stop fun _ => ?_) O))
      simp only [Nat.add_sub_cancel]
      omega
theorem sort_l8 {L0 : List (BitVec 64)} (hL : L0.length ≤ 64) (yes : ∀ M v, M.Perm L0 → (M.Pairwise fun a b => a.toNat ≤ b.toNat) → SlOf 1 v (wsV M) → K (.tuple [v, .bool true]) h0) :
    ∀ d i : Nat, i + d = L0.length → ∀ L l h, L.Perm L0 → RiseTo L i → Own h0 [.slc 1 l (wsV L)] h → s30l8 K (d + 1) l (i : Int) h
  | 0, i, hd, L, l, h, hp, hr, O => by
    have hlen := hp.length_eq
    unfold s30l8
    rw [O.len (i := 0) rfl, wsV_len]
    refine ifT_neg (by simp; omega) ?_
    obtain ⟨v', lv, sv⟩ := O.lit (i := 0) rfl (S := nameOf l) (fun _ h => h) (Lits.refl _)
    refine ⟨nameOf l, .tuple [v', .bool true], h0, .tuple (.cons lv (.cons (.refl _) .nil)), base_step O _ (fun q hq => O.new 0 _ q rfl hq), yes L v' hp ?_ sv⟩
    rw [List.pairwise_iff_getElem]
    exact fun a b ha hb hab => hr a b ha hb hab (by omega)
  | d + 1, i, hd, L, l, h, hp, hr, O => by
    have hlen := hp.length_eq
    unfold s30l8
    rw [O.len (i := 0) rfl, wsV_len]
    refine ifT_pos (by simp; omega) (s30l9_in (i + 1) ?_)
    refine sort_l9 (L8 := s30l8_G (s30l8 K (d + 1))) hL (fun L' l' h' hp' hr' O' => s30l8_go (sort_l8 hL yes d (i + 1) (by omega) L' l' h' hp' hr' O')) i L l h (.start hp (by omega) hr) O
theorem setsD_ok {o : AVal} (W : WF up val) (ho : OTab o up) (many : Many up → K (.tuple [.nilsl, .bool false]) h) (yes : ∀ M v, IsUps up (M.map (blW up.length)) → M.length ≤ 64 → (∀ s ∈ M, fewW up.length s) → up.length ≤ 63 → SlOf 1 v (wsV M) → K (.tuple [v, .bool true]) h) : ACalls prog 30 [o] h K := by
  refine s30_ok ?_
  unfold s30
  rw [ho.len]
  by_cases hn : up.length ≤ 63
  · refine ifT_neg (by simp; omega) (newRow_in fun r hr => s30l1_in (up.length + 1) ?_)
    have O := (Own.start h).newS hr (es := 1) (wsV [0#64])
    refine sets_l1 ho hn many (fun L l h' I hL O' => ?_) up.length 0 (by omega) [0#64] _ _ .start (by simp) O
    have h1 : 1 ≤ L.length := List.length_pos_of_mem I.zero
    refine s30l8_in (L.length - 1 + 1) (sort_l8 (L0 := L) hL (fun M v hp hs sv => ?_) (L.length - 1) 1 (by omega) L l h' (List.Perm.refl _) (fun a b _ _ h1 h2 => by omega) O')
    exact yes M v (isUps_words I (by omega) hp hs) (by rw [hp.length_eq]; exact hL) (fun s hs => I.few s (hp.mem_iff.1 hs)) hn sv
  · refine ifT_pos (by simp; omega) (retG_of (many ?_))
    -- each world's cone is one more
    refine ⟨List.replicate up.length false :: (List.range 64).map fun w => joinS (List.replicate up.length false) (cone up w), ?_, by simp, fun s hs => ?_⟩
    · have hg : ∀ w i, i < up.length → (joinS (List.replicate up.length false) (cone up w)).getD i false = decide (i ∈ cone up w) := fun w i hi => by
        rw [joinS_get _ _ _ (by simpa using hi), getD_rep, Bool.false_or]
      rw [List.nodup_cons]
      refine ⟨fun hm => ?_, ?_⟩
      · obtain ⟨w, hw, e⟩ := List.mem_map.1 hm
        have hw := List.mem_range.1 hw
        have h1 := hg w w (by omega)
        rw [e, getD_rep, decide_eq_true (mem_cone.2 ⟨by omega, rb_refl⟩)] at h1
        cases h1
      · unfold List.Nodup
        rw [List.pairwise_map]
        refine (List.nodup_range (n := 64)).imp_of_mem fun {a b} ha hb hne e => ?_
        have ha := List.mem_range.1 ha
        have hb := List.mem_range.1 hb
        have h1 := hg a b (by omega)
        have h2 := hg b a (by omega)
        rw [e, hg b b (by omega), decide_eq_true (mem_cone.2 ⟨by omega, rb_refl⟩)] at h1
        rw [← e, hg a a (by omega), decide_eq_true (mem_cone.2 ⟨by omega, rb_refl⟩)] at h2
        have r1 := rb_iff.1 (mem_cone.1 (of_decide_eq_true h1.symm)).2
        have r2 := rb_iff.1 (mem_cone.1 (of_decide_eq_true h2.symm)).2
        exact (W.cond a b (by omega) (by omega) r1 hne).1 r2
    · rcases List.mem_cons.1 hs with rfl | hs
      · exact closed_none
      · obtain ⟨w, _, rfl⟩ := List.mem_map.1 hs
        exact closed_join closed_none w
end Go.Proofs.YtljglglbfcgjpaaGreat

namespace Go.Proofs.YtljglglbfcgjpaaGreat
open Go Go.Sym Go.Proofs.Tryz
variable {K : AVal → Heap → Prop} {h h0 hb : Heap} {up : List (List Int)} {val : List (List ByteArray)} {mU mV : AVal}
theorem Own.settle22 {A B : Ow} {e1 e2 s1 s2 : Nat} {v1 v2 w1 w2 : AVal} {l1 l2 L1 L2 : List AVal} (W : Own hb [A, B, .slc s1 w1 (L1 ++ [v1]), .slc s2 w2 (L2 ++ [v2]), .slc e1 v1 l1, .slc e2 v2 l2] h) :
    ∃ S h' v1' v2', SlOf e1 v1' l1 ∧ SlOf e2 v2' l2 ∧ Go.Sym.GStep h h' S ∧ Own hb [A, B, .slc s1 w1 (L1 ++ [v1']), .slc s2 w2 (L2 ++ [v2'])] h' := by
  let Sg : Nat → Prop := fun q => nameOf v1 q ∨ nameOf v2 q
  obtain ⟨v1', h1, x1⟩ := W.lit (i := 4) rfl (S := Sg) (fun _ h => .inl h) (Lits.refl l1)
  obtain ⟨v2', h2, x2⟩ := W.lit (i := 5) rfl (S := Sg) (fun _ h => .inr h) (Lits.refl l2)
  have no : ∀ (j : Nat) (y : Ow), j < 4 → [A, B, .slc s1 w1 (L1 ++ [v1]), .slc s2 w2 (L2 ++ [v2]), .slc e1 v1 l1, .slc e2 v2 l2][j]? = some y → ∀ q, y.nm q → ¬ Sg q := fun j y hj hy q hn hs => by
    rcases hs with hs | hs
    · have := W.one j 4 y _ q hy rfl hn hs; omega
    · have := W.one j 5 y _ q hy rfl hn hs; omega
  obtain ⟨h', g, W'⟩ := W.step Sg [A, B, .slc s1 w1 (L1 ++ [v1']), .slc s2 w2 (L2 ++ [v2'])] (fun q hq => by
    rcases hq with hq | hq
    · exact W.new 4 _ q rfl hq
    · exact W.new 5 _ q rfl hq) (fun j y' hj => by
    match j, hj with
    | 0, hj => cases hj; exact ⟨_, rfl, W.fit 0 _ rfl, fun q hq => ⟨hq, no 0 _ (by omega) rfl q hq⟩, .refl _⟩
    | 1, hj => cases hj; exact ⟨_, rfl, W.fit 1 _ rfl, fun q hq => ⟨hq, no 1 _ (by omega) rfl q hq⟩, .refl _⟩
    | 2, hj =>
      cases hj
      refine ⟨_, rfl, ?_, fun q hq => ⟨hq, no 2 _ (by omega) rfl q hq⟩, .row (Lits.snoc L1 h1)⟩
      have := W.fit 2 _ rfl
      simpa [Ow.fit] using this
    | 3, hj =>
      cases hj
      refine ⟨_, rfl, ?_, fun q hq => ⟨hq, no 3 _ (by omega) rfl q hq⟩, .row (Lits.snoc L2 h2)⟩
      have := W.fit 3 _ rfl
      simpa [Ow.fit] using this
    | j + 4, hj => simp at hj)
  exact ⟨Sg, h', v1', v2', x1, x2, g, W'⟩
theorem sub_word {n : Nat} {x y : BitVec 64} (hx : fewW n x) : (bitsI .andNot .u64 ((x.toNat : Nat) : Int) ((y.toNat : Nat) : Int) == 0) = subB (blW n x) (blW n y) := by
  rw [w_andNot, show (0 : Int) = (((0#64).toNat : Nat) : Int) from rfl, w_eq, Bool.eq_iff_iff, decide_eq_true_eq, subB_iff (n := n) blW_len blW_len]
  constructor
  · intro h w hw hxw
    rw [blW_get hw] at hxw ⊢
    have := congrArg (fun z => BitVec.getLsbD z w) h
    simp only [BitVec.getLsbD_and, BitVec.getLsbD_not, hxw, Bool.true_and, BitVec.getLsbD_zero] at this
    cases e : y.getLsbD w with
    | true => rfl
    | false =>
      rw [e] at this
      have h64 : w < 64 := by
        apply Classical.byContradiction
        intro hc
        rw [BitVec.getLsbD_of_ge _ _ (by omega)] at hxw
        cases hxw
      simp [h64] at this
  · intro h
    apply BitVec.eq_of_getLsbD_eq
    intro w hw64
    simp only [BitVec.getLsbD_and, BitVec.getLsbD_not, BitVec.getLsbD_zero, hw64, decide_true, Bool.true_and]
    by_cases hw : w < n
    · have := h w hw
      rw [blW_get hw, blW_get hw] at this
      cases e1 : x.getLsbD w with
      | false => rfl
      | true => rw [this e1]; rfl
    · rw [hx w (by omega)]; rfl
theorem idx_word {n : Nat} {x : BitVec 64} : idxL (blW n x) = (List.range n).filter fun w => x.getLsbD w := by
  unfold idxL
  rw [blW_len]
  exact List.filter_congr fun w hw => blW_get (List.mem_range.1 hw)
section
variable {n : Nat} (hn : n ≤ 63) {M : List (BitVec 64)} (hM : ∀ s ∈ M, fewW n s) (hl : M.length ≤ 64) {v o : AVal} (hv : SlOf 1 v (wsV M)) (hoL : ∀ X : Int → Prop, lenN o X = X n)
include hn hM hl hv hoL
theorem upsD_l3 {rt ra : Nat} {X va worlds row : AVal} {LA LS LR : List AVal} (hLA : LA.length ≤ 64) (hLS : LS.length ≤ 64) {L1 : s7l1_T} {i : Nat} (hi : i < M.length) {row0 : List Bool} (hLR : LR = row0.map .bool)
    (next : ∀ va' worlds' row' ws' h', Bools row' row0 → Ints ws' (natI (idxL (blW n M[i]))) → Own h0 [.cell rt (.row 1 [.agg [X]]), .cell ra (.row 1 [.agg [va']]), .slc 1 va' (LA ++ [row']), .slc 1 worlds' (LS ++ [ws'])] h' → L1 (.ptr rt 0 0) o v (.ptr ra 0 0) worlds' ((i : Int) + 1) h') :
    ∀ d w : Nat, w + d = n → ∀ ws h, Own h0 [.cell rt (.row 1 [.agg [X]]), .cell ra (.row 1 [.agg [va]]), .slc 1 va LA, .slc 1 worlds LS, .slc 1 row LR, .slc 1 ws ((natI ((List.range w).filter fun w => M[i].getLsbD w)).map (.int .i64))] h →
      s7l3 K (s7l1_G L1) (d + 1) (.ptr rt 0 0) o v (.ptr ra 0 0) worlds (i : Int) row ws (w : Int) h
  | 0, w, hd, ws, h, W => by
    obtain rfl : w = n := by omega
    unfold s7l3
    rw [hoL]
    refine ifT_neg (by simp) ?_
    rw [addOff_ptr, ld1_fld (W.get 1 _ ra rfl rfl) rfl]
    refine chk_iff.2 ⟨(W.sc (i := 4) rfl).1, W.app (i := 2) rfl (by omega) (by omega) fun v2 h2 W2 => ?_⟩
    rw [addOff_ptr]
    refine chk_iff.2 ⟨(W2.sc (i := 2) rfl).1, st_fld (W2.get 1 _ ra rfl rfl) (by simp) ?_⟩
    have W3 := W2.put (i := 1) rfl (.row 1 [.agg [v2]])
    refine chk_iff.2 ⟨(W3.sc (i := 5) rfl).1, W3.app (i := 3) rfl (by omega) (by omega) fun v4 h4 W4 => rg_of (by omega) (by omega) ?_⟩
    have W5 : Own h0 [.cell rt (.row 1 [.agg [X]]), .cell ra (.row 1 [.agg [v2]]), .slc 1 v2 (LA ++ [row]), .slc 1 v4 (LS ++ [ws]), .slc 1 row LR, .slc 1 ws ((natI ((List.range w).filter fun w => M[i].getLsbD w)).map (.int .i64))] h4 := W4
    obtain ⟨S, h', row', ws', s1, s2, g, W6⟩ := Own.settle22 W5
    rw [hLR] at s1
    rw [← idx_word] at s2
    exact ⟨S, _, h', Lits.refl _, g, rfl, next v2 v4 row' ws' h' s1 s2 W6⟩
  | d + 1, w, hd, ws, h, W => by
    have hw : w < n := by omega
    unfold s7l3
    rw [hoL]
    refine ifT_pos (by simp; omega) ?_
    rw [ixS_nat hv (wsV_get (List.getElem?_eq_getElem hi)), show cellsOf (wV M[i]) = [wV M[i]] from rfl, ld1_lptr]
    show tInt .u64 (.int .u64 _) _
    rw [tInt_int]
    have hwb : IntKind.u64.wrap (w : Int) = (w : Int) := by rw [w_wrap, Nat.mod_eq_of_lt (by omega)]
    rw [hwb]
    refine ⟨by omega, ?_⟩
    rw [w_shr _ (show w < 64 by omega), w_bit]
    have hs := range_filter_succ (fun w => M[i].getLsbD w) w
    have hle := List.length_filter_le (fun w => M[i].getLsbD w) (List.range w)
    simp only [List.length_range] at hle
    cases e : M[i].getLsbD w with
    | true =>
      rw [e, if_pos rfl] at hs
      refine ifT_pos rfl (W.app (i := 5) rfl (by simp [natI]; omega) (by simp [natI]; omega) fun v2 h2 W2 => ?_)
      unfold s7c4
      refine rg_of (by omega) (by omega) (s7l3_go (upsD_l3 (va := va) hLA hLS hi hLR next d (w + 1) (by omega) v2 h2 ?_))
      rw [hs, show natI ((List.range w).filter (fun w => M[i].getLsbD w) ++ [w]) = natI ((List.range w).filter fun w => M[i].getLsbD w) ++ [(w : Int)] by simp [natI], List.map_append]
      exact W2
    | false =>
      rw [e, if_neg (by decide), List.append_nil] at hs
      refine ifT_neg rfl ?_
      unfold s7c4
      refine rg_of (by omega) (by omega) (s7l3_go (upsD_l3 (va := va) hLA hLS hi hLR next d (w + 1) (by omega) ws h ?_))
      rw [hs]
      exact W
theorem upsD_l2 {rt ra : Nat} {X va worlds : AVal} {LA LS : List AVal} (hLA : LA.length ≤ 64) (hLS : LS.length ≤ 64) {L1 : s7l1_T} {i : Nat} (hi : i < M.length)
    (next : ∀ va' worlds' row' ws' h', Bools row' (M.map fun y => subB (blW n M[i]) (blW n y)) → Ints ws' (natI (idxL (blW n M[i]))) → Own h0 [.cell rt (.row 1 [.agg [X]]), .cell ra (.row 1 [.agg [va']]), .slc 1 va' (LA ++ [row']), .slc 1 worlds' (LS ++ [ws'])] h' → L1 (.ptr rt 0 0) o v (.ptr ra 0 0) worlds' ((i : Int) + 1) h') :
    ∀ d k : Nat, k + d = M.length → ∀ row h, Own h0 [.cell rt (.row 1 [.agg [X]]), .cell ra (.row 1 [.agg [va]]), .slc 1 va LA, .slc 1 worlds LS, .slc 1 row (((M.take k).map fun y => subB (blW n M[i]) (blW n y)).map .bool), .slc 1 .nilsl []] h →
      s7l2 K (s7l1_G L1) (d + 1) (.ptr rt 0 0) o v (.ptr ra 0 0) worlds (i : Int) row .nilsl (k : Int) h
  | 0, k, hd, row, h, W => by
    unfold s7l2
    rw [lenN_of hv, wsV_len]
    refine ifT_neg (by simp; omega) ?_
    rw [List.take_of_length_le (by omega)] at W
    exact s7l3_in (n + 1) (upsD_l3 (va := va) hn hM hl hv hoL hLA hLS hi rfl next n 0 (by omega) .nilsl h W)
  | d + 1, k, hd, row, h, W => by
    have hk : k < M.length := by omega
    unfold s7l2
    rw [lenN_of hv, wsV_len]
    refine ifT_pos (by simp; omega) ?_
    rw [ixS_nat hv (wsV_get (List.getElem?_eq_getElem hi)), show cellsOf (wV M[i]) = [wV M[i]] from rfl, ld1_lptr]
    show tInt .u64 (.int .u64 _) _
    rw [tInt_int]
    rw [ixS_nat hv (wsV_get (List.getElem?_eq_getElem hk)), show cellsOf (wV M[k]) = [wV M[k]] from rfl, ld1_lptr]
    show tInt .u64 (.int .u64 _) _
    rw [tInt_int, sub_word (hM _ (List.getElem_mem hi))]
    refine W.app (i := 4) rfl (by simp; omega) (by simp; omega) fun v2 h2 W2 => rg_of (by omega) (by omega) (s7l2_go (upsD_l2 (va := va) hLA hLS hi next d (k + 1) (by omega) v2 h2 ?_))
    rw [List.take_succ_eq_append_getElem hk, List.map_append, List.map_append]
    exact W2
theorem upsD_l1 {rt ra : Nat} {X : AVal} (good : ∀ a sets, Boolss a (leqT (M.map (blW n))) → Intss sets ((M.map (blW n)).map fun l => natI (idxL l)) → K (.tuple [.agg [a], sets, .int .i64 0]) h0) :
    ∀ d i : Nat, i + d = M.length → ∀ va worlds LA LS h, All2 Bools LA ((leqT (M.map (blW n))).take i) → All2 Ints LS (((M.map (blW n)).map fun l => natI (idxL l)).take i) → Own h0 [.cell rt (.row 1 [.agg [X]]), .cell ra (.row 1 [.agg [va]]), .slc 1 va LA, .slc 1 worlds LS] h →
      s7l1 K (d + 1) (.ptr rt 0 0) o v (.ptr ra 0 0) worlds (i : Int) h
  | 0, i, hd, va, worlds, LA, LS, h, aA, aS, W => by
    obtain rfl : i = M.length := by omega
    rw [List.take_of_length_le (by simp [leqT])] at aA
    rw [List.take_of_length_le (by simp)] at aS
    unfold s7l1
    rw [lenN_of hv, wsV_len]
    refine ifT_neg (by simp) ?_
    rw [ldN_fld (n := 1) (W.get 1 _ ra rfl rfl) rfl, tCons_cons, tNil_nil]
    refine st_all (W.get 0 _ rt rfl rfl) rfl ?_
    have W2 := W.put (i := 0) rfl (.row 1 [.agg [va]])
    rw [ldN_fld (n := 1) (W2.get 0 _ rt rfl rfl) rfl, tCons_cons, tNil_nil]
    let Sg : Nat → Prop := fun q => nameOf va q ∨ nameOf worlds q
    obtain ⟨a', l1, s1⟩ := W2.lit (i := 2) rfl (S := Sg) (fun q hq => .inl hq) (Lits.refl LA)
    obtain ⟨b', l2, s2⟩ := W2.lit (i := 3) rfl (S := Sg) (fun q hq => .inr hq) (Lits.refl LS)
    refine ⟨Sg, .tuple [.agg [a'], b', .int .i64 0], h0, .tuple (.cons (.agg (.cons l1 .nil)) (.cons l2 (.cons (.refl _) .nil))), base_step W2 Sg fun q hq => ?_, good a' b' ⟨_, s1, aA⟩ ⟨_, s2, aS⟩⟩
    rcases hq with hq | hq
    · exact W2.new 2 _ q rfl hq
    · exact W2.new 3 _ q rfl hq
  | d + 1, i, hd, va, worlds, LA, LS, h, aA, aS, W => by
    have hi : i < M.length := by omega
    have lA : LA.length ≤ 64 := by have := aA.length; rw [List.length_take] at this; omega
    have lS : LS.length ≤ 64 := by have := aS.length; rw [List.length_take] at this; omega
    unfold s7l1
    rw [lenN_of hv, wsV_len]
    refine ifT_pos (by simp; omega) ?_
    refine s7l2_in (M.length + 1) (upsD_l2 (va := va) hn hM hl hv hoL lA lS hi (fun va' worlds' row' ws' h' hb hi' W2 => ?_) M.length 0 (by omega) .nilsl h ((W.newN 1).newN 1))
    refine upsD_l1 good d (i + 1) (by omega) va' worlds' _ _ h' ?_ ?_ W2
    · rw [List.take_add_one, show (leqT (M.map (blW n)))[i]? = some (M.map fun y => subB (blW n M[i]) (blW n y)) by simp [leqT, hi]]
      exact aA.append (.cons hb .nil)
    · rw [List.take_add_one, show ((M.map (blW n)).map fun l => natI (idxL l))[i]? = some (natI (idxL (blW n M[i]))) by simp [hi]]
      exact aS.append (.cons hi' .nil)
end
theorem upsD_ok (S : Small up val) (hU : Intss mU up) (hV : Strss mV val) (bad : ¬ WF up val → K (.tuple [.agg [.nilsl], .nilsl, .int .i64 170]) h) (many : WF up val → Many up → K (.tuple [.agg [.nilsl], .nilsl, .int .i64 231]) h)
    (yes : WF up val → ∀ V, IsUps up V → V.length ≤ 64 → ∀ a sets, Boolss a (leqT V) → Intss sets (V.map fun l => natI (idxL l)) → K (.tuple [.agg [a], sets, .int .i64 0]) h) : ACalls prog 7 [.agg [mU, mV]] h K := by
  refine s7_ok ?_
  unfold s7
  refine newRow_in fun rt hrt => ?_
  have W0 := (Own.start h).newC hrt (.row 1 [.agg [.nilsl]])
  have err : ∀ e : Int, K (.tuple [.agg [.nilsl], .nilsl, .int .i64 e]) h → st false (h.set rt (.row 1 [.agg [.nilsl]])) (.ptr rt 0 0) [.nilsl] fun h_2 => ldN 1 h_2 (.ptr rt 0 0) fun l_3 => tCons l_3 fun v4 l_4 => tNil l_4 (retG (.tuple [(.agg [v4]), .nilsl, (.int .i64 e)]) h_2 K) := fun e hk => by
    refine st_all (W0.get 0 _ rt rfl rfl) rfl ?_
    have W2 := W0.put (i := 0) rfl (.row 1 [.agg [.nilsl]])
    rw [ldN_fld (n := 1) (W2.get 0 _ rt rfl rfl) rfl, tCons_cons, tNil_nil]
    exact retG_drop W2.old hk
  refine callG_of (right_ok S hU hV (fun hW => ?_) fun hW o ho => ?_)
  · rw [tTup_tuple, tCons_cons, tCons_cons, tBool_bool, tNil_nil]
    exact ifT_pos rfl (err 170 (bad hW))
  · rw [tTup_tuple, tCons_cons, tCons_cons, tBool_bool, tNil_nil]
    refine ifT_neg rfl (callG_of (setsD_ok hW ho (fun hm => ?_) fun M v hI hl hM hn hv => ?_))
    · rw [tTup_tuple, tCons_cons, tCons_cons, tBool_bool, tNil_nil]
      exact ifT_pos rfl (err 231 (many hW hm))
    · rw [tTup_tuple, tCons_cons, tCons_cons, tBool_bool, tNil_nil]
      refine ifT_neg rfl (newRow_in fun ra hra => ?_)
      have W1 := W0.newC hra (.row 1 [.agg [.nilsl]])
      refine st_all (W1.get 1 _ ra rfl rfl) rfl ?_
      have W2 := ((W1.put (i := 1) rfl (.row 1 [.agg [.nilsl]])).newN 1).newN 1
      exact s7l1_in (M.length + 1) (upsD_l1 hn hM hl hv ho.len (fun a sets => yes hW _ hI (by simpa using hl) a sets) M.length 0 (by omega) .nilsl .nilsl [] [] _ .nil .nil W2)
end Go.Proofs.YtljglglbfcgjpaaGreat

namespace Go.Proofs.YtljglglbfcgjpaaGreat
open Go Go.Sym Go.Proofs.Tryz
theorem strLt_lt (a b : ByteArray) : strLt a b = decide (a.toList < b.toList) := bytesLess_eq _ _
theorem strLt_irr (a : ByteArray) : strLt a a = false := by
  rw [strLt_lt]
  exact decide_eq_false (List.lt_irrefl _)
theorem strLt_tr {a b c : ByteArray} (h1 : strLt a b = true) (h2 : strLt b c = true) : strLt a c = true := by
  rw [strLt_lt, decide_eq_true_eq] at *
  exact List.lt_trans h1 h2
theorem fine_pair {l : List ByteArray} (h : fineB l = true) : l.Pairwise fun a b => strLt a b = true := by
  have step : ∀ i (hi : i + 1 < l.length), strLt l[i] l[i + 1] = true := fun i hi => by
    unfold fineB at h
    rw [List.all_eq_true] at h
    have := h (i + 1) (by rw [List.mem_range']; exact ⟨i + 1, by omega, by omega⟩)
    unfold fine1 at this
    simp only [Bool.and_eq_true, Bool.or_eq_true] at this
    rcases this.2 with e | e
    · simp at e
    · simpa [List.getD, hi, show i < l.length by omega] using e
  rw [List.pairwise_iff_getElem]
  intro i j hi hj hij
  obtain ⟨d, rfl⟩ : ∃ d, j = i + 1 + d := ⟨j - i - 1, by omega⟩
  clear hij
  induction d with
  | zero => exact step i hj
  | succ d ih => exact strLt_tr (ih (by omega)) (step (i + 1 + d) hj)
theorem fine_nodup {l : List ByteArray} (h : fineB l = true) : l.Nodup :=
  (fine_pair h).imp fun {a b} e e2 => by subst e2; rw [strLt_irr] at e; cases e
theorem inc_len : ∀ {l : List Nat} {a n : Nat}, l.Pairwise (· < ·) → (∀ x ∈ l, a ≤ x ∧ x < n) → l.length ≤ n - a
  | [], _, _, _, _ => by simp
  | x :: l, a, n, hp, hb => by
    rw [List.pairwise_cons] at hp
    have h1 := hb x (List.mem_cons_self ..)
    have := inc_len (a := x + 1) (n := n) hp.2 fun y hy => ⟨hp.1 y hy, (hb y (List.mem_cons_of_mem _ hy)).2⟩
    simp only [List.length_cons]
    omega
end Go.Proofs.YtljglglbfcgjpaaGreat

namespace Go.Proofs.YtljglglbfcgjpaaGreat
open Go Go.Sym Go.Proofs.Tryz
variable {K : AVal → Heap → Prop} {h h0 : Heap}
structure Nd where
  k : Int
  s : ByteArray
  l : Int
  r : Int
def nodeC (x : Nd) : List AVal := [.int .i64 x.k, .str x.s, .int .i64 x.l, .int .i64 x.r]
def nodeV (x : Nd) : AVal := .agg (nodeC x)
def Nodes (v : AVal) (xs : List Nd) : Prop := SlOf 4 v (xs.map nodeV)
def NdOK (i : Nat) (x : Nd) : Prop := x.k = 1 ∨ x.k = 2 ∨ ((x.k = 3 ∨ x.k = 4 ∨ x.k = 5) ∧ (0 ≤ x.l ∧ x.l < i) ∧ 0 ≤ x.r ∧ x.r < i)
theorem Nodes.len {v : AVal} {xs : List Nd} (h : Nodes v xs) (K : Int → Prop) : lenN v K = K xs.length := by rw [lenN_of h]; simp
theorem Nodes.ix {v : AVal} {xs : List Nd} (h : Nodes v xs) {i : Nat} (hi : i < xs.length) (K : AVal → Prop) : ixS 4 v (i : Int) K = K (.lptr (nodeC xs[i])) := by
  rw [ixS_nat h (i := i) (e := nodeV xs[i]) (by simp [hi])]
  rfl
theorem ldN_node (h : Heap) (x : Nd) (K : List AVal → Prop) : ldN 4 h (.lptr (nodeC x)) K = K (nodeC x) := ldN_lptr 4 h _ K (by simp [nodeC])
theorem nilCheck_ptr (r i o : Nat) (K : AVal → Prop) : nilCheckA (.ptr r i o) K = K (.ptr r i o) := rfl
theorem ldN_elem {h : Heap} {r i n es : Nat} {elems cs : List AVal} (hr : h r = some (.row es elems)) (he : elems[i]? = some (.agg cs)) (hn : n = cs.length) (K : List AVal → Prop) : ldN n h (.ptr r i 0) K = K cs := by
  subst hn
  unfold ldN ldCells
  simp only [hr, he, cellsOf_agg, List.drop_zero, List.take_length]
  rw [Nat.ble_eq_true_of_le (Nat.le_refl _)]
  rfl
def RdN (h : Heap) (v : AVal) (xs : List Nd) : Prop := (v = .nilsl ∧ xs = []) ∨ (∃ (r : Nat) (L : List AVal), v = .sl r 4 0 xs.length ∧ h r = some (.row 4 L) ∧ ∀ (i : Nat) (x : Nd), xs[i]? = some x → L[i]? = some (nodeV x)) ∨ Nodes v xs
theorem RdN.len {v : AVal} {xs : List Nd} (R : RdN h v xs) (K : Int → Prop) : lenN v K = K xs.length := by
  rcases R with ⟨rfl, rfl⟩ | ⟨r, L, rfl, _, _⟩ | R
  · rfl
  · rfl
  · exact R.len K
theorem RdN.ext {h h' : Heap} {v : AVal} {xs : List Nd} (R : RdN h v xs) (e : ∀ q o, h q = some o → h' q = some o) : RdN h' v xs := by
  rcases R with R | ⟨r, L, e1, e2, e3⟩ | R
  · exact .inl R
  · exact .inr (.inl ⟨r, L, e1, e _ _ e2, e3⟩)
  · exact .inr (.inr R)
theorem RdN.ix {v : AVal} {xs : List Nd} (R : RdN h v xs) {i : Nat} {x : Nd} (hi : xs[i]? = some x) {K : List AVal → Prop} (hk : K (nodeC x)) : ixS 4 v (i : Int) fun p => ldN 4 h p K := by
  have hlt := (List.getElem?_eq_some_iff.1 hi).1
  rcases R with ⟨rfl, rfl⟩ | ⟨r, L, rfl, hr, hL⟩ | R
  · simp at hlt
  · refine ixS_sl0 hlt ?_
    rw [ldN_elem (n := 4) hr (hL i x hi) rfl]
    exact hk
  · rw [R.ix hlt, ldN_node, (List.getElem?_eq_some_iff.1 hi).2]
    exact hk
theorem RdN.fld {v : AVal} {xs : List Nd} (R : RdN h v xs) {i o : Nat} {x : Nd} {c : AVal} (hi : xs[i]? = some x) (ho : (nodeC x)[o]? = some c) {K : AVal → Prop} (hk : K c) : ixS 4 v (i : Int) fun p => addOff p o fun p => ld1 h p K := by
  have hlt := (List.getElem?_eq_some_iff.1 hi).1
  have hol := (List.getElem?_eq_some_iff.1 ho).1
  rcases R with ⟨rfl, rfl⟩ | ⟨r, L, rfl, hr, hL⟩ | R
  · simp at hlt
  · refine ixS_sl0 hlt ?_
    rw [addOff_ptr]
    unfold ld1 ldCells
    simp only [hr, hL i x hi, nodeV, cellsOf_agg, Nat.zero_add]
    rw [List.drop_eq_getElem_cons hol]
    simp only
    rw [(List.getElem?_eq_some_iff.1 ho).2]
    exact hk
  · rw [R.ix hlt, (List.getElem?_eq_some_iff.1 hi).2, addOff_lptr, List.drop_eq_getElem_cons hol, (List.getElem?_eq_some_iff.1 ho).2, ld1_lptr]
    exact hk
def PRd (h : Heap) (t : AVal) (xs : List Nd) : Prop := ∃ rt vN q es, t = .ptr rt 0 0 ∧ h rt = some (.row 2 [.agg [vN, .mapr q]]) ∧ h q = some (.map es) ∧ RdN h vN xs
def DRd (h : Heap) (t : AVal) (xs : List Nd) : Prop := ∃ rt vN, t = .ptr rt 0 0 ∧ h rt = some (.row 1 [.agg [vN]]) ∧ RdN h vN xs
theorem PRd.ext {h h' : Heap} {t : AVal} {xs : List Nd} (R : PRd h t xs) (e : ∀ q o, h q = some o → h' q = some o) : PRd h' t xs := by
  obtain ⟨rt, vN, q, es, h1, h2, h3, h4⟩ := R
  exact ⟨rt, vN, q, es, h1, e _ _ h2, e _ _ h3, h4.ext e⟩
theorem DRd.ext {h h' : Heap} {t : AVal} {xs : List Nd} (R : DRd h t xs) (e : ∀ q o, h q = some o → h' q = some o) : DRd h' t xs := by
  obtain ⟨rt, vN, h1, h2, h3⟩ := R
  exact ⟨rt, vN, h1, e _ _ h2, h3.ext e⟩
theorem PRd.ld {t : AVal} {xs : List Nd} (R : PRd h t xs) : ∃ vN, RdN h vN xs ∧ ∀ K : AVal → Prop, (nilCheckA t fun p => addOff p 0 fun p => ld1 h p K) = K vN := by
  obtain ⟨rt, vN, q, es, rfl, h2, h3, h4⟩ := R
  exact ⟨vN, h4, fun K => by rw [nilCheck_ptr, addOff_ptr, ld1_fld h2 rfl]⟩
theorem DRd.ld {t : AVal} {xs : List Nd} (R : DRd h t xs) : ∃ vN, RdN h vN xs ∧ ∀ K : AVal → Prop, (nilCheckA t fun p => addOff p 0 fun p => ld1 h p K) = K vN := by
  obtain ⟨rt, vN, rfl, h2, h3⟩ := R
  exact ⟨vN, h3, fun K => by rw [nilCheck_ptr, addOff_ptr, ld1_fld h2 rfl]⟩
end Go.Proofs.YtljglglbfcgjpaaGreat

namespace Go.Proofs.YtljglglbfcgjpaaGreat
open Go Go.Sym Go.Proofs.Tryz
variable {K : AVal → Heap → Prop} {h h0 hb : Heap}
end Go.Proofs.YtljglglbfcgjpaaGreat

namespace Go.Proofs.YtljglglbfcgjpaaGreat
open Go Go.Sym Go.Proofs.Tryz
variable {K : AVal → Heap → Prop} {h h0 hb : Heap}
def ents : Nat → List Nd → List (AVal × AVal)
  | _, [] => []
  | s, x :: xs => (nodeV x, .int .i64 (s : Int)) :: ents (s + 1) xs
def PP (hb : Heap) (rt : Nat) (xs : List Nd) (R : List Ow) (h : Heap) : Prop := ∃ vN q, Own hb ([.slc 4 vN (xs.map nodeV), .cell rt (.row 2 [.agg [vN, .mapr q]]), .cell q (.map (ents 0 xs))] ++ R) h
def DD (hb : Heap) (rd : Nat) (ys : List Nd) (R : List Ow) (h : Heap) : Prop := ∃ vM, Own hb ([.slc 4 vM (ys.map nodeV), .cell rd (.row 1 [.agg [vM]])] ++ R) h
theorem DD.app {rd : Nat} {ys : List Nd} {R : List Ow} {vM : AVal} (W : Own hb ([.slc 4 vM (ys.map nodeV), .cell rd (.row 1 [.agg [vM]])] ++ R) h) (hl : ys.length < 1048576) {y : Nd} {K : AVal → Heap → Prop}
    (hk : ∀ v' h', Own hb ([.slc 4 v' ((ys ++ [y]).map nodeV), .cell rd (.row 1 [.agg [vM]])] ++ R) h' → K v' h') : appC 4 40 h vM (.lsl 4 [nodeV y]) K := by
  refine W.app (i := 0) rfl (by simp; omega) (by simp; omega) fun v' h' W2 => hk v' h' ?_
  rw [List.map_append]
  exact W2
end Go.Proofs.YtljglglbfcgjpaaGreat

namespace Go.Proofs.YtljglglbfcgjpaaGreat
open Go Go.Sym Go.Proofs.Tryz
variable {K : AVal → Heap → Prop} {h h0 hb : Heap}
theorem Own.skip {os : List Ow} (W : Own hb os h) {r : Nat} (hr : h r = none) (o : AObj) : Own hb os (h.set r o) := (W.newC hr o).pop
theorem PP.skip {rt : Nat} {xs : List Nd} {R : List Ow} (W : PP hb rt xs R h) {r : Nat} (hr : h r = none) (o : AObj) : PP hb rt xs R (h.set r o) := by
  obtain ⟨vN, q, O⟩ := W
  exact ⟨vN, q, Own.skip O hr o⟩
end Go.Proofs.YtljglglbfcgjpaaGreat

namespace Go.Proofs.YtljglglbfcgjpaaGreat
open Go Go.Sym Go.Proofs.Tryz
variable {K : AVal → Heap → Prop} {h h0 hb : Heap}
theorem Own.ext {h' : Heap} {os : List Ow} (W : Own hb os h) (x : Ext h h') : Own hb os h' :=
  ⟨W.fit, fun i y n e e1 => x _ _ (W.get i y n e e1), W.new, W.one, fun q o e => x _ _ (W.old q o e)⟩
def GoodT (xs : List Nd) : Prop := ∀ (i : Nat) (x : Nd), xs[i]? = some x → NdOK i x
def Kid (xs : List Nd) (i j : Nat) : Prop := ∃ x, xs[i]? = some x ∧ 3 ≤ x.k ∧ (x.l = (j : Int) ∨ x.r = (j : Int))
inductive Sub (xs : List Nd) : Nat → Nat → Prop
  | refl (i : Nat) : Sub xs i i
  | step {i j k : Nat} (h : Kid xs i j) (s : Sub xs j k) : Sub xs i k
theorem Kid.lt {xs : List Nd} (G : GoodT xs) {i j : Nat} (h : Kid xs i j) : j < i := by
  obtain ⟨x, h1, h2, h3⟩ := h
  rcases G i x h1 with e | e | ⟨_, e1, e2⟩
  · omega
  · omega
  · omega
theorem Sub.le {xs : List Nd} (G : GoodT xs) {i j : Nat} (h : Sub xs i j) : j ≤ i := by
  induction h with
  | refl => omega
  | step h _ ih => have := h.lt G; omega
theorem Sub.trans {xs : List Nd} {i j k : Nat} (h : Sub xs i j) (s : Sub xs j k) : Sub xs i k := by
  induction h with
  | refl => exact s
  | step h _ ih => exact .step h (ih s)
/- ---- the walk down ---- -/
def marks (L : List Nat) : List (AVal × AVal) := L.map fun (j : Nat) => (.int .i64 (j : Int), .int .i64 1)
end Go.Proofs.YtljglglbfcgjpaaGreat

namespace Go.Proofs.YtljglglbfcgjpaaGreat
open Go Go.Sym Go.Proofs.Tryz
variable {K : AVal → Heap → Prop} {h h0 hb : Heap}
/- ---- maps from keys to numbers ---- -/
section
variable {α : Type} [DecidableEq α] {key : α → AVal} {f : α → Int}
def kmap (key : α → AVal) (f : α → Int) (L : List α) : List (AVal × AVal) := L.map fun x => (key x, .int .i64 (f x))
def KeyOK (key : α → AVal) : Prop := ∀ a b, keyEq (key a) (key b) = some (decide (a = b))
theorem findM_key (hk : KeyOK key) (a : α) : ∀ (L : List α) (p : Nat), findM (key a) (kmap key f L) p = some (if a ∈ L then some (p + L.idxOf a, .int .i64 (f a)) else none)
  | [], p => by simp [kmap, findM]
  | j :: L, p => by
    show findM _ ((key j, .int .i64 (f j)) :: kmap key f L) p = _
    unfold findM
    rw [hk a j]
    by_cases hij : a = j
    · subst hij
      simp
    · rw [decide_eq_false hij]
      simp only
      rw [findM_key hk a L (p + 1)]
      by_cases hm : a ∈ L
      · rw [if_pos hm, if_pos (List.mem_cons_of_mem _ hm), List.idxOf_cons]
        rw [show (j == a) = false by rw [beq_eq_false_iff_ne]; exact fun e => hij e.symm]
        simp only [cond_false]
        rw [show p + 1 + L.idxOf a = p + (L.idxOf a + 1) by omega]
      · rw [if_neg hm, if_neg (fun h => (List.mem_cons.1 h).elim hij hm)]
theorem mapPut_key (hk : KeyOK key) {q : Nat} {L : List α} (hq : h q = some (.map (kmap key f L))) {a : α} (ha : a ∉ L) (X : Heap → Prop) : mapPut h (.mapr q) (key a) (.int .i64 (f a)) X = X (h.set q (.map (kmap key f (L ++ [a])))) := by
  unfold mapPut mapPutR putM
  simp only [hq, findM_key hk]
  rw [if_neg ha]
  simp [kmap]
end
def kS (s : ByteArray) : AVal := .str s
theorem kS_ok : KeyOK kS := fun a b => by
  have e : keyEq (.str a) (.str b) = some (strEq a b) := rfl
  show keyEq (.str a) (.str b) = _
  rw [e, strEq_dec]
theorem putS {q : Nat} {L : List ByteArray} {f : ByteArray → Int} (hq : h q = some (.map (kmap kS f L))) {a : ByteArray} (ha : a ∉ L) (X : Heap → Prop) : mapPut h (.mapr q) (.str a) (.int .i64 (f a)) X = X (h.set q (.map (kmap kS f (L ++ [a])))) := mapPut_key kS_ok hq ha X
/- ---- what names stand for ---- -/
structure Hy where
  s : ByteArray
  f : Int
def hyC (x : Hy) : List AVal := [.str x.s, .int .i64 x.f]
def hyV (x : Hy) : AVal := .agg (hyC x)
def Hyps (v : AVal) (hs : List Hy) : Prop := SlOf 2 v (hs.map hyV)
theorem Hyps.len {v : AVal} {hs : List Hy} (H : Hyps v hs) (X : Int → Prop) : lenN v X = X hs.length := by rw [lenN_of H]; simp
theorem Hyps.ix {v : AVal} {hs : List Hy} (H : Hyps v hs) {i : Nat} (hi : i < hs.length) (X : AVal → Prop) : ixS 2 v (i : Int) X = X (.lptr (hyC hs[i])) := by
  rw [ixS_of H (e := hyV hs[i]) (by omega) (by simp [hi])]
  rfl
def byN (hs : List Hy) (s : ByteArray) : Option Int := (hs.find? fun x => strEq x.s s).map fun x => x.f
def nmS (hs : List Hy) : List ByteArray := hs.map fun x => x.s
def byF (hs : List Hy) (s : ByteArray) : Int := (byN hs s).getD 0
structure HyOK (n : Nat) (hs : List Hy) : Prop where
  el : ∀ x ∈ hs, inE n x.f = true
  nd : (nmS hs).Nodup
theorem HyOK.mono {n : Nat} {a b : List Hy} (W : HyOK n (a ++ b)) : HyOK n a :=
  ⟨fun x hx => W.el x (List.mem_append_left _ hx), by have := W.nd; unfold nmS at this ⊢; rw [List.map_append] at this; exact (List.nodup_append.1 this).1⟩
theorem HyOK.snoc {n : Nat} {a : List Hy} {x : Hy} : HyOK n (a ++ [x]) ↔ HyOK n a ∧ inE n x.f = true ∧ x.s ∉ nmS a := by
  constructor
  · intro W
    refine ⟨W.mono, W.el x (by simp), fun hm => ?_⟩
    have := W.nd
    unfold nmS at this
    rw [List.map_append, List.nodup_append] at this
    exact this.2.2 _ hm _ (by simp) rfl
  · rintro ⟨W, h1, h2⟩
    refine ⟨fun y hy => ?_, ?_⟩
    · rcases List.mem_append.1 hy with h | h
      · exact W.el y h
      · rw [List.mem_singleton.1 h]; exact h1
    · unfold nmS
      rw [List.map_append, List.nodup_append]
      refine ⟨W.nd, by simp, fun a ha b hb => ?_⟩
      simp only [List.map_cons, List.map_nil, List.mem_singleton] at hb
      subst hb
      exact fun e => h2 (e ▸ ha)
/- ---- a formula's element ---- -/
section
variable (n : Nat) (r : Nat → Nat → Bool) (hs : List Hy) (xs : List Nd)
def valF : Nat → Nat → Nat
  | 0, _ => 0
  | d + 1, j => match xs[j]? with
    | none => 0
    | some x => if x.k = 1 then (byF hs x.s).toNat else if x.k = 2 then lowP n r else
      if x.k = 3 then mt n r (valF d x.l.toNat) (valF d x.r.toNat) else if x.k = 4 then jn n r (valF d x.l.toNat) (valF d x.r.toNat) else im n r (valF d x.l.toNat) (valF d x.r.toNat)
def val (j : Nat) : Nat := valF n r hs xs (j + 1) j
end
section
variable {n : Nat} {r : Nat → Nat → Bool} {hs : List Hy} {xs : List Nd}
variable (G : GoodT xs) {j : Nat} {x : Nd} (hx : xs[j]? = some x)
include hx
include G
end
section
variable {L : List (List Bool)} {hs : List Hy} {xs : List Nd} {id : Int}
end
end Go.Proofs.YtljglglbfcgjpaaGreat

namespace Go.Proofs.YtljglglbfcgjpaaGreat
open Go Go.Proofs Go.Shelf
def layS_ren : Ren := ⟨fun | 190 => 31 | 125 => 67 | 258 => 66 | 128 => 113 | 129 => 114 | 302 => 104 | 303 => 105 | 304 => 106 | 305 => 107 | 306 => 108 | 307 => 109 | 308 => 110 | 309 => 111 | 310 => 112 | 333 => 133 | 329 => 134 | 330 => 135 | 334 => 136 | 335 => 137 | 336 => 138 | 344 => 156 | n => n, fun | 31 => 91 | 9 => 9 | 3 => 3 | 46 => 89 | 0 => 0 | 51 => 187 | 53 => 88 | 4 => 4 | 183 => 180 | 182 => 179 | 131 => 105 | 5 => 5 | 218 => 205 | 222 => 209 | 228 => 219 | 229 => 62 | n => n, fun n => n⟩
set_option maxRecDepth 100000 in
theorem layS : Lays.n190 Tryz.prog layS_ren := {
  mixed := by kernel_rfl,
  f125 := Tryz.func67.trans (congrArg some (by kernel_rfl)),
  f128 := Tryz.func113.trans (congrArg some (by kernel_rfl)),
  f129 := Tryz.func114.trans (congrArg some (by kernel_rfl)),
  f190 := Tryz.func31.trans (congrArg some (by kernel_rfl)),
  f258 := Tryz.func66.trans (congrArg some (by kernel_rfl)),
  f302 := Tryz.func104.trans (congrArg some (by kernel_rfl)),
  f303 := Tryz.func105.trans (congrArg some (by kernel_rfl)),
  f304 := Tryz.func106.trans (congrArg some (by kernel_rfl)),
  f305 := Tryz.func107.trans (congrArg some (by kernel_rfl)),
  f306 := Tryz.func108.trans (congrArg some (by kernel_rfl)),
  f307 := Tryz.func109.trans (congrArg some (by kernel_rfl)),
  f308 := Tryz.func110.trans (congrArg some (by kernel_rfl)),
  f309 := Tryz.func111.trans (congrArg some (by kernel_rfl)),
  f310 := Tryz.func112.trans (congrArg some (by kernel_rfl)),
  f329 := Tryz.func134.trans (congrArg some (by kernel_rfl)),
  f330 := Tryz.func135.trans (congrArg some (by kernel_rfl)),
  f333 := Tryz.func133.trans (congrArg some (by kernel_rfl)),
  f334 := Tryz.func136.trans (congrArg some (by kernel_rfl)),
  f335 := Tryz.func137.trans (congrArg some (by kernel_rfl)),
  f336 := Tryz.func138.trans (congrArg some (by kernel_rfl)),
  f344 := Tryz.func156.trans (congrArg some (by kernel_rfl)),
  t0 := Tryz.underlying0,
  a0 := Tryz.isAgg0,
  z0 := Tryz.sizeOf0,
  v0 := Tryz.zeroValue0,
  t3 := Tryz.underlying3,
  a3 := Tryz.isAgg3,
  z3 := Tryz.sizeOf3,
  v3 := Tryz.zeroValue3,
  t4 := Tryz.underlying4,
  a4 := Tryz.isAgg4,
  z4 := Tryz.sizeOf4,
  v4 := Tryz.zeroValue4,
  t5 := Tryz.underlying5,
  a5 := Tryz.isAgg5,
  z5 := Tryz.sizeOf5,
  v5 := Tryz.zeroValue5,
  t9 := Tryz.underlying9,
  a9 := Tryz.isAgg9,
  z9 := Tryz.sizeOf9,
  v9 := Tryz.zeroValue9,
  t31 := Tryz.underlying91,
  a31 := Tryz.isAgg91,
  z31 := Tryz.sizeOf91,
  v31 := Tryz.zeroValue91,
  t46 := Tryz.underlying89,
  a46 := Tryz.isAgg89,
  z46 := Tryz.sizeOf89,
  v46 := Tryz.zeroValue89,
  t51 := Tryz.underlying187,
  a51 := Tryz.isAgg187,
  z51 := Tryz.sizeOf187,
  v51 := Tryz.zeroValue187,
  t53 := Tryz.underlying88,
  a53 := Tryz.isAgg88,
  z53 := Tryz.sizeOf88,
  v53 := Tryz.zeroValue88,
  t131 := Tryz.underlying105,
  a131 := Tryz.isAgg105,
  z131 := Tryz.sizeOf105,
  v131 := Tryz.zeroValue105,
  t182 := Tryz.underlying179,
  a182 := Tryz.isAgg179,
  z182 := Tryz.sizeOf179,
  v182 := Tryz.zeroValue179,
  t183 := Tryz.underlying180,
  a183 := Tryz.isAgg180,
  z183 := Tryz.sizeOf180,
  v183 := Tryz.zeroValue180,
  t218 := Tryz.underlying205,
  a218 := Tryz.isAgg205,
  z218 := Tryz.sizeOf205,
  v218 := Tryz.zeroValue205,
  t222 := Tryz.underlying209,
  a222 := Tryz.isAgg209,
  z222 := Tryz.sizeOf209,
  v222 := Tryz.zeroValue209,
  t228 := Tryz.underlying219,
  a228 := Tryz.isAgg219,
  z228 := Tryz.sizeOf219,
  v228 := Tryz.zeroValue219,
  t229 := Tryz.underlying62,
  a229 := Tryz.isAgg62,
  z229 := Tryz.sizeOf62,
  v229 := Tryz.zeroValue62 }
end Go.Proofs.YtljglglbfcgjpaaGreat

namespace Go.Proofs.YtljglglbfcgjpaaGreat
open Go Go.Sym Go.Proofs.Tryz
variable {K : AVal → Heap → Prop} {h h0 hb : Heap}
theorem rg_bt0 {s : ByteArray} {i : Int} {X : Prop} (h : X) : rg (btA s i) X := by
  have := btA_range s i
  exact rg_of (by omega) (by omega) h
theorem rg_bt {s : ByteArray} {i : Int} {X : Prop} (h : X) : rg (0 + btA s i) X := by
  have := btA_range s i
  exact rg_of (by omega) (by omega) h
set_option maxRecDepth 100000 in
theorem sortNil_ok (hk : K (.tuple []) h) : ACalls prog 31 [.nilsl] h K := by
  refine s31_ok ?_
  unfold s31
  show callG prog _ [.int .u64 (IntKind.u64.wrap 0)] h _
  refine callG_of (s67_ok ?_)
  unfold s67
  refine callG_of (s114_ok ?_)
  unfold s114
  refine ifT_neg (by decide) ?_
  unfold s114c1
  refine ifT_neg (by decide) ?_
  unfold s114c2
  refine ifT_neg (by decide) ?_
  unfold s114c3
  refine ⟨⟨by decide, by decide +kernel⟩, ?_⟩
  refine rg_bt0 (rg_bt (retG_of ?_))
  rw [tInt_int]
  refine retG_of ?_
  rw [tInt_int]
  refine callG_of (s66_ok ?_)
  unfold s66
  refine s66l1_in 1 ?_
  unfold s66l1
  refine rg_of (by decide) (by decide) (ifT_pos (by decide) (callG_of (s104_ok ?_)))
  unfold s104
  refine rg_of (by decide) (by decide) (s104l1_in 1 ?_)
  unfold s104l1
  exact ifT_neg (by decide) (retG_of (retG_of (retG_of hk)))
theorem sortS_perm (l : List ByteArray) : (sortS l).Perm l := by
  unfold sortS
  have h1 := (List.mergeSort_perm (l.map bsL) fun x y => decide (x ≤ y)).map fun b : List UInt8 => (⟨b.toArray⟩ : ByteArray)
  refine h1.trans ?_
  rw [List.map_map]
  have : ((fun b : List UInt8 => (⟨b.toArray⟩ : ByteArray)) ∘ bsL) = id := by
    funext s
    cases s
    simp [bsL]
  rw [this, List.map_id]
end Go.Proofs.YtljglglbfcgjpaaGreat

namespace Go.Proofs.YtljglglbfcgjpaaGreat
open Go Go.Sym Go.Proofs.Tryz
variable {K : AVal → Heap → Prop} {h h0 hb : Heap} {up : List (List Int)} {val : List (List ByteArray)} {mU mV : AVal}
/- ---- a map from names to slices ---- -/
abbrev Ent := ByteArray × AVal × List Nat
def eM (E : List Ent) : List (AVal × AVal) := E.map fun e => (.str e.1, e.2.1)
def eO (E : List Ent) : List Ow := E.map fun e => .slc 1 e.2.1 ((natI e.2.2).map (.int .i64))
def eN (E : List Ent) : List ByteArray := E.map fun e => e.1
def eP (E : List Ent) : List (ByteArray × List Nat) := E.map fun e => (e.1, e.2.2)
theorem eN_eP (E : List Ent) : eN E = (eP E).map fun e => e.1 := by unfold eN eP; rw [List.map_map]; rfl
theorem keyEq_str (a b : ByteArray) : keyEq (.str a) (.str b) = some (decide (a = b)) := kS_ok a b
theorem findE_out {s : ByteArray} : ∀ (E : List Ent) (p : Nat), s ∉ eN E → findM (.str s) (eM E) p = some none
  | [], p, _ => rfl
  | e :: E, p, hs => by
    have h2 : s ≠ e.1 ∧ s ∉ eN E := by simpa [eN] using hs
    show findM (.str s) ((.str e.1, e.2.1) :: eM E) p = _
    unfold findM
    rw [keyEq_str, decide_eq_false h2.1]
    exact findE_out E (p + 1) h2.2
theorem findE_in {s : ByteArray} : ∀ (E : List Ent), s ∈ eN E → ∃ (j : Nat) (e : Ent), E[j]? = some e ∧ e.1 = s ∧ ∀ p, findM (.str s) (eM E) p = some (some (p + j, e.2.1))
  | [], hs => by simp [eN] at hs
  | e :: E, hs => by
    by_cases h2 : s = e.1
    · subst h2
      refine ⟨0, e, rfl, rfl, fun p => ?_⟩
      show findM (.str e.1) ((.str e.1, e.2.1) :: eM E) p = _
      unfold findM
      rw [keyEq_str, decide_eq_true rfl]
      rfl
    · obtain ⟨j, e', h3, h4, h5⟩ := findE_in E (by simpa [eN, h2] using hs)
      refine ⟨j + 1, e', by simpa using h3, h4, fun p => ?_⟩
      show findM (.str s) ((.str e.1, e.2.1) :: eM E) p = _
      unfold findM
      rw [keyEq_str, decide_eq_false h2]
      simp only
      rw [h5 (p + 1), show p + 1 + j = p + (j + 1) by omega]
/- ---- which name was met where ---- -/
def Occ (val : List (List ByteArray)) (w k u : Nat) (s : ByteArray) : Prop := (u < w ∧ s ∈ val.getD u []) ∨ (u = w ∧ s ∈ (val.getD w []).take k)
def cB (w k : Nat) : Nat := w * 1048576 + k
theorem cB_row {w k : Nat} (h : k ≤ 1048576) : cB w k ≤ cB (w + 1) 0 := by unfold cB; omega
theorem cB_next (w k : Nat) : cB w k + 1 = cB w (k + 1) := by unfold cB; omega
structure EI (val : List (List ByteArray)) (w k : Nat) (P : List (ByteArray × List Nat)) : Prop where
  nd : (P.map fun e => e.1).Nodup
  all : ∀ u s, Occ val w k u s → s ∈ P.map fun e => e.1
  mem : ∀ e ∈ P, ∀ u, u ∈ e.2 ↔ Occ val w k u e.1
  inc : ∀ e ∈ P, e.2.Pairwise (· < ·)
  occ : ∀ e ∈ P, ∃ u, Occ val w k u e.1
  cnt : P.length ≤ cB w k
theorem EI.len {w k : Nat} {P : List (ByteArray × List Nat)} (I : EI val w k P) {e : ByteArray × List Nat} (he : e ∈ P) : e.2.length ≤ w + 1 :=
  inc_len (a := 0) (n := w + 1) (I.inc e he) fun u hu => ⟨Nat.zero_le _, by rcases (I.mem e he u).1 hu with h | h <;> omega⟩
theorem EI.start : EI val 0 0 [] where
  nd := .nil
  all u s h := by rcases h with h | h <;> simp at h
  mem e he := by simp at he
  inc e he := by simp at he
  occ e he := by simp at he
  cnt := by simp
theorem Occ.row {w u : Nat} {s : ByteArray} : Occ val (w + 1) 0 u s ↔ Occ val w (val.getD w []).length u s := by
  unfold Occ
  rw [List.take_length]
  constructor
  · rintro (⟨h1, h2⟩ | ⟨_, h2⟩)
    · by_cases e : u = w
      · subst e; exact .inr ⟨rfl, h2⟩
      · exact .inl ⟨by omega, h2⟩
    · simp at h2
  · rintro (⟨h1, h2⟩ | ⟨rfl, h2⟩)
    · exact .inl ⟨by omega, h2⟩
    · exact .inl ⟨by omega, h2⟩
theorem EI.row {w : Nat} {P : List (ByteArray × List Nat)} (hs : (val.getD w []).length ≤ 1048576) (I : EI val w (val.getD w []).length P) : EI val (w + 1) 0 P where
  nd := I.nd
  all u s h := I.all u s (Occ.row.1 h)
  mem e he u := (I.mem e he u).trans Occ.row.symm
  inc := I.inc
  occ e he := let ⟨u, hu⟩ := I.occ e he; ⟨u, Occ.row.2 hu⟩
  cnt := Nat.le_trans I.cnt (cB_row hs)
theorem Occ.next {w k u : Nat} {s : ByteArray} (hk : k < (val.getD w []).length) : Occ val w (k + 1) u s ↔ Occ val w k u s ∨ (u = w ∧ s = (val.getD w [])[k]) := by
  unfold Occ
  rw [List.take_succ_eq_append_getElem hk, List.mem_append, List.mem_singleton]
  constructor
  · rintro (h | ⟨rfl, h | h⟩)
    · exact .inl (.inl h)
    · exact .inl (.inr ⟨rfl, h⟩)
    · exact .inr ⟨rfl, h⟩
  · rintro ((h | ⟨rfl, h⟩) | ⟨rfl, h⟩)
    · exact .inl h
    · exact .inr ⟨rfl, .inl h⟩
    · exact .inr ⟨rfl, .inr h⟩
theorem EI.put_new {w k : Nat} {P : List (ByteArray × List Nat)} (I : EI val w k P) (hk : k < (val.getD w []).length) (hs : (val.getD w [])[k] ∉ P.map fun e => e.1) : EI val w (k + 1) (P ++ [((val.getD w [])[k], [w])]) where
  nd := by
    rw [List.map_append, List.nodup_append]
    refine ⟨I.nd, by simp, fun a ha b hb => ?_⟩
    simp only [List.map_cons, List.map_nil, List.mem_singleton] at hb
    subst hb
    exact fun e => hs (e ▸ ha)
  all u s h := by
    rw [List.map_append, List.mem_append]
    rcases (Occ.next hk).1 h with h | ⟨_, h⟩
    · exact .inl (I.all u s h)
    · exact .inr (by simp [h])
  mem e he u := by
    rw [Occ.next hk]
    rcases List.mem_append.1 he with h | h
    · rw [I.mem e h u]
      refine ⟨.inl, fun h2 => h2.resolve_right fun h3 => hs ?_⟩
      rw [← h3.2]
      exact List.mem_map.2 ⟨e, h, rfl⟩
    · rw [List.mem_singleton.1 h]
      simp only [List.mem_singleton]
      refine ⟨fun e => .inr ⟨e, trivial⟩, fun h2 => ?_⟩
      rcases h2 with h2 | h2
      · exact absurd (I.all _ _ h2) hs
      · exact h2.1
  inc e he := by
    rcases List.mem_append.1 he with h | h
    · exact I.inc e h
    · rw [List.mem_singleton.1 h]; exact List.pairwise_singleton _ _
  occ e he := by
    rcases List.mem_append.1 he with h | h
    · obtain ⟨u, hu⟩ := I.occ e h
      exact ⟨u, (Occ.next hk).2 (.inl hu)⟩
    · rw [List.mem_singleton.1 h]
      exact ⟨w, (Occ.next hk).2 (.inr ⟨rfl, rfl⟩)⟩
  cnt := by have := I.cnt; have := cB_next w k; simp only [List.length_append, List.length_singleton]; omega
theorem EI.put_old {w k j : Nat} {P : List (ByteArray × List Nat)} {l : List Nat} (I : EI val w k P) (hk : k < (val.getD w []).length) (hf : (val.getD w []).Nodup) (hj : P[j]? = some ((val.getD w [])[k], l)) : EI val w (k + 1) (P.set j ((val.getD w [])[k], l ++ [w])) := by
  have hjl := (List.getElem?_eq_some_iff.1 hj).1
  have hmem : ((val.getD w [])[k], l) ∈ P := List.mem_of_getElem? hj
  have names : (P.set j ((val.getD w [])[k], l ++ [w])).map (fun e => e.1) = P.map fun e => e.1 := by
    rw [List.map_set]
    apply List.ext_getElem?
    intro i
    rw [List.getElem?_set]
    split
    · rename_i e
      subst e
      rw [if_pos (by simpa using hjl), List.getElem?_map, hj]
      rfl
    · rfl
  have notin : w ∉ l := fun hw => by
    have := (I.mem _ hmem w).1 hw
    rcases this with h | ⟨_, h⟩
    · omega
    · obtain ⟨i, hi, e⟩ := List.mem_take_iff_getElem.1 h
      have := List.pairwise_iff_getElem.1 hf i k (by omega) hk (by omega)
      exact this e
  have cases' : ∀ e ∈ P.set j ((val.getD w [])[k], l ++ [w]), (e ∈ P ∧ e.1 ≠ (val.getD w [])[k]) ∨ e = ((val.getD w [])[k], l ++ [w]) := fun e he => by
    obtain ⟨i, hi⟩ := List.getElem?_of_mem he
    rw [List.getElem?_set] at hi
    split at hi
    · rename_i e1
      exact .inr (Option.some.inj hi).symm
    · rename_i e1
      refine .inl ⟨List.mem_of_getElem? hi, fun e2 => ?_⟩
      have h1 := (List.getElem?_eq_some_iff.1 hi)
      have h2 := (List.getElem?_eq_some_iff.1 hj)
      have nd := List.pairwise_iff_getElem.1 I.nd
      rcases Nat.lt_or_gt_of_ne e1 with h | h
      · refine nd j i (by simpa using h2.1) (by simpa using h1.1) h ?_
        simp only [List.getElem_map, h1.2, h2.2, e2]
      · refine nd i j (by simpa using h1.1) (by simpa using h2.1) h ?_
        simp only [List.getElem_map, h1.2, h2.2, e2]
  refine ⟨by rw [names]; exact I.nd, fun u s h => ?_, fun e he u => ?_, fun e he => ?_, fun e he => ?_, by have := I.cnt; have := cB_next w k; rw [List.length_set]; omega⟩
  · rw [names]
    rcases (Occ.next hk).1 h with h | ⟨_, h⟩
    · exact I.all u s h
    · rw [h]; exact List.mem_map.2 ⟨_, hmem, rfl⟩
  · rw [Occ.next hk]
    rcases cases' e he with ⟨h1, h2⟩ | rfl
    · rw [I.mem e h1 u]
      exact ⟨.inl, fun h3 => h3.resolve_right fun h4 => h2 h4.2⟩
    · rw [List.mem_append, List.mem_singleton, I.mem _ hmem u]
      simp
  · rcases cases' e he with ⟨h1, _⟩ | rfl
    · exact I.inc e h1
    · rw [List.pairwise_append]
      refine ⟨I.inc _ hmem, List.pairwise_singleton _ _, fun a ha b hb => ?_⟩
      rw [List.mem_singleton.1 hb]
      have := (I.mem _ hmem a).1 ha
      rcases this with h | ⟨h, _⟩
      · exact h.1
      · exact absurd (h ▸ ha) notin
  · rcases cases' e he with ⟨h1, _⟩ | rfl
    · obtain ⟨u, hu⟩ := I.occ e h1
      exact ⟨u, (Occ.next hk).2 (.inl hu)⟩
    · exact ⟨w, (Occ.next hk).2 (.inr ⟨rfl, rfl⟩)⟩
theorem mapPut_mapA {h : Heap} {q : Nat} {l l' : List (AVal × AVal)} {k v : AVal} (hq : h q = some (.map l)) (hl : putM k v l = some l') (X : Heap → Prop) : mapPut h (.mapr q) k v X = X (h.set q (.map l')) := by
  unfold mapPut mapPutR
  simp only [hq, hl]
/- ---- the walk ---- -/
abbrev ES (h0 : Heap) (q : Nat) (E : List Ent) (h : Heap) : Prop := Own h0 ([.cell q (.map (eM E))] ++ eO E) h
theorem atomsH_l2 {q w : Nat} {l_ tv : AVal} {L1 : s10l1_T} {e : AVal} {n : Int} (hw : w < 1048576) (hsz : (val.getD w []).length ≤ 1048576) (hf : (val.getD w []).Nodup) (he : Strs e (val.getD w []))
    (next : ∀ E h, EI val w (val.getD w []).length (eP E) → ES h0 q E h → L1 (.lptr [mU, mV]) l_ (.mapr q) tv n ((w : Int) + 1) h) :
    ∀ (d k : Nat) (E : List Ent) (h : Heap), k + d = (val.getD w []).length → EI val w k (eP E) → ES h0 q E h →
      s10l2 K L1 (d + 1) (.lptr [mU, mV]) l_ (.mapr q) (w : Int) tv n (w : Int) e ((val.getD w []).length : Int) (k : Int) h
  | 0, k, E, h, hd, I, W => by
    obtain rfl : k = (val.getD w []).length := by omega
    unfold s10l2
    exact ifT_neg (by simp) (rg_of (by omega) (by omega) (next E h I W))
  | d + 1, k, E, h, hd, I, W => by
    have hk : k < (val.getD w []).length := by omega
    have hlenP : (eP E).length = E.length := by simp [eP]
    have hcnt := I.cnt
    unfold s10l2
    refine ifT_pos (decide_eq_true (by omega)) ?_
    rw [he.ix hk, ld1_lptr, tStr_str]
    have hq := W.get 0 _ q rfl rfl
    unfold mapGet mapGetR entsA
    simp only [hq, Ow.obj]
    by_cases hs : (val.getD w [])[k] ∈ eN E
    · obtain ⟨j, en, hj, hen, hfind⟩ := findE_in E hs
      rw [hfind 0]
      simp only
      have hjl := (List.getElem?_eq_some_iff.1 hj).1
      have hPj : (eP E)[j]? = some ((val.getD w [])[k], en.2.2) := by
        unfold eP
        rw [List.getElem?_map, hj]
        simp [hen]
      have hle : en.2.2.length ≤ w + 1 := I.len (List.mem_of_getElem? hPj)
      have hos : ([Ow.cell q (.map (eM E))] ++ eO E)[j + 1]? = some (.slc 1 en.2.1 ((natI en.2.2).map (.int .i64))) := by
        show (eO E)[j]? = _
        unfold eO
        rw [List.getElem?_map, hj]
        rfl
      have hl2 : ((natI en.2.2).map (AVal.int .i64)).length ≤ w + 1 := by rw [List.length_map]; unfold natI; rw [List.length_map]; exact hle
      refine W.app hos ?_ ?_ fun v' h' W2 => ?_
      · omega
      · omega
      have e2 : ([Ow.cell q (.map (eM E))] ++ eO E).set (j + 1) (.slc 1 v' ((natI en.2.2).map (.int .i64) ++ [.int .i64 (w : Int)])) = [Ow.cell q (.map (eM E))] ++ eO (E.set j ((val.getD w [])[k], v', en.2.2 ++ [w])) := by
        show Ow.cell q (.map (eM E)) :: (eO E).set j _ = _
        unfold eO
        rw [List.map_set]
        simp [natI]
      rw [e2] at W2
      have hq2 := W2.get 0 _ q rfl rfl
      have hput : mapPut h' (.mapr q) (.str (val.getD w [])[k]) v' = fun X => X (h'.set q (.map (eM (E.set j ((val.getD w [])[k], v', en.2.2 ++ [w]))))) := by
        funext X
        refine mapPut_mapA hq2 ?_ X
        unfold putM
        rw [hfind 0]
        simp only [Nat.zero_add]
        unfold eM
        rw [List.map_set]
      rw [hput]
      have W3 : ES h0 q (E.set j ((val.getD w [])[k], v', en.2.2 ++ [w])) _ := W2.put (i := 0) rfl _
      refine rg_of (by omega) (by omega) (s10l2_go (atomsH_l2 hw hsz hf he next d (k + 1) _ _ (by omega) ?_ W3))
      have := I.put_old hk hf hPj
      have e3 : eP (E.set j ((val.getD w [])[k], v', en.2.2 ++ [w])) = (eP E).set j ((val.getD w [])[k], en.2.2 ++ [w]) := by unfold eP; rw [List.map_set]
      rw [e3]
      exact this
    · rw [findE_out E 0 hs]
      simp only
      have Wn := W.newN 1
      have hos : ([Ow.cell q (.map (eM E))] ++ eO E ++ [Ow.slc 1 .nilsl []])[([Ow.cell q (.map (eM E))] ++ eO E).length]? = some (.slc 1 .nilsl []) := by simp
      refine Wn.app hos (by simp) (by simp) fun v' h' W2 => ?_
      have e2 : ([Ow.cell q (.map (eM E))] ++ eO E ++ [Ow.slc 1 .nilsl []]).set ([Ow.cell q (.map (eM E))] ++ eO E).length (.slc 1 v' ([] ++ [.int .i64 (w : Int)])) = [Ow.cell q (.map (eM E))] ++ eO (E ++ [((val.getD w [])[k], v', [w])]) := by
        rw [List.set_append_right _ _ (Nat.le_refl _), Nat.sub_self]
        unfold eO
        simp [natI]
      rw [e2] at W2
      have hq2 := W2.get 0 _ q rfl rfl
      have hput : mapPut h' (.mapr q) (.str (val.getD w [])[k]) v' = fun X => X (h'.set q (.map (eM (E ++ [((val.getD w [])[k], v', [w])])))) := by
        funext X
        refine mapPut_mapA hq2 ?_ X
        unfold putM
        rw [findE_out E 0 hs]
        simp [eM]
      rw [hput]
      have W3 : ES h0 q (E ++ [((val.getD w [])[k], v', [w])]) _ := W2.put (i := 0) rfl _
      refine rg_of (by omega) (by omega) (s10l2_go (atomsH_l2 hw hsz hf he next d (k + 1) _ _ (by omega) ?_ W3))
      have := I.put_new hk (by rw [← eN_eP]; exact hs)
      have e3 : eP (E ++ [((val.getD w [])[k], v', [w])]) = eP E ++ [((val.getD w [])[k], [w])] := by unfold eP; simp
      rw [e3]
      exact this
end Go.Proofs.YtljglglbfcgjpaaGreat

namespace Go.Proofs.YtljglglbfcgjpaaGreat
open Go Go.Sym Go.Proofs.Tryz
variable {K : AVal → Heap → Prop} {h h0 hb : Heap} {up : List (List Int)} {val : List (List ByteArray)} {mU mV : AVal}
/- ---- the slices become plain data ---- -/
theorem litE {S : Nat → Prop} : ∀ E : List Ent, (∀ e ∈ E, ∃ v', Go.Sym.Lit h S e.2.1 v' ∧ Ints v' (natI e.2.2)) → ∃ E' : List Ent, eP E' = eP E ∧ (∀ e ∈ E', Ints e.2.1 (natI e.2.2)) ∧ LitEs h S (eM E) (eM E')
  | [], _ => ⟨[], rfl, fun e he => by simp at he, .nil⟩
  | e :: E, H => by
    obtain ⟨v', h1, h2⟩ := H e (List.mem_cons_self ..)
    obtain ⟨E', h3, h4, h5⟩ := litE E fun x hx => H x (List.mem_cons_of_mem _ hx)
    refine ⟨(e.1, v', e.2.2) :: E', ?_, fun x hx => ?_, .cons h1 h5⟩
    · show (e.1, e.2.2) :: eP E' = (e.1, e.2.2) :: eP E
      rw [h3]
    · rcases List.mem_cons.1 hx with rfl | hx
      · exact h2
      · exact h4 x hx
theorem freezeE {q : Nat} {E : List Ent} (W : ES h0 q E h) : ∃ S h' E', eP E' = eP E ∧ (∀ e ∈ E', Ints e.2.1 (natI e.2.2)) ∧ Go.Sym.GStep h h' S ∧ Own h0 [.cell q (.map (eM E'))] h' := by
  have at' : ∀ (i : Nat) (e : Ent), E[i]? = some e → ([Ow.cell q (.map (eM E))] ++ eO E)[i + 1]? = some (.slc 1 e.2.1 ((natI e.2.2).map (.int .i64))) := fun i e he => by
    show (eO E)[i]? = _
    unfold eO
    rw [List.getElem?_map, he]
    rfl
  let S : Nat → Prop := fun n => ∃ (i : Nat) (e : Ent), E[i]? = some e ∧ nameOf e.2.1 n
  obtain ⟨E', h1, h2, h3⟩ := litE (h := h) (S := S) E fun e he => by
    obtain ⟨i, hi⟩ := List.getElem?_of_mem he
    obtain ⟨v', lv, sv⟩ := W.lit (at' i e hi) (S := S) (fun n hn => ⟨i, e, hi, hn⟩) (Lits.refl _)
    exact ⟨v', lv, sv⟩
  obtain ⟨h', g, W'⟩ := W.step S [.cell q (.map (eM E'))] (fun n ⟨i, e, hi, hn⟩ => W.new _ _ n (at' i e hi) hn) (fun j y hj => by
    cases j with
    | zero =>
      cases hj
      refine ⟨_, rfl, trivial, fun n hn => ⟨hn, fun ⟨i, e, hi, hn2⟩ => ?_⟩, .map h3⟩
      have := W.one 0 (i + 1) _ _ n rfl (at' i e hi) hn hn2
      omega
    | succ j => simp at hj)
  exact ⟨S, h', E', h1, h2, g, W'⟩
/- ---- the walk ---- -/
theorem atomsH_l1 {q : Nat} {l_ : AVal} (hV : Strss mV val) (S : Small up val) (hfine : ∀ l ∈ val, l.Nodup)
    (final : ∀ E h, EI val val.length 0 (eP E) → (∀ e ∈ E, Ints e.2.1 (natI e.2.2)) → Own h0 [.cell q (.map (eM E))] h → rangeM h (.mapr q) fun v9 h_4 => s10l3_E (s10l3 K) (.lptr [mU, mV]) l_ (.mapr q) .nilsl v9 h_4) :
    ∀ (d w : Nat) (E : List Ent) (h : Heap), w + (d + 1) = val.length → EI val w 0 (eP E) → ES h0 q E h →
      s10l1 K (d + 2) (.lptr [mU, mV]) l_ (.mapr q) mV (val.length : Int) (w : Int) h := by
  intro d
  induction d with
  | zero =>
    intro w E h hd I W
    have hw : w < val.length := by omega
    have hvl := S.vals
    obtain ⟨e, he, hix⟩ := hV.ix hw
    have eg : val.getD w [] = val[w] := getD_val hw
    unfold s10l1
    refine ifT_pos (decide_eq_true (by omega)) ?_
    rw [hix, ld1_lptr, he.len, ← eg]
    rw [← eg] at he
    have hm : val.getD w [] ∈ val := by rw [eg]; exact List.getElem_mem hw
    refine s10l2_in ((val.getD w []).length + 1) (atomsH_l2 (by omega) (S.names _ hm).2 (hfine _ hm) he (fun E h I W => ?_) (val.getD w []).length 0 E h (by omega) I W)
    obtain ⟨Sg, h', E', e1, e2, g, W'⟩ := freezeE W
    refine ⟨Sg, _, h', Lits.refl _, g, rfl, ?_⟩
    show s10l1 K 1 (.lptr [mU, mV]) l_ (.mapr q) mV (val.length : Int) ((w : Int) + 1) h'
    unfold s10l1
    refine ifT_neg (decide_eq_false (by omega)) (final E' h' ?_ e2 W')
    have := I.row (S.names _ hm).2
    rw [e1]
    rwa [show w + 1 = val.length by omega] at this
  | succ d ih =>
    intro w E h hd I W
    have hw : w < val.length := by omega
    have hvl := S.vals
    obtain ⟨e, he, hix⟩ := hV.ix hw
    have eg : val.getD w [] = val[w] := getD_val hw
    unfold s10l1
    refine ifT_pos (decide_eq_true (by omega)) ?_
    rw [hix, ld1_lptr, he.len, ← eg]
    rw [← eg] at he
    have hm : val.getD w [] ∈ val := by rw [eg]; exact List.getElem_mem hw
    refine s10l2_in ((val.getD w []).length + 1) (atomsH_l2 (by omega) (S.names _ hm).2 (hfine _ hm) he (fun E h I W => ?_) (val.getD w []).length 0 E h (by omega) I W)
    exact s10l1_go (ih (w + 1) E h (by omega) (I.row (S.names _ hm).2) W)
theorem idxQ_l1 {V : List (List Bool)} {v : AVal} (hv : SlOf 1 v (strsQ V)) {i : Nat} (hi : i < V.length) (hl : V.length ≤ 1048576) (hk : K (.int .i64 (i : Int)) h) (hnd : ∀ j (hj : j < V.length), j < i → V[j] ≠ V[i]) :
    ∀ d j : Nat, j + d = i → s32l1 K (d + 1) v (bsS V[i]) (V.length : Int) (j : Int) h
  | 0, j, hd => by
    obtain rfl : j = i := by omega
    unfold s32l1
    refine ifT_pos (decide_eq_true (by omega)) ?_
    rw [ixS_nat hv (e := .str (bsS V[j])) (by simp [hi]), show cellsOf (.str (bsS V[j])) = [.str (bsS V[j])] from rfl, ld1_lptr, tStr_str, strEq_dec]
    exact ifT_pos (by simp) (retG_of hk)
  | d + 1, j, hd => by
    have hj : j < V.length := by omega
    unfold s32l1
    refine ifT_pos (decide_eq_true (by omega)) ?_
    rw [ixS_nat hv (e := .str (bsS V[j])) (by simp [hj]), show cellsOf (.str (bsS V[j])) = [.str (bsS V[j])] from rfl, ld1_lptr, tStr_str, strEq_dec]
    refine ifT_neg ?_ (rg_of (by omega) (by omega) (s32l1_go (idxQ_l1 hv hi hl hk hnd d (j + 1) (by omega))))
    exact decide_eq_false fun e => hnd j hj (by omega) (bsS_inj e).symm
theorem idxQ_ok {V : List (List Bool)} {v : AVal} (hv : SlOf 1 v (strsQ V)) {i : Nat} (hi : i < V.length) (hl : V.length ≤ 1048576) (hnd : ∀ j (hj : j < V.length), j < i → V[j] ≠ V[i]) (hk : K (.int .i64 (i : Int)) h) : ACalls prog 32 [v, .str (bsS V[i])] h K := by
  refine s32_ok ?_
  unfold s32
  rw [lenN_of hv, show ((strsQ V).length : Int) = (V.length : Int) by simp]
  exact s32l1_in (i + 1) (idxQ_l1 hv hi hl hk hnd i 0 (by omega))
/- ---- which set a name is ---- -/
def atomS (val : List (List ByteArray)) (n : Nat) (s : ByteArray) : List Bool := (List.range n).map fun u => inS (val.getD u []) s
theorem atomS_len {n : Nat} {s : ByteArray} : (atomS val n s).length = n := by simp [atomS]
theorem atomS_get {n u : Nat} {s : ByteArray} (hu : u < n) : (atomS val n s).getD u false = inS (val.getD u []) s := by
  unfold atomS
  rw [List.getD_eq_getElem?_getD, List.getElem?_map, List.getElem?_range hu]
  rfl
theorem atomS_closed (W : WF up val) (s : ByteArray) : ClosedU up (atomS val up.length s) := by
  refine ⟨atomS_len, fun a b ha hb hr h => ?_⟩
  rw [atomS_get ha] at h
  rw [atomS_get hb]
  by_cases e : a = b
  · rw [← e]; exact h
  · exact inS_iff.2 ((W.cond a b ha hb (rb_iff.1 hr) e).2 s (inS_iff.1 h))
theorem join_atomS {n : Nat} {P : List (ByteArray × List Nat)} (I : EI val n 0 P) {e : ByteArray × List Nat} (he : e ∈ P) : joinS (List.replicate n false) e.2 = atomS val n e.1 := by
  refine ext_getD (by rw [joinS_len, atomS_len, List.length_replicate]) fun i hi => ?_
  rw [joinS_len, List.length_replicate] at hi
  rw [joinS_get _ _ _ (by rw [List.length_replicate]; exact hi), getD_rep, Bool.false_or, atomS_get hi, Bool.eq_iff_iff, decide_eq_true_eq, I.mem e he i, inS_iff]
  unfold Occ
  simp [hi]
def atomHs (val : List (List ByteArray)) (n : Nat) (V : List (List Bool)) (l : List ByteArray) : List Hy := l.map fun s => ⟨s, ((V.idxOf (atomS val n s) : Nat) : Int)⟩
theorem rise_ne {V : List (List Bool)} {n : Nat} (R : Rising n V) {i j : Nat} (hi : i < V.length) (hj : j < V.length) (h : j < i) : V[j] ≠ V[i] := fun e => by
  have := List.pairwise_iff_getElem.1 R j i hj hi h
  rw [e] at this
  have h2 := cmpD_swap V[i] V[i] n
  omega
section
variable {V : List (List Bool)} {vS : AVal} (W : WF up val) (hUp : IsUps up V) (hl : V.length ≤ 64) (hv : SlOf 1 vS (strsQ V)) (hU : Intss mU up)
include W hUp hl hv hU
theorem atomsH_l4 {q : Nat} {E : List Ent} (I : EI val val.length 0 (eP E)) (hE : ∀ e ∈ E, Ints e.2.1 (natI e.2.2)) {vN : AVal} {l : List ByteArray} (hN : Strs vN l) (hin : ∀ s ∈ l, s ∈ eN E) (hll : l.length ≤ 1099511627776) (yes : ∀ v h', Own h0 [.slc 2 v ((atomHs val up.length V l).map hyV)] h' → K (.tuple [v, .int .i64 0]) h') :
    ∀ (d k : Nat) (out : AVal) (h : Heap), k + d = l.length → Own h0 [.cell q (.fmap (eM E)), .slc 2 out ((atomHs val up.length V (l.take k)).map hyV)] h →
      s10l4 K (d + 1) (.lptr [mU, mV]) vS (.mapr q) out vN (l.length : Int) (k : Int) h
  | 0, k, out, h, hd, O => by
    unfold s10l4
    refine ifT_neg (decide_eq_false (by omega)) ?_
    rw [List.take_of_length_le (by omega)] at O
    refine retG_of (yes out h (O.renum _ (fun j => j + 1) (fun j y hj => ?_) (fun j _ k _ e => by omega)))
    cases j with
    | zero => exact hj
    | succ j => simp at hj
  | d + 1, k, out, h, hd, O => by
    have hk : k < l.length := by omega
    have hvu := W.len
    have hmax := W.max
    have hks : l[k] ∈ eN E := hin _ (List.getElem_mem hk)
    obtain ⟨j, en, hj, hen, hfind⟩ := findE_in E hks
    have hmE := List.mem_of_getElem? hj
    have hmP : (en.1, en.2.2) ∈ eP E := List.mem_map.2 ⟨en, hmE, rfl⟩
    have hie := hE en hmE
    have hlen := I.len hmP
    have hjoin := join_atomS I hmP
    simp only at hlen hjoin
    unfold s10l4
    refine ifT_pos (decide_eq_true (by omega)) ?_
    rw [hN.ix hk, ld1_lptr, tStr_str, addOff_lptr, List.drop_zero, ld1_lptr, hU.len]
    have hmg : ∀ (h' : Heap), h' q = some (.fmap (eM E)) → ∀ X : AVal → Bool → Prop, mapGet .nilsl h' (.mapr q) (.str l[k]) X = X en.2.1 true := fun h' hq X => by
      unfold mapGet mapGetR entsA
      simp only [hq, hfind 0]
    rw [hmg h (O.get 0 _ q rfl rfl)]
    refine mkS_own (n := up.length) (by omega) (by omega) fun r hr => ?_
    have O1 := Own.skip O hr (.row 1 (List.replicate up.length (.int .u8 0)))
    refine ⟨by rw [hmg _ (O1.get 0 _ q rfl rfl)], ?_⟩
    have eb : List.replicate up.length (AVal.int .u8 0) = bV (List.replicate up.length false) := by simp [bV]
    rw [eb]
    rw [eb] at O1
    have hb2 := bStr_row (l := List.replicate up.length false) (Heap.set_same h r (.row 1 (bV (List.replicate up.length false))))
    rw [List.length_replicate] at hb2
    rw [hb2]
    refine callG_of (joined_ok (l := List.replicate up.length false) (ws := en.2.2) hie (fun u hu => ?_) (by rw [List.length_replicate]; omega) (by omega) ?_)
    · rw [List.length_replicate]
      have := (I.mem _ hmP u).1 hu
      rcases this with h1 | h1
      · omega
      · simp at h1
    rw [tStr_str, ← hvu, hjoin, hen]
    have hcl := atomS_closed W l[k]
    rw [← hvu] at hcl
    have hm := (hUp.mem _).2 hcl
    have hi := List.idxOf_lt_length_of_mem hm
    have hget : V[V.idxOf (atomS val val.length l[k])] = atomS val val.length l[k] := List.getElem_idxOf hi
    refine callG_of ?_
    have := idxQ_ok (K := fun v26 h_10 => tInt .i64 v26 fun v27 => appC 2 24 h_10 out (.lsl 2 [(.agg [(.str l[k]), (.int .i64 v27)])]) fun v28 h_11 => rg ((k : Int) + 1) (s10l4_G (s10l4 K (d + 1)) (.lptr [mU, mV]) vS (.mapr q) v28 vN (l.length : Int) ((k : Int) + 1) h_11)) hv hi (by omega) (fun a ha hai => rise_ne hUp.rise hi ha hai) ?_ (h := h.set r (.row 1 (bV (List.replicate val.length false))))
    · rw [hget] at this
      exact this
    · rw [tInt_int]
      have hcnt : (atomHs val up.length V (l.take k)).length ≤ k := by unfold atomHs; rw [List.length_map, List.length_take]; omega
      have O1' : Own h0 [.cell q (.fmap (eM E)), .slc 2 out ((atomHs val up.length V (l.take k)).map hyV)] (h.set r (.row 1 (bV (List.replicate val.length false)))) := by rw [hvu]; exact O1
      refine O1'.app (i := 1) rfl (by rw [List.length_map]; omega) (by rw [List.length_map]; omega) fun v' h' O2 => rg_of (by omega) (by omega) (s10l4_go (atomsH_l4 I hE hN hin hll yes d (k + 1) v' h' (by omega) ?_))
      have e1 : l.take (k + 1) = l.take k ++ [l[k]] := List.take_succ_eq_append_getElem hk
      have e2 : (atomHs val up.length V (l.take (k + 1))).map hyV = (atomHs val up.length V (l.take k)).map hyV ++ [.agg [.str l[k], .int .i64 ((V.idxOf (atomS val val.length l[k]) : Nat) : Int)]] := by
        rw [e1]
        unfold atomHs
        rw [List.map_append, List.map_append, hvu]
        rfl
      rw [e2]
      exact O2
end
end Go.Proofs.YtljglglbfcgjpaaGreat

namespace Go.Proofs.YtljglglbfcgjpaaGreat
open Go Go.Sym Go.Proofs.Tryz
variable {K : AVal → Heap → Prop} {h h0 hb : Heap} {up : List (List Int)} {val : List (List ByteArray)} {mU mV : AVal}
theorem extrA {l : List AVal} {i : Nat} {x : AVal} (h : l[i]? = some x) (X : AVal → Prop) : extractA (.tuple l) i X = X x := by
  simp [extractA, h]
theorem pick_perm {α : Type} {i : Nat} {j : α} : ∀ {L : List α}, L[i]? = some j → (j :: L.eraseIdx i).Perm L := by
  induction i with
  | zero =>
    intro L h
    cases L with
    | nil => simp at h
    | cons a L => simp at h; subst h; exact .refl _
  | succ i ih =>
    intro L h
    cases L with
    | nil => simp at h
    | cons a L =>
      simp only [List.getElem?_cons_succ] at h
      simp only [List.eraseIdx_cons_succ]
      exact (List.Perm.swap a j _).trans ((ih h).cons a)
theorem eM_erase (i : Nat) (E : List Ent) : (eM E).eraseIdx i = eM (E.eraseIdx i) := by
  unfold eM
  rw [List.eraseIdx_eq_take_drop_succ, List.eraseIdx_eq_take_drop_succ, List.map_append, List.map_take, List.map_drop]
section
variable {V : List (List Bool)} {vS : AVal} (W : WF up val) (hUp : IsUps up V) (hl : V.length ≤ 64) (hv : SlOf 1 vS (strsQ V)) (hU : Intss mU up)
include W hUp hl hv hU
theorem atomsH_l3 {q qi : Nat} {E : List Ent} (I : EI val val.length 0 (eP E)) (hE : ∀ e ∈ E, Ints e.2.1 (natI e.2.2)) (hcnt : E.length ≤ 1099511627776)
    (yes : ∀ N : List ByteArray, N.Perm (eN E) → ∀ v h', Own h0 [.slc 2 v ((atomHs val up.length V (sortS N)).map hyV)] h' → K (.tuple [v, .int .i64 0]) h') :
    ∀ (d : Nat) (left : List Ent) (acc : List ByteArray) (nm : AVal) (cur : Option (AVal × AVal)) (h : Heap), left.length = d → (acc ++ eN left).Perm (eN E) → (acc = [] → nm = .nilsl) →
      Own h0 [.cell q (.fmap (eM E)), .cell qi (.miter (eM left) cur), .slc 1 nm (acc.map .str)] h → s10l3 K (d + 1) (.lptr [mU, mV]) vS (.mapr q) nm (.iter qi) h
  | 0, left, acc, nm, cur, h, hd, hp, hz, O => by
    obtain rfl := List.length_eq_zero_iff.1 hd
    have hp : acc.Perm (eN E) := by simpa [eN] using hp
    have hlen : acc.length = E.length := by rw [hp.length_eq]; simp [eN]
    unfold s10l3
    unfold nextM
    simp only [O.get 1 _ qi rfl rfl, Ow.obj, eM, List.map_nil]
    rw [extrA rfl, tBool_bool]
    refine ifT_neg rfl ?_
    have hin : ∀ s ∈ sortS acc, s ∈ eN E := fun s hs => hp.mem_iff.1 ((sortS_perm acc).mem_iff.1 hs)
    have hsl : (sortS acc).length = acc.length := (sortS_perm acc).length_eq
    rcases O.fit 2 _ rfl with ⟨rfl, e⟩ | ⟨r, rfl⟩
    · have hacc : acc = [] := List.map_eq_nil_iff.1 e
      subst hacc
      have hs0 : sortS [] = [] := List.length_eq_zero_iff.1 hsl
      refine callG_of (sortNil_ok ?_)
      have O2 : Own h0 [.cell q (.fmap (eM E)), .slc 2 .nilsl ((atomHs val up.length V ((sortS []).take 0)).map hyV)] h := by
        have := (O.renum [.cell q (.fmap (eM E))] (fun j => j) (fun j y hj => by
          cases j with
          | zero => exact hj
          | succ j => simp at hj) (fun j _ k _ e => e)).newN 2
        simpa [atomHs] using this
      exact s10l4_in 1 (atomsH_l4 (mV := mV) W hUp hl hv hU I hE (vN := .nilsl) (l := sortS []) (by rw [hs0]; exact .nil 1) hin (by omega) (yes [] hp) 0 0 .nilsl h (by rw [hs0]; rfl) O2 |> fun h => by rw [hs0] at h; exact h)
    · by_cases hz' : acc.length = 0
      · exact absurd (hz (List.length_eq_zero_iff.1 hz')) (by simp)
      · have hr := O.get 2 _ r rfl rfl
        have hn : (acc.map AVal.str).length = acc.length := List.length_map _
        rw [hn] at hr ⊢
        refine callG_of (sortS_ok (ρ := layS_ren) layS (by kernel_rfl) (by omega) (by omega) hr ?_)
        rw [lenN_sl]
        have O2 := O.putS (i := 2) (r := r) (es := 1) rfl (l' := (sortS acc).map .str) (by rw [List.length_map, List.length_map, hsl])
        rw [hn] at O2
        have O3 : Own h0 ([.cell q (.fmap (eM E))] ++ [.slc 1 (.sl r 1 0 acc.length) ((sortS acc).map .str)]) _ := O2.renum _ (fun j => if j = 0 then 0 else 2) (fun j y hj => by
          match j, hj with
          | 0, hj => exact hj
          | 1, hj => exact hj
          | j + 2, hj => simp at hj) (show ∀ j, j < 2 → ∀ k, k < 2 → _ = _ → j = k by decide)
        obtain ⟨Sg, h', vN, l1, s1, g, O4⟩ := Own.frzL O3
        have O5 : Own h0 [.cell q (.fmap (eM E)), .slc 2 .nilsl ((atomHs val up.length V ((sortS acc).take 0)).map hyV)] h' := by
          have := O4.newN 2
          simpa [atomHs] using this
        refine ⟨Sg, [.lptr [mU, mV], vS, .mapr q, .nilsl, vN, .int .i64 acc.length, .int .i64 0], h', .cons (.refl _) (.cons (.refl _) (.cons (.refl _) (.cons (.refl _) (.cons l1 (Lits.refl _))))), g, rfl, (sortS acc).length + 1, ?_⟩
        have := atomsH_l4 (mV := mV) W hUp hl hv hU I hE (vN := vN) (l := sortS acc) s1 hin (by omega) (yes acc hp) (sortS acc).length 0 .nilsl h' (by omega) O5
        rw [hsl] at this ⊢
        exact this
  | d + 1, left, acc, nm, cur, h, hd, hp, hz, O => by
    have hlen : acc.length + left.length = E.length := by
      have := hp.length_eq
      rw [List.length_append] at this
      simpa [eN] using this
    unfold s10l3
    unfold nextM
    have hq := O.get 1 _ qi rfl rfl
    cases left with
    | nil => simp at hd
    | cons a left =>
      simp only [hq, Ow.obj, eM, List.map_cons]
      intro i kv hkv
      have hkv' : (eM (a :: left))[i]? = some kv := hkv
      unfold eM at hkv'
      rw [List.getElem?_map] at hkv'
      obtain ⟨en, hj, rfl⟩ := Option.map_eq_some_iff.1 hkv'
      have O1 := O.put (i := 1) rfl (.miter (eM ((a :: left).eraseIdx i)) (some (.str en.1, en.2.1)))
      rw [extrA rfl, tBool_bool]
      refine ifT_pos rfl ?_
      have e0 : ((AVal.str a.1, a.2.1) :: left.map fun e => (AVal.str e.1, e.2.1)).eraseIdx i = eM ((a :: left).eraseIdx i) := eM_erase i (a :: left)
      rw [e0]
      unfold entryA
      have hq1 := O1.get 1 _ qi rfl rfl
      simp only [Ow.obj] at hq1
      simp only [hq1]
      rw [extrA rfl, tStr_str]
      refine O1.app (i := 2) rfl (by rw [List.length_map]; simp at hd; omega) (by rw [List.length_map]; simp at hd; omega) fun v2 h2 O2 => s10l3_go ?_
      have e2 : (acc ++ [en.1]).map AVal.str = acc.map .str ++ [.str en.1] := by simp
      refine atomsH_l3 I hE hcnt yes d ((a :: left).eraseIdx i) (acc ++ [en.1]) v2 (some (.str en.1, en.2.1)) h2 ?_ ?_ (fun e => absurd e (by simp)) ?_
      · rw [List.length_eraseIdx, if_pos (List.getElem?_eq_some_iff.1 hj).1]
        simp at hd ⊢
        omega
      · rw [List.append_assoc]
        have := (pick_perm hj).map fun e => e.1
        exact (this.append_left acc).trans hp
      · rw [e2]
        exact O2
end
theorem atomsH_ok (S : Small up val) (hU : Intss mU up) (hV : Strss mV val) (bad : ¬ WF up val → K (.tuple [.nilsl, .int .i64 170]) h) (many : WF up val → Many up → K (.tuple [.nilsl, .int .i64 231]) h)
    (yes : WF up val → ∀ V, IsUps up V → V.length ≤ 64 → ∀ N : List ByteArray, N.Nodup → N.length ≤ 549755813888 → (∀ s, s ∈ N ↔ ∃ u, u < up.length ∧ s ∈ val.getD u []) → ∀ v h', Own h [.slc 2 v ((atomHs val up.length V (sortS N)).map hyV)] h' → K (.tuple [v, .int .i64 0]) h') : ACalls prog 10 [.agg [mU, mV]] h K := by
  refine s10_ok ?_
  unfold s10
  refine callG_of (upsets_ok S hU hV (fun hW => ?_) (fun hW hm => ?_) fun hW V vS hUp hl hv => ?_)
  · rw [tTup_tuple, tCons_cons, tCons_cons, tInt_int, tNil_nil]
    exact ifT_pos rfl (retG_of (bad hW))
  · rw [tTup_tuple, tCons_cons, tCons_cons, tInt_int, tNil_nil]
    exact ifT_pos rfl (retG_of (many hW hm))
  · rw [tTup_tuple, tCons_cons, tCons_cons, tInt_int, tNil_nil]
    refine ifT_neg rfl ?_
    intro q hq _
    rw [hV.len]
    have hpos := hW.pos
    have hlen := hW.len
    obtain ⟨d, hd⟩ : ∃ d, val.length = d + 1 := ⟨val.length - 1, by omega⟩
    refine s10l1_in (d + 2) (atomsH_l1 hV S (fun l hl => fine_nodup (hW.fine l hl)) (fun E h1 I hE O => ?_) d 0 [] _ (by omega) EI.start ((Own.start h).newC hq (.map [])))
    have hmx := hW.max
    have hcnt2 : E.length ≤ 549755813888 := by
      have h1 := I.cnt
      have h2 : (eP E).length = E.length := by simp [eP]
      have h3 : val.length ≤ 512 := by omega
      unfold cB at h1
      have h4 := Nat.mul_le_mul_right 1048576 h3
      omega
    have hcnt : E.length ≤ 1099511627776 := by omega
    unfold rangeM
    simp only [O.get 0 _ q rfl rfl, Ow.obj]
    intro qi hqi _
    have hne : qi ≠ q := fun e => by rw [e, O.get 0 _ q rfl rfl] at hqi; cases hqi
    have O1 := O.put (i := 0) rfl (.fmap (eM E))
    have O2 := (O1.newC (r := qi) (by rw [Heap.set_ne _ _ hne]; exact hqi) (.miter (eM E) none)).newN 1
    refine s10l3_in (E.length + 1) (atomsH_l3 hW hUp hl hv hU I hE hcnt (fun N hp v h' hv' => yes hW V hUp hl N (hp.nodup_iff.2 (by rw [eN_eP]; exact I.nd)) (by rw [hp.length_eq]; unfold eN; rw [List.length_map]; exact hcnt2) (fun s => ?_) v h' hv') E.length E [] .nilsl none _ rfl (.refl _) (fun _ => rfl) O2)
    rw [hp.mem_iff, eN_eP]
    constructor
    · intro hs
      obtain ⟨e, he, rfl⟩ := List.mem_map.1 hs
      obtain ⟨u, hu⟩ := I.occ e he
      rcases hu with h2 | h2
      · exact ⟨u, by omega, h2.2⟩
      · simp at h2
    · rintro ⟨u, hu, hs⟩
      exact I.all u s (.inl ⟨by omega, hs⟩)
end Go.Proofs.YtljglglbfcgjpaaGreat

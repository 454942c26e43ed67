/- Contracts: lists of names and of numbers, the same models. No condition. Contracts: what a name is. No condition. Words and small laws for contracts: sizes of models, owned rows. No condition. Words for contracts: nodes of a table of formulas, and memory that is read as a list of them. No condition. Contracts: tables of formulas that are read (the program's and the document's). No condition. Contracts: a table of formulas is owned: a row is put in (the program's and the document's). No condition. Contracts: tables of formulas: atoms, false, implications and the like; tables made of rows (the program's and the document's). No condition. -/
import Derived.Test.YtobpfhmjdoekfaaGreatM5
import Derived.Test.YtobpfhmjdoekfaaGreatPF0
import Derived.Test.YtobpfhmjdoekfaaGreatPF1

set_option linter.unusedVariables false
set_option linter.unusedSimpArgs false

namespace Go.Proofs.YtobpfhmjdoekfaaGreat
open Go Go.Sym Go.Proofs.Tryz

variable {K : AVal → Heap → Prop} {h : Heap}

theorem names_loop {a b : AVal} {la lb : List ByteArray} (ha : Strs a la) (hb : Strs b lb) (hl : la.length = lb.length) (hm : la.length ≤ 1073741824) : ∀ d i : Nat, i + d = la.length →
    K (.bool (decide (la.drop i = lb.drop i))) h → s77l1 K (d + 1) a b (i : Int) h
  | 0, i, hd, hk => by
    unfold s77l1
    rw [ha.len]
    refine ifT_neg (by simp; omega) (retG_of ?_)
    rw [List.drop_eq_nil_of_le (by omega), List.drop_eq_nil_of_le (by omega)] at hk
    simpa using hk
  | d + 1, i, hd, hk => by
    have hi : i < la.length := by omega
    have hi' : i < lb.length := by omega
    unfold s77l1
    rw [ha.len]
    refine ifT_pos (by simp; omega) ?_
    rw [ha.ix hi, ld1_lptr, tStr_str, hb.ix hi', ld1_lptr, tStr_str, strEq_dec]
    rw [drop_eq_step hi hi'] at hk
    by_cases he : la[i] = lb[i]
    · refine ifT_neg (by simp [he]) (rg_of (by omega) (by omega) ?_)
      exact s77l1_go (names_loop ha hb hl hm d (i + 1) (by omega) (by simpa [he] using hk))
    · refine ifT_pos (by simp [he]) (retG_of ?_)
      simpa [he] using hk

theorem names_ok {a b : AVal} {la lb : List ByteArray} (ha : Strs a la) (hb : Strs b lb) (hm : la.length ≤ 1073741824) (hk : K (.bool (decide (la = lb))) h) :
    ACalls prog 77 [a, b] h K := by
  refine s77_ok ?_
  unfold s77
  rw [ha.len, hb.len]
  by_cases hl : la.length = lb.length
  · refine ifT_neg (by simp [hl]) (s77l1_in (la.length + 1) ?_)
    exact names_loop ha hb hl hm la.length 0 (by omega) (by simpa using hk)
  · refine ifT_pos (by simp; omega) (retG_of ?_)
    rwa [show decide (la = lb) = false by simp; intro e; exact hl (by rw [e])] at hk
theorem ints_loop {a b : AVal} {la lb : List Int} (ha : Ints a la) (hb : Ints b lb) (hl : la.length = lb.length) (hm : la.length ≤ 1073741824) : ∀ d i : Nat, i + d = la.length →
    K (.bool (decide (la.drop i = lb.drop i))) h → s76l1 K (d + 1) a b (i : Int) h
  | 0, i, hd, hk => by
    unfold s76l1
    rw [ha.len]
    refine ifT_neg (by simp; omega) (retG_of ?_)
    rw [List.drop_eq_nil_of_le (by omega), List.drop_eq_nil_of_le (by omega)] at hk
    simpa using hk
  | d + 1, i, hd, hk => by
    have hi : i < la.length := by omega
    have hi' : i < lb.length := by omega
    unfold s76l1
    rw [ha.len]
    refine ifT_pos (by simp; omega) ?_
    rw [ha.ix hi, ld1_lptr, tInt_int, hb.ix hi', ld1_lptr, tInt_int]
    rw [drop_eq_step hi hi'] at hk
    by_cases he : la[i] = lb[i]
    · refine ifT_neg (by simp [he]) (rg_of (by omega) (by omega) ?_)
      exact s76l1_go (ints_loop ha hb hl hm d (i + 1) (by omega) (by simpa [he] using hk))
    · refine ifT_pos (by simp [he]) (retG_of ?_)
      simpa [he] using hk

theorem ints_ok {a b : AVal} {la lb : List Int} (ha : Ints a la) (hb : Ints b lb) (hm : la.length ≤ 1073741824) (hk : K (.bool (decide (la = lb))) h) :
    ACalls prog 76 [a, b] h K := by
  refine s76_ok ?_
  unfold s76
  rw [ha.len, hb.len]
  by_cases hl : la.length = lb.length
  · refine ifT_neg (by simp [hl]) (s76l1_in (la.length + 1) ?_)
    exact ints_loop ha hb hl hm la.length 0 (by omega) (by simpa using hk)
  · refine ifT_pos (by simp; omega) (retG_of ?_)
    rwa [show decide (la = lb) = false by simp; intro e; exact hl (by rw [e])] at hk
end Go.Proofs.YtobpfhmjdoekfaaGreat

namespace Go.Proofs.YtobpfhmjdoekfaaGreat
open Go Go.Sym Go.Proofs.Tryz

variable {K : AVal → Heap → Prop} {h : Heap}

def ltB (c : Int) : Bool := (decide (97 ≤ c) && decide (c ≤ 122)) || (decide (65 ≤ c) && decide (c ≤ 90))
def dgB (c : Int) : Bool := (decide (48 ≤ c) && decide (c ≤ 57)) || (c == 95 || c == 39)
def goodB (s : ByteArray) (i : Nat) : Bool := ltB (btA s i) || (i != 0 && dgB (btA s i))
def resL : List ByteArray := [ByteArray.mk #[97, 98, 111, 114, 116], ByteArray.mk #[99, 97, 115, 101], ByteArray.mk #[102, 97, 108, 115, 101], ByteArray.mk #[102, 115, 116], ByteArray.mk #[102, 117, 110], ByteArray.mk #[105, 110], ByteArray.mk #[105, 110, 108], ByteArray.mk #[105, 110, 114], ByteArray.mk #[108, 101, 116], ByteArray.mk #[111, 102], ByteArray.mk #[115, 110, 100], ByteArray.mk #[116, 114, 117, 101]]
/-- is it a name? -/
def wordB (s : ByteArray) : Bool := decide (s.size ≠ 0) && (decide (s.size ≤ 31) && ((List.range' 0 s.size).all (goodB s) && resL.all fun r => !strEq r s))

theorem strEq_comm (a b : ByteArray) : strEq a b = strEq b a := by rw [strEq_dec, strEq_dec, Bool.eq_iff_iff]; simp [eq_comm]
theorem btA_range (s : ByteArray) (i : Int) : 0 ≤ btA s i ∧ btA s i ≤ 255 := by
  unfold btA
  have := UInt8.toNat_lt (s[i.toNat]?.getD 0)
  omega
theorem or32 : ∀ c : Fin 256, (decide (97 ≤ bitsI .or .u8 (c.val : Int) 32) && decide (bitsI .or .u8 (c.val : Int) 32 ≤ 122)) = ltB c.val := by decide +kernel
theorem or32_bt (s : ByteArray) (i : Int) : (decide (97 ≤ bitsI .or .u8 (btA s i) 32) && decide (bitsI .or .u8 (btA s i) 32 ≤ 122)) = ltB (btA s i) := by
  obtain ⟨h1, h2⟩ := btA_range s i
  have := or32 ⟨(btA s i).toNat, by omega⟩
  simp only [Int.toNat_of_nonneg h1] at this
  exact this

theorem letter_ok (c : Int) (hk : K (.bool (ltB c)) h) : ACalls prog 63 [.int .u8 c] h K := by
  refine s63_ok ?_
  unfold s63
  unfold ltB at hk
  by_cases h1 : 97 ≤ c <;> by_cases h2 : c ≤ 122 <;> by_cases h3 : 65 ≤ c <;> simp [h1, h2, h3, ifT_eq] at hk ⊢ <;> exact retG_of (by simpa using hk)

theorem reserved3_ok (hk : ∀ v, Strs v resL → K v h) : ACalls prog 64 [] h K := by
  refine s64_ok ?_
  unfold s64
  exact retG_of (hk _ (.inl rfl))

theorem word3_res {v : AVal} {s : ByteArray} {l : List ByteArray} (hv : Strs v l) (hm : l.length ≤ 1073741824) : ∀ d i : Nat, i + d = l.length → K (.bool ((l.drop i).all fun r => !strEq r s)) h → s28l4 K (d + 1) s v (i : Int) h
  | 0, i, hd, hk => by
    unfold s28l4
    rw [hv.len]
    refine ifT_neg (by simp; omega) (retG_of ?_)
    rw [List.drop_eq_nil_of_le (by omega)] at hk
    simpa using hk
  | d + 1, i, hd, hk => by
    have hi : i < l.length := by omega
    unfold s28l4
    rw [hv.len]
    refine ifT_pos (by simp; omega) ?_
    rw [hv.ix hi, ld1_lptr, tStr_str]
    rw [List.drop_eq_getElem_cons hi, List.all_cons] at hk
    cases he : strEq l[i] s with
    | true => rw [he] at hk; exact ifT_pos rfl (retG_of (by simpa using hk))
    | false =>
      rw [he] at hk
      refine ifT_neg rfl (rg_of (by omega) (by omega) ?_)
      exact s28l4_go (word3_res hv hm d (i + 1) (by omega) (by simpa using hk))

theorem word3_loop {s : ByteArray} (hm : s.size ≤ 31) : ∀ d i : Nat, 1 ≤ i → i + d = s.size → K (.bool ((List.range' i d).all (goodB s) && resL.all fun r => !strEq r s)) h → s28l2 K (d + 1) s (i : Int) h
  | 0, i, h1, hd, hk => by
    unfold s28l2
    refine ifT_neg (by simp; omega) (callG_of (reserved3_ok fun v hv => s28l4_in 13 ?_))
    exact word3_res hv (by decide) 12 0 rfl (by simpa using hk)
  | d + 1, i, h1, hd, hk => by
    unfold s28l2
    refine ifT_pos (by simp; omega) ⟨by omega, callG_of (letter_ok _ ?_)⟩
    rw [tBool_bool]
    rw [List.range'_succ, List.all_cons] at hk
    have rest : goodB s i = true → s28c3 K (s28l2_G (s28l2 K (d + 1))) s i false h := by
      intro hg
      rw [hg] at hk
      exact ifT_neg rfl (rg_of (by omega) (by omega) (s28l2_go (word3_loop hm d (i + 1) (by omega) (by omega) (by simpa using hk))))
    have stop : goodB s i = false → s28c3 K (s28l2_G (s28l2 K (d + 1))) s i true h := by
      intro hg
      rw [hg] at hk
      exact ifT_pos rfl (retG_of (by simpa using hk))
    have hi0 : (i != 0) = true := by simp; omega
    have hgood : goodB s i = (ltB (btA s i) || dgB (btA s i)) := by simp [goodB, hi0]
    cases hl : ltB (btA s i) with
    | true => exact ifT_neg rfl (rest (by rw [hgood, hl]; rfl))
    | false =>
      rw [hl, Bool.false_or] at hgood
      unfold dgB at hgood
      generalize btA s i = c at *
      refine ifT_pos rfl ⟨by omega, ?_⟩
      by_cases h48 : 48 ≤ c
      · refine ifT_pos (by simpa using h48) ⟨by omega, ?_⟩
        by_cases h57 : c ≤ 57
        · refine ifT_neg (by simpa using h57) (rest (by rw [hgood]; simp [h48, h57]))
        · refine ifT_pos (by simpa using h57) ⟨by omega, ?_⟩
          by_cases h95 : c = 95
          · exact ifT_neg (by simp [h95]) (rest (by rw [hgood]; simp [h95]))
          · refine ifT_pos (by simpa using h95) ⟨by omega, ?_⟩
            by_cases h39 : c = 39
            · rw [show (c != 39) = false by simp [h39]]; exact rest (by rw [hgood]; simp [h39])
            · rw [show (c != 39) = true by simpa using h39]; exact stop (by rw [hgood]; simp [h57, h95, h39])
      · refine ifT_neg (by simpa using h48) ⟨by omega, ?_⟩
        by_cases h95 : c = 95
        · exact ifT_neg (by simp [h95]) (rest (by rw [hgood]; simp [h95]))
        · refine ifT_pos (by simpa using h95) ⟨by omega, ?_⟩
          by_cases h39 : c = 39
          · rw [show (c != 39) = false by simp [h39]]; exact rest (by rw [hgood]; simp [h39])
          · rw [show (c != 39) = true by simpa using h39]; exact stop (by rw [hgood]; simp [h48, h95, h39])

theorem word3_ok (s : ByteArray) (hk : K (.bool (wordB s)) h) : ACalls prog 28 [.str s] h K := by
  refine s28_ok ?_
  unfold s28
  unfold wordB at hk
  by_cases h1 : s.size < 1
  · refine ifT_pos (by simp; omega) (ifT_pos rfl (retG_of ?_))
    rw [decide_eq_false (by omega : ¬ s.size ≠ 0)] at hk
    exact hk
  · refine ifT_neg (by simp; omega) ?_
    rw [decide_eq_true (by omega : s.size ≠ 0), Bool.true_and] at hk
    by_cases h2 : 31 < s.size
    · refine ifT_pos (by simp; omega) (ifT_pos rfl (retG_of ?_))
      rw [show decide (s.size ≤ 31) = false by simp; omega] at hk
      exact hk
    · refine ifT_neg (by simp; omega) ⟨by omega, callG_of (letter_ok _ ?_)⟩
      rw [tBool_bool]
      rw [show decide (s.size ≤ 31) = true by simp; omega, Bool.true_and] at hk
      obtain ⟨m, hm⟩ : ∃ m, s.size = m + 1 := ⟨s.size - 1, by omega⟩
      rw [hm, List.range'_succ, List.all_cons, show goodB s 0 = ltB (btA s 0) by simp [goodB]] at hk
      cases hl : ltB (btA s 0) with
      | true =>
        rw [hl] at hk
        exact ifT_neg rfl (s28l2_in (m + 1) (word3_loop (by omega) m 1 (by omega) (by omega) (by simpa using hk)))
      | false =>
        rw [hl] at hk
        exact ifT_pos rfl (retG_of (by simpa using hk))

theorem reserved_ok (s : ByteArray) (hk : K (.bool (resL.any fun r => strEq r s)) h) : ACalls prog 57 [.str s] h K := by
  refine s57_ok ?_
  unfold s57
  simp only [resL, List.any_cons, List.any_nil, Bool.or_false] at hk
  simp only [strEq_comm _ s] at hk
  unfold s57c1
  generalize strEq s (ByteArray.mk #[97, 98, 111, 114, 116]) = b0 at hk ⊢
  generalize strEq s (ByteArray.mk #[99, 97, 115, 101]) = b1 at hk ⊢
  generalize strEq s (ByteArray.mk #[102, 97, 108, 115, 101]) = b2 at hk ⊢
  generalize strEq s (ByteArray.mk #[102, 115, 116]) = b3 at hk ⊢
  generalize strEq s (ByteArray.mk #[102, 117, 110]) = b4 at hk ⊢
  generalize strEq s (ByteArray.mk #[105, 110]) = b5 at hk ⊢
  generalize strEq s (ByteArray.mk #[105, 110, 108]) = b6 at hk ⊢
  generalize strEq s (ByteArray.mk #[105, 110, 114]) = b7 at hk ⊢
  generalize strEq s (ByteArray.mk #[108, 101, 116]) = b8 at hk ⊢
  generalize strEq s (ByteArray.mk #[111, 102]) = b9 at hk ⊢
  generalize strEq s (ByteArray.mk #[115, 110, 100]) = b10 at hk ⊢
  generalize strEq s (ByteArray.mk #[116, 114, 117, 101]) = b11 at hk ⊢
  cases b0 with
  | true => exact ifT_pos rfl (ifT_pos rfl (retG_of (by simpa using hk)))
  | false =>
  refine ifT_neg rfl ?_
  cases b1 with
  | true => exact ifT_pos rfl (ifT_pos rfl (retG_of (by simpa using hk)))
  | false =>
  refine ifT_neg rfl ?_
  cases b2 with
  | true => exact ifT_pos rfl (ifT_pos rfl (retG_of (by simpa using hk)))
  | false =>
  refine ifT_neg rfl ?_
  cases b3 with
  | true => exact ifT_pos rfl (ifT_pos rfl (retG_of (by simpa using hk)))
  | false =>
  refine ifT_neg rfl ?_
  cases b4 with
  | true => exact ifT_pos rfl (ifT_pos rfl (retG_of (by simpa using hk)))
  | false =>
  refine ifT_neg rfl ?_
  cases b5 with
  | true => exact ifT_pos rfl (ifT_pos rfl (retG_of (by simpa using hk)))
  | false =>
  refine ifT_neg rfl ?_
  cases b6 with
  | true => exact ifT_pos rfl (ifT_pos rfl (retG_of (by simpa using hk)))
  | false =>
  refine ifT_neg rfl ?_
  cases b7 with
  | true => exact ifT_pos rfl (ifT_pos rfl (retG_of (by simpa using hk)))
  | false =>
  refine ifT_neg rfl ?_
  cases b8 with
  | true => exact ifT_pos rfl (ifT_pos rfl (retG_of (by simpa using hk)))
  | false =>
  refine ifT_neg rfl ?_
  cases b9 with
  | true => exact ifT_pos rfl (ifT_pos rfl (retG_of (by simpa using hk)))
  | false =>
  refine ifT_neg rfl ?_
  cases b10 with
  | true => exact ifT_pos rfl (ifT_pos rfl (retG_of (by simpa using hk)))
  | false =>
  refine ifT_neg rfl ?_
  cases b11 with
  | true => exact ifT_pos rfl (retG_of (by simpa using hk))
  | false => exact ifT_neg rfl (retG_of (by simpa using hk))

theorem word_loop {s : ByteArray} (hm : s.size ≤ 1073741824) : ∀ d i : Nat, i + d = s.size →
    K (.bool ((List.range' i d).all (goodB s) && (decide (s.size ≠ 0) && (decide (s.size ≤ 31) && resL.all fun r => !strEq r s)))) h → s24l1 K (d + 1) s (s.size : Int) (i : Int) h
  | 0, i, hd, hk => by
    unfold s24l1
    refine ifT_neg (by simp; omega) ?_
    have he : strEq s (ByteArray.mk #[]) = decide (s.size = 0) := by
      rw [strEq_dec, Bool.eq_iff_iff]
      simp only [decide_eq_true_eq]
      constructor
      · intro e; rw [e]; rfl
      · intro e
        obtain ⟨⟨l⟩⟩ := s
        have : l.length = 0 := e
        rw [List.eq_nil_of_length_eq_zero this]
    rw [he]
    simp only [List.range'_zero, List.all_nil, Bool.true_and] at hk
    by_cases h0 : s.size = 0
    · refine ifT_neg (by simp [h0]) (retG_of ?_)
      simpa [h0] using hk
    · refine ifT_pos (by simp [h0]) ?_
      by_cases h31 : s.size ≤ 31
      · refine ifT_pos (by simp; omega) (callG_of (reserved_ok s ?_))
        rw [tBool_bool]
        refine retG_of ?_
        rw [show (!resL.any fun r => strEq r s) = resL.all fun r => !strEq r s by rw [List.all_eq_not_any_not]; simp]
        simpa [h0, h31] using hk
      · refine ifT_neg (by simp; omega) (retG_of ?_)
        simpa [h0, h31] using hk
  | d + 1, i, hd, hk => by
    unfold s24l1
    refine ifT_pos (by simp; omega) ⟨by omega, ?_⟩
    rw [List.range'_succ, List.all_cons] at hk
    have rest : goodB s i = true → s24c3 K (s24l1_G (s24l1 K (d + 1))) s s.size i false h := by
      intro hg
      rw [hg] at hk
      exact ifT_neg rfl (rg_of (by omega) (by omega) (s24l1_go (word_loop hm d (i + 1) (by omega) (by simpa using hk))))
    have stop : goodB s i = false → s24c3 K (s24l1_G (s24l1 K (d + 1))) s s.size i true h := by
      intro hg
      rw [hg] at hk
      exact ifT_pos rfl (retG_of (by simpa using hk))
    have key : s24c2 K (s24l1_G (s24l1 K (d + 1))) s i (btA s i) (ltB (btA s i)) s.size i h := by
      unfold s24c2
      unfold goodB dgB at rest stop
      cases hl : ltB (btA s i) with
      | true => exact ifT_neg rfl (rest (by rw [hl]; rfl))
      | false =>
        rw [hl] at rest stop
        simp only [Bool.false_or] at rest stop
        refine ifT_pos rfl ?_
        by_cases h0 : i = 0
        · refine ifT_pos (by simp [h0]) (stop (by simp [h0]))
        · refine ifT_neg (by simpa using h0) ?_
          rw [show (i != 0) = true by simpa using h0] at rest stop
          simp only [Bool.true_and] at rest stop
          generalize btA s i = c at *
          by_cases h95 : c = 95
          · exact ifT_neg (by simp [h95]) (rest (by simp [h95]))
          · refine ifT_pos (by simpa using h95) ?_
            by_cases h39 : c = 39
            · exact ifT_neg (by simp [h39]) (rest (by simp [h39]))
            · refine ifT_pos (by simpa using h39) ?_
              by_cases h48 : c < 48
              · exact ifT_pos (by simpa using h48) (stop (by simp [h95, h39]; omega))
              · refine ifT_neg (by simpa using h48) ?_
                by_cases h57 : 57 < c
                · rw [show decide (57 < c) = true by simpa using h57]; exact stop (by simp [h95, h39]; omega)
                · rw [show decide (57 < c) = false by simpa using h57]; exact rest (by simp; omega)
    have ho := or32_bt s i
    cases h97 : decide (97 ≤ bitsI .or .u8 (btA s i) 32) with
    | true => rw [h97, Bool.true_and] at ho; rw [ho]; exact ifT_pos rfl key
    | false => rw [h97, Bool.false_and] at ho; rw [← ho] at key; exact ifT_neg rfl key

theorem word_ok (s : ByteArray) (hm : s.size ≤ 1073741824) (hk : K (.bool (wordB s)) h) : ACalls prog 24 [.str s] h K := by
  refine s24_ok (s24l1_in (s.size + 1) (word_loop hm s.size 0 (by omega) ?_))
  unfold wordB at hk
  rwa [show ((List.range' 0 s.size).all (goodB s) && (decide (s.size ≠ 0) && (decide (s.size ≤ 31) && resL.all fun r => !strEq r s))) =
    (decide (s.size ≠ 0) && (decide (s.size ≤ 31) && ((List.range' 0 s.size).all (goodB s) && resL.all fun r => !strEq r s))) by
      cases (List.range' 0 s.size).all (goodB s) <;> cases decide (s.size ≠ 0) <;> cases decide (s.size ≤ 31) <;> rfl]
end Go.Proofs.YtobpfhmjdoekfaaGreat

namespace Go.Proofs.YtobpfhmjdoekfaaGreat
open Go Go.Sym Go.Proofs.Tryz

/-- no name is longer than a machine's number -/
def SB (l : List ByteArray) : Prop := l.length ≤ 1073741824 ∧ ∀ s ∈ l, s.size ≤ 1073741824

/-- nothing is longer than a machine bears -/
structure Small (up : List (List Int)) (val : List (List ByteArray)) : Prop where
  ups : up.length ≤ 1048576
  vals : val.length ≤ 1048576
  row : ∀ r ∈ up, r.length ≤ 1048576
  names : ∀ l ∈ val, SB l ∧ l.length ≤ 1048576

def natI (l : List Nat) : List Int := l.map fun (x : Nat) => (x : Int)
theorem map_set {α : Type} (g : Nat → α) (n w : Nat) (y : α) : ((List.range n).map g).set w y = (List.range n).map fun x => if x = w then y else g x := by
  refine List.ext_getElem (by simp) fun i h1 h2 => ?_
  rw [List.getElem_set]
  by_cases e : w = i
  · subst e; simp
  · rw [if_neg e]
    simp [Ne.symm e]
theorem range_get {α : Type} (g : Nat → α) {n i : Nat} (hi : i < n) : ((List.range n).map g)[i]? = some (g i) := by simp [hi]

/- ---------------- the texts of the names ---------------- -/
theorem Own.toBase {hb h : Heap} {os : List Ow} (W : Own hb os h) (S : Nat → Prop) (hS : ∀ n, S n → hb n = none) : Go.Sym.GStep h hb S :=
  ⟨fun _ _ => trivial, fun q o hq => ⟨o, W.old q o hq, (fun hs => by rw [hS q hs] at hq; cases hq), .refl o⟩⟩
def rowsO (q : Nat) (f : Nat → AVal) (g : Nat → List Nat) : List Ow := (List.range q).map fun k => .slc 1 (f k) ((natI (g k)).map (.int .i64))
def upd {α : Type} (f : Nat → α) (k : Nat) (y : α) : Nat → α := fun x => if x = k then y else f x
theorem rowsO_get {q k : Nat} {f : Nat → AVal} {g : Nat → List Nat} (hk : k < q) (a b d : Ow) : ([a, b, d] ++ rowsO q f g)[k + 3]? = some (.slc 1 (f k) ((natI (g k)).map (.int .i64))) := by
  show (rowsO q f g)[k]? = _
  unfold rowsO
  exact range_get _ hk
theorem rowsO_set {q k x : Nat} {f : Nat → AVal} {g : Nat → List Nat} {v : AVal} (a b d : Ow) : ([a, b, d] ++ rowsO q f g).set (k + 3) (.slc 1 v ((natI (g k)).map (.int .i64) ++ [.int .i64 (x : Int)])) = [a, b, d] ++ rowsO q (upd f k v) (upd g k (g k ++ [x])) := by
  show a :: b :: d :: (rowsO q f g).set k _ = a :: b :: d :: rowsO q _ _
  unfold rowsO
  rw [map_set]
  congr 3
  refine List.map_congr_left fun y _ => ?_
  unfold upd
  split
  · simp [natI]
  · rfl
theorem lits_rows {hb h : Heap} {os : List Ow} (W : Own hb os h) {S : Nat → Prop} {f : Nat → AVal} {g : Nat → List Nat} : ∀ (ks : List Nat), (∀ k ∈ ks, ∃ i : Nat, os[i]? = some (.slc 1 (f k) ((natI (g k)).map (.int .i64)))) → (∀ k ∈ ks, ∀ n, nameOf (f k) n → S n) →
    ∃ l', Lits h S (ks.map f) l' ∧ All2 Ints l' (ks.map fun k => natI (g k))
  | [], _, _ => ⟨[], .nil, .nil⟩
  | k :: ks, ho, hS => by
    obtain ⟨l', h1, h2⟩ := lits_rows W ks (fun k hk => ho k (List.mem_cons_of_mem _ hk)) (fun k hk => hS k (List.mem_cons_of_mem _ hk))
    obtain ⟨i, hi⟩ := ho k List.mem_cons_self
    obtain ⟨v', hv, hs⟩ := W.lit hi (S := S) (hS k List.mem_cons_self) (Lits.refl _)
    exact ⟨v' :: l', .cons hv h1, .cons hs h2⟩
theorem newNs {hb h : Heap} {os : List Ow} (W : Own hb os h) : ∀ q : Nat, Own hb (os ++ (List.range q).map fun _ => .slc 1 .nilsl []) h
  | 0 => by simpa using W
  | q + 1 => by
    have := (newNs W q).newN 1
    rw [List.append_assoc] at this
    rw [List.range_succ, List.map_append]
    exact this
theorem range_filter_succ (p : Nat → Bool) (n : Nat) : (List.range (n + 1)).filter p = (List.range n).filter p ++ if p n then [n] else [] := by
  rw [List.range_succ, List.filter_append]
  congr 1
  rw [List.filter_cons]
  rfl
theorem mem_natI {l : List Nat} {x : Int} : x ∈ natI l ↔ ∃ c ∈ l, x = (c : Int) := by
  unfold natI
  rw [List.mem_map]
  exact ⟨fun ⟨c, h1, h2⟩ => ⟨c, h1, h2.symm⟩, fun ⟨c, h1, h2⟩ => ⟨c, h1, h2.symm⟩⟩

end Go.Proofs.YtobpfhmjdoekfaaGreat

namespace Go.Proofs.YtobpfhmjdoekfaaGreat
open Go Go.Sym Go.Proofs.Tryz

variable {K : AVal → Heap → Prop} {h h0 : Heap}

structure Nd where
  k : Int
  s : ByteArray
  l : Int
  r : Int
def nodeC (x : Nd) : List AVal := [.int .i64 x.k, .str x.s, .int .i64 x.l, .int .i64 x.r]
def nodeV (x : Nd) : AVal := .agg (nodeC x)
def Nodes (v : AVal) (xs : List Nd) : Prop := SlOf 4 v (xs.map nodeV)
/-- a right node at place i -/
def NdOK (i : Nat) (x : Nd) : Prop := x.k = 1 ∨ x.k = 2 ∨ ((x.k = 3 ∨ x.k = 4 ∨ x.k = 5) ∧ (0 ≤ x.l ∧ x.l < i) ∧ 0 ≤ x.r ∧ x.r < i)
structure TabOK (xs : List Nd) : Prop where
  len : xs.length ≤ 1024
  ok : ∀ i x, xs[i]? = some x → NdOK i x
theorem Nodes.len {v : AVal} {xs : List Nd} (h : Nodes v xs) (K : Int → Prop) : lenN v K = K xs.length := by rw [lenN_of h]; simp
theorem Nodes.ix {v : AVal} {xs : List Nd} (h : Nodes v xs) {i : Nat} (hi : i < xs.length) (K : AVal → Prop) : ixS 4 v (i : Int) K = K (.lptr (nodeC xs[i])) := by
  rw [ixS_nat h (i := i) (e := nodeV xs[i]) (by simp [hi])]
  rfl
theorem ldN_node (h : Heap) (x : Nd) (K : List AVal → Prop) : ldN 4 h (.lptr (nodeC x)) K = K (nodeC x) := ldN_lptr 4 h _ K (by simp [nodeC])
theorem nilCheck_ptr (r i o : Nat) (K : AVal → Prop) : nilCheckA (.ptr r i o) K = K (.ptr r i o) := rfl
theorem nilCheck_lptr (l : List AVal) (K : AVal → Prop) : nilCheckA (.lptr l) K = K (.lptr l) := rfl
theorem ldN_elem {h : Heap} {r i n es : Nat} {elems cs : List AVal} (hr : h r = some (.row es elems)) (he : elems[i]? = some (.agg cs)) (hn : n = cs.length) (K : List AVal → Prop) : ldN n h (.ptr r i 0) K = K cs := by
  subst hn
  unfold ldN ldCells
  simp only [hr, he, cellsOf_agg, List.drop_zero, List.take_length]
  rw [Nat.ble_eq_true_of_le (Nat.le_refl _)]
  rfl

theorem eqNode (x y : Nd) : eqT prog 8 54 (nodeV x) (nodeV y) = some ((x.k == y.k) && (strEq x.s y.s && ((x.l == y.l) && ((x.r == y.r) && true)))) := by kernel_rfl
theorem eqNodeG : prog.eqGuardType prog.depth 54 = false := by kernel_rfl
theorem eqNodeQ (x y : Nd) {K : Bool → Prop} (hk : ∀ b, K b) : eqQ prog 54 (nodeV x) (nodeV y) K := by
  refine ⟨eqNodeG, ?_⟩
  rw [eqNode]
  exact hk _


theorem nilPp (r i o : Nat) (X : Bool → Prop) : nilP (.ptr r i o) X = X false := rfl
theorem nilPn (X : Bool → Prop) : nilP .nilptr X = X true := rfl
theorem nilMr (r : Nat) (X : Bool → Prop) : nilM (.mapr r) X = X false := rfl
theorem nilSn (X : Bool → Prop) : nilS .nilsl X = X true := rfl
theorem nilSs (r es o n : Nat) (X : Bool → Prop) : nilS (.sl r es o n) X = X false := rfl
theorem nilSl (es : Nat) (l : List AVal) (X : Bool → Prop) : nilS (.lsl es l) X = X false := rfl
/-- the same node? -/
def ndB (x y : Nd) : Bool := (x.k == y.k) && (strEq x.s y.s && ((x.l == y.l) && ((x.r == y.r) && true)))
theorem ndB_iff {x y : Nd} : ndB x y = true ↔ x = y := by
  unfold ndB
  rw [strEq_dec]
  obtain ⟨a, b, c, d⟩ := x
  obtain ⟨a', b', c', d'⟩ := y
  simp
theorem ndB_self (x : Nd) : ndB x x = true := ndB_iff.2 rfl
theorem eqNodeX {x y : Nd} {K : Bool → Prop} (hk : K (ndB x y)) : eqQ prog 54 (nodeV x) (nodeV y) K := by
  refine ⟨eqNodeG, ?_⟩
  rw [eqNode]
  exact hk
/-- where a node stands -/
def ndIx (y : Nd) (xs : List Nd) : Option Nat := xs.findIdx? fun x => ndB x y
theorem ndIx_some {y : Nd} {xs : List Nd} {i : Nat} (h : ndIx y xs = some i) : xs[i]? = some y := by
  unfold ndIx at h
  obtain ⟨h1, h2, _⟩ := List.findIdx?_eq_some_iff_getElem.1 h
  rw [List.getElem?_eq_getElem h1]
  exact congrArg some (ndB_iff.1 h2)

/-- a slice that is read as these nodes -/
def RdN (h : Heap) (v : AVal) (xs : List Nd) : Prop := (v = .nilsl ∧ xs = []) ∨ (∃ (r : Nat) (L : List AVal), v = .sl r 4 0 xs.length ∧ h r = some (.row 4 L) ∧ ∀ (i : Nat) (x : Nd), xs[i]? = some x → L[i]? = some (nodeV x)) ∨ Nodes v xs
theorem RdN.len {v : AVal} {xs : List Nd} (R : RdN h v xs) (K : Int → Prop) : lenN v K = K xs.length := by
  rcases R with ⟨rfl, rfl⟩ | ⟨r, L, rfl, _, _⟩ | R
  · rfl
  · rfl
  · exact R.len K
theorem RdN.ext {h h' : Heap} {v : AVal} {xs : List Nd} (R : RdN h v xs) (e : ∀ q o, h q = some o → h' q = some o) : RdN h' v xs := by
  rcases R with R | ⟨r, L, e1, e2, e3⟩ | R
  · exact .inl R
  · exact .inr (.inl ⟨r, L, e1, e _ _ e2, e3⟩)
  · exact .inr (.inr R)
theorem RdN.ix {v : AVal} {xs : List Nd} (R : RdN h v xs) {i : Nat} {x : Nd} (hi : xs[i]? = some x) {K : List AVal → Prop} (hk : K (nodeC x)) : ixS 4 v (i : Int) fun p => ldN 4 h p K := by
  have hlt := (List.getElem?_eq_some_iff.1 hi).1
  rcases R with ⟨rfl, rfl⟩ | ⟨r, L, rfl, hr, hL⟩ | R
  · simp at hlt
  · refine ixS_sl0 hlt ?_
    rw [ldN_elem (n := 4) hr (hL i x hi) rfl]
    exact hk
  · rw [R.ix hlt, ldN_node, (List.getElem?_eq_some_iff.1 hi).2]
    exact hk
theorem RdN.fld {v : AVal} {xs : List Nd} (R : RdN h v xs) {i o : Nat} {x : Nd} {c : AVal} (hi : xs[i]? = some x) (ho : (nodeC x)[o]? = some c) {K : AVal → Prop} (hk : K c) : ixS 4 v (i : Int) fun p => addOff p o fun p => ld1 h p K := by
  have hlt := (List.getElem?_eq_some_iff.1 hi).1
  have hol := (List.getElem?_eq_some_iff.1 ho).1
  rcases R with ⟨rfl, rfl⟩ | ⟨r, L, rfl, hr, hL⟩ | R
  · simp at hlt
  · refine ixS_sl0 hlt ?_
    rw [addOff_ptr]
    unfold ld1 ldCells
    simp only [hr, hL i x hi, nodeV, cellsOf_agg, Nat.zero_add]
    rw [List.drop_eq_getElem_cons hol]
    simp only
    rw [(List.getElem?_eq_some_iff.1 ho).2]
    exact hk
  · rw [R.ix hlt, (List.getElem?_eq_some_iff.1 hi).2, addOff_lptr, List.drop_eq_getElem_cons hol, (List.getElem?_eq_some_iff.1 ho).2, ld1_lptr]
    exact hk

/-- a program's table is read as these rows -/
def PRd (h : Heap) (t : AVal) (xs : List Nd) : Prop := ∃ rt vN q es, t = .ptr rt 0 0 ∧ h rt = some (.row 2 [.agg [vN, .mapr q]]) ∧ h q = some (.map es) ∧ RdN h vN xs
/-- a document's table is read as these rows -/
def DRd (h : Heap) (t : AVal) (xs : List Nd) : Prop := ∃ rt vN, t = .ptr rt 0 0 ∧ h rt = some (.row 1 [.agg [vN]]) ∧ RdN h vN xs
theorem PRd.ext {h h' : Heap} {t : AVal} {xs : List Nd} (R : PRd h t xs) (e : ∀ q o, h q = some o → h' q = some o) : PRd h' t xs := by
  obtain ⟨rt, vN, q, es, h1, h2, h3, h4⟩ := R
  exact ⟨rt, vN, q, es, h1, e _ _ h2, e _ _ h3, h4.ext e⟩
theorem DRd.ext {h h' : Heap} {t : AVal} {xs : List Nd} (R : DRd h t xs) (e : ∀ q o, h q = some o → h' q = some o) : DRd h' t xs := by
  obtain ⟨rt, vN, h1, h2, h3⟩ := R
  exact ⟨rt, vN, h1, e _ _ h2, h3.ext e⟩
/-- the rows of a program's table -/
theorem PRd.ld {t : AVal} {xs : List Nd} (R : PRd h t xs) : ∃ vN, RdN h vN xs ∧ ∀ K : AVal → Prop, (nilCheckA t fun p => addOff p 0 fun p => ld1 h p K) = K vN := by
  obtain ⟨rt, vN, q, es, rfl, h2, h3, h4⟩ := R
  exact ⟨vN, h4, fun K => by rw [nilCheck_ptr, addOff_ptr, ld1_fld h2 rfl]⟩
theorem DRd.ld {t : AVal} {xs : List Nd} (R : DRd h t xs) : ∃ vN, RdN h vN xs ∧ ∀ K : AVal → Prop, (nilCheckA t fun p => addOff p 0 fun p => ld1 h p K) = K vN := by
  obtain ⟨rt, vN, rfl, h2, h3⟩ := R
  exact ⟨vN, h3, fun K => by rw [nilCheck_ptr, addOff_ptr, ld1_fld h2 rfl]⟩
end Go.Proofs.YtobpfhmjdoekfaaGreat

namespace Go.Proofs.YtobpfhmjdoekfaaGreat
open Go Go.Sym Go.Proofs.Tryz

variable {K : AVal → Heap → Prop} {h h0 hb : Heap}

theorem ndB_comm (x y : Nd) : ndB x y = ndB y x := by
  rw [Bool.eq_iff_iff, ndB_iff, ndB_iff]
  exact eq_comm
/-- is there a row of this number? -/
def hasN (n : Nat) (i : Int) : Bool := decide (0 ≤ i) && decide (i < n)
theorem aliveP_ok {t : AVal} {xs : List Nd} (R : PRd h t xs) (hk : K (.bool true) h) : ACalls prog 56 [t] h K := by
  obtain ⟨rt, vN, q, es, rfl, h2, h3, h4⟩ := R
  refine s56_ok ?_
  unfold s56
  rw [nilPp]
  refine ifT_pos rfl ?_
  rw [nilCheck_ptr, addOff_ptr, ld1_fld h2 rfl, nilMr]
  exact retG_of hk
theorem hasP_ok {t : AVal} {xs : List Nd} (R : PRd h t xs) (i : Int) (hk : K (.bool (hasN xs.length i)) h) : ACalls prog 75 [t, .int .i64 i] h K := by
  obtain ⟨vN, h4, hl⟩ := R.ld
  refine s75_ok ?_
  unfold s75
  unfold hasN at hk
  by_cases h0 : 0 ≤ i
  · refine ifT_pos (decide_eq_true h0) ?_
    rw [hl, h4.len]
    exact retG_of (by simpa [h0] using hk)
  · exact ifT_neg (decide_eq_false h0) (retG_of (by simpa [h0] using hk))
theorem hasT_ok {t : AVal} {xs : List Nd} (R : DRd h t xs) (i : Int) (hk : K (.bool (hasN xs.length i)) h) : ACalls prog 50 [t, .int .i64 i] h K := by
  obtain ⟨vN, h4, hl⟩ := R.ld
  refine s50_ok ?_
  unfold s50
  unfold hasN at hk
  by_cases h0 : 0 ≤ i
  · refine ifT_pos (decide_eq_true h0) ?_
    rw [hl, h4.len]
    exact retG_of (by simpa [h0] using hk)
  · exact ifT_neg (decide_eq_false h0) (retG_of (by simpa [h0] using hk))
theorem lenP_ok {t : AVal} {xs : List Nd} (R : PRd h t xs) (hk : K (.int .i64 (xs.length : Int)) h) : ACalls prog 25 [t] h K := by
  refine s25_ok ?_
  unfold s25
  refine callG_of (aliveP_ok R ?_)
  rw [tBool_bool]
  obtain ⟨vN, h4, hl⟩ := R.ld
  refine ifT_neg rfl ?_
  rw [hl, h4.len]
  exact retG_of hk

/-- where a node stands -/
theorem findT_l1 {t : AVal} {xs : List Nd} (R : DRd h t xs) (hx : xs.length ≤ 1048576) (y : Nd) (yes : ∀ i : Nat, ndIx y xs = some i → K (.tuple [.int .i64 i, .bool true]) h) (no : ndIx y xs = none → K (.tuple [.int .i64 0, .bool false]) h) :
    ∀ d i : Nat, i + d = xs.length → (∀ j x, j < i → xs[j]? = some x → ndB x y = false) → s110l1 K (d + 1) t (.lptr (nodeC y)) (i : Int) h
  | 0, i, hd, hi => by
    obtain ⟨vN, h4, hl⟩ := R.ld
    unfold s110l1
    rw [hl, h4.len]
    refine ifT_neg (by simp; omega) (retG_of (no ?_))
    unfold ndIx
    rw [List.findIdx?_eq_none_iff]
    intro x hx
    obtain ⟨j, hj, e⟩ := List.mem_iff_getElem.1 hx
    exact hi j x (by omega) (by rw [List.getElem?_eq_getElem hj, e])
  | d + 1, i, hd, hi => by
    have hil : i < xs.length := by omega
    obtain ⟨vN, h4, hl⟩ := R.ld
    unfold s110l1
    rw [hl, h4.len]
    refine ifT_pos (by simp; omega) ?_
    rw [hl]
    refine h4.ix (List.getElem?_eq_getElem hil) ?_
    rw [nodeC, tCons_cons, tInt_int, tCons_cons, tStr_str, tCons_cons, tInt_int, tCons_cons, tInt_int, tNil_nil]
    have e1 := ldN_node h y
    rw [e1]
    rw [nodeC, tCons_cons, tInt_int, tCons_cons, tStr_str, tCons_cons, tInt_int, tCons_cons, tInt_int, tNil_nil]
    refine eqNodeX (x := xs[i]) (y := y) ?_
    cases e : ndB xs[i] y with
    | true =>
      refine ifT_pos rfl (retG_of (yes i ?_))
      unfold ndIx
      rw [List.findIdx?_eq_some_iff_getElem]
      refine ⟨hil, e, fun j hj => ?_⟩
      have := hi j (xs[j]'(by omega)) hj (by rw [List.getElem?_eq_getElem])
      simp [this]
    | false =>
      refine ifT_neg rfl (rg_of (by omega) (by omega) (s110l1_go (findT_l1 R hx y yes no d (i + 1) (by omega) fun j x hj hx => ?_)))
      rcases Nat.lt_or_ge j i with h1 | h1
      · exact hi j x h1 hx
      · obtain rfl : j = i := by omega
        rw [List.getElem?_eq_getElem hil] at hx
        cases hx
        exact e
theorem findT_ok {t : AVal} {xs : List Nd} (R : DRd h t xs) (hx : xs.length ≤ 1048576) (y : Nd) (yes : ∀ i : Nat, ndIx y xs = some i → K (.tuple [.int .i64 i, .bool true]) h) (no : ndIx y xs = none → K (.tuple [.int .i64 0, .bool false]) h) :
    ACalls prog 110 [t, nodeV y] h K :=
  s110_ok (s110l1_in (xs.length + 1) (findT_l1 R hx y yes no xs.length 0 (by omega) fun j x hj => by omega))

/-- the same rows? -/
theorem sameN_l1 {a b : AVal} {xs : List Nd} (ha : RdN h a xs) (hb : RdN h b xs) (hx : xs.length ≤ 1048576) (hk : K (.bool true) h) : ∀ d i : Nat, i + d = xs.length → s70l1 K (d + 1) a b (i : Int) h
  | 0, i, hd => by
    unfold s70l1
    rw [ha.len]
    exact ifT_neg (by simp; omega) (retG_of hk)
  | d + 1, i, hd => by
    have hil : i < xs.length := by omega
    unfold s70l1
    rw [ha.len]
    refine ifT_pos (by simp; omega) (ha.ix (List.getElem?_eq_getElem hil) ?_)
    rw [nodeC, tCons_cons, tInt_int, tCons_cons, tStr_str, tCons_cons, tInt_int, tCons_cons, tInt_int, tNil_nil]
    refine hb.ix (List.getElem?_eq_getElem hil) ?_
    rw [nodeC, tCons_cons, tInt_int, tCons_cons, tStr_str, tCons_cons, tInt_int, tCons_cons, tInt_int, tNil_nil]
    refine eqNodeX (x := xs[i]) (y := xs[i]) ?_
    rw [ndB_self]
    exact ifT_neg rfl (rg_of (by omega) (by omega) (s70l1_go (sameN_l1 ha hb hx hk d (i + 1) (by omega))))
theorem sameN_ok {a b : AVal} {xs : List Nd} (ha : RdN h a xs) (hb : RdN h b xs) (hx : xs.length ≤ 1048576) (hk : K (.bool true) h) : ACalls prog 70 [a, b] h K := by
  refine s70_ok ?_
  unfold s70
  rw [ha.len, hb.len]
  exact ifT_neg (by simp) (s70l1_in (xs.length + 1) (sameN_l1 ha hb hx hk xs.length 0 (by omega)))
theorem elems_rdN {v : AVal} {xs : List Nd} (R : RdN h v xs) : elemsA 4 h v = some (xs.map nodeV) := by
  rcases R with ⟨rfl, rfl⟩ | ⟨r, L, rfl, hr, hL⟩ | R
  · rfl
  · unfold elemsA
    simp only [Nat.beq_refl, hr, List.drop_zero]
    have hlen : xs.length ≤ L.length := by
      rcases Nat.lt_or_ge L.length xs.length with e | e
      · have h1 := hL L.length xs[L.length] (List.getElem?_eq_getElem e)
        simp at h1
      · exact e
    have e : L.take xs.length = xs.map nodeV := by
      apply List.ext_getElem?
      intro i
      rw [List.getElem?_take, List.getElem?_map]
      by_cases hi : i < xs.length
      · rw [if_pos hi, List.getElem?_eq_getElem hi]
        exact hL i _ (List.getElem?_eq_getElem hi)
      · rw [if_neg hi, List.getElem?_eq_none (by omega)]
        rfl
    simp [e, hlen]
  · exact elemsA_of R
theorem rd_grow {h h' : Heap} {v : AVal} {xs : List Nd} (g : Grow 4 h v (xs.map nodeV) h') : RdN h' v xs := by
  generalize e : xs.map nodeV = l at g
  cases g with
  | nil => exact .inl ⟨rfl, List.map_eq_nil_iff.1 e⟩
  | @own r _ hr =>
    subst e
    refine .inr (.inl ⟨r, xs.map nodeV, by rw [List.length_map], Heap.set_same _ _ _, fun i x hi => ?_⟩)
    rw [List.getElem?_map, hi]
    rfl
theorem cloneN_ok {v : AVal} {xs : List Nd} (R : RdN h v xs) (hx : xs.length ≤ 1048576) (hk : ∀ v' h', RdN h' v' xs → (∀ q o, h q = some o → h' q = some o) → K v' h') : ACalls prog 100 [v] h K := by
  refine s100_ok ?_
  unfold s100
  have go : Sym.newRow 4 [] h fun r h_ => appC 4 40 h_ (.sl r 4 0 0) v fun v h_1 => retG v h_1 K := by
    refine newRow_in fun r hr => ?_
    have R2 := R.ext (h' := h.set r (.row 4 [])) (Heap.set_sub hr)
    refine appC_copy hr (elems_rdN R2) (by simp; omega) (by simp; omega) fun v' h' g => retG_of (hk v' h' ?_ (fun q o hq => g.old hq))
    exact rd_grow g
  have yes : v = .nilsl → xs = [] → retG .nilsl h K := fun _ e => retG_of (hk _ _ (.inl ⟨rfl, e⟩) fun _ _ e => e)
  rcases R with ⟨rfl, rfl⟩ | ⟨r, L, rfl, hr, hL⟩ | ⟨rfl⟩ | ⟨rfl, e⟩
  · rw [nilSn]
    exact ifT_pos rfl (yes rfl rfl)
  · rw [nilSs]
    exact ifT_neg rfl go
  · rw [nilSl]
    exact ifT_neg rfl go
  · rw [nilSn]
    exact ifT_pos rfl (yes rfl (List.map_eq_nil_iff.1 e))
theorem rowsP_ok {t : AVal} {xs : List Nd} (R : PRd h t xs) (hx : xs.length ≤ 1048576) (hk : ∀ v' h', RdN h' v' xs → (∀ q o, h q = some o → h' q = some o) → K v' h') : ACalls prog 71 [t] h K := by
  refine s71_ok ?_
  unfold s71
  refine callG_of (aliveP_ok R ?_)
  rw [tBool_bool]
  obtain ⟨vN, h4, hl⟩ := R.ld
  refine ifT_neg rfl ?_
  rw [hl]
  exact callG_of (cloneN_ok h4 hx fun v' h' r x => retG_of (hk v' h' r x))
theorem likeT_ok {t r : AVal} {xs : List Nd} (P : PRd h t xs) (D : DRd h r xs) (hx : xs.length ≤ 1048576) (hk : ∀ h', (∀ q o, h q = some o → h' q = some o) → K (.bool true) h') : ACalls prog 32 [t, r] h K := by
  refine s32_ok ?_
  unfold s32
  obtain ⟨rt, vN, rfl, h2, h3⟩ := D
  rw [nilCheck_ptr, addOff_ptr, ld1_fld h2 rfl]
  refine callG_of (rowsP_ok P hx fun v' h' R x => ⟨by rw [ld1_fld (x _ _ h2) rfl], callG_of (sameN_ok R (h3.ext x) hx ?_)⟩)
  rw [tBool_bool]
  refine ifT_pos rfl ?_
  rw [nilCheck_ptr, addOff_ptr, ld1_fld (x _ _ h2) rfl, (h3.ext x).len]
  refine callG_of (lenP_ok (P.ext x) ?_)
  rw [tInt_int]
  refine ⟨by rw [ld1_fld (x _ _ h2) rfl], retG_of ?_⟩
  rw [show ((xs.length : Int) == (xs.length : Int)) = true by simp]
  exact hk h' x
theorem likeT4_ok {t r : AVal} {xs : List Nd} (P : PRd h t xs) (D : DRd h r xs) (hx : xs.length ≤ 1048576) (hk : ∀ h', (∀ q o, h q = some o → h' q = some o) → K (.bool true) h') : ACalls prog 10 [t, r] h K := by
  refine s10_ok ?_
  unfold s10
  refine callG_of (likeT_ok P D hx fun h' x => ?_)
  rw [tBool_bool]
  exact retG_of (hk h' x)
end Go.Proofs.YtobpfhmjdoekfaaGreat

namespace Go.Proofs.YtobpfhmjdoekfaaGreat
open Go Go.Sym Go.Proofs.Tryz

variable {K : AVal → Heap → Prop} {h h0 hb : Heap}

/-- the map from nodes to numbers -/
def ents : Nat → List Nd → List (AVal × AVal)
  | _, [] => []
  | s, x :: xs => (nodeV x, .int .i64 (s : Int)) :: ents (s + 1) xs
theorem ents_snoc (y : Nd) : ∀ (xs : List Nd) (s : Nat), ents s (xs ++ [y]) = ents s xs ++ [(nodeV y, .int .i64 ((s + xs.length : Nat) : Int))]
  | [], s => rfl
  | x :: xs, s => by
    simp only [List.cons_append, ents, ents_snoc y xs (s + 1), List.length_cons]
    rw [show s + 1 + xs.length = s + (xs.length + 1) by omega]
theorem keyEq_node (y x : Nd) : keyEq (nodeV y) (nodeV x) = some (ndB y x) := rfl
theorem findM_ents (y : Nd) : ∀ (xs : List Nd) (s p : Nat), findM (nodeV y) (ents s xs) p = some ((ndIx y xs).map fun i => (p + i, .int .i64 ((s + i : Nat) : Int)))
  | [], s, p => rfl
  | x :: xs, s, p => by
    unfold ents findM
    rw [keyEq_node, ndB_comm]
    unfold ndIx
    rw [List.findIdx?_cons]
    cases e : ndB x y with
    | true => simp
    | false =>
      simp only [Bool.false_eq_true, if_false]
      rw [findM_ents y xs (s + 1) (p + 1)]
      unfold ndIx
      cases List.findIdx? (fun x => ndB x y) xs with
      | none => rfl
      | some i =>
        simp only [Option.map_some]
        rw [show p + 1 + i = p + (i + 1) by omega, show s + 1 + i = s + (i + 1) by omega]
theorem putM_ents {y : Nd} {xs : List Nd} (hy : ndIx y xs = none) : putM (nodeV y) (.int .i64 (xs.length : Int)) (ents 0 xs) = some (ents 0 (xs ++ [y])) := by
  unfold putM
  rw [findM_ents, hy, ents_snoc]
  simp

/-- a program's table, and other things -/
def PP (hb : Heap) (rt : Nat) (xs : List Nd) (R : List Ow) (h : Heap) : Prop := ∃ vN q, Own hb ([.slc 4 vN (xs.map nodeV), .cell rt (.row 2 [.agg [vN, .mapr q]]), .cell q (.map (ents 0 xs))] ++ R) h
/-- a document's table, and other things -/
def DD (hb : Heap) (rd : Nat) (ys : List Nd) (R : List Ow) (h : Heap) : Prop := ∃ vM, Own hb ([.slc 4 vM (ys.map nodeV), .cell rd (.row 1 [.agg [vM]])] ++ R) h
theorem rd_own {os : List Ow} {i : Nat} {v : AVal} {xs : List Nd} (W : Own hb os h) (hi : os[i]? = some (.slc 4 v (xs.map nodeV))) : RdN h v xs := by
  rcases W.fit i _ hi with ⟨rfl, e⟩ | ⟨r, rfl⟩
  · exact .inl ⟨rfl, List.map_eq_nil_iff.1 e⟩
  · refine .inr (.inl ⟨r, xs.map nodeV, by rw [List.length_map], W.get i _ r hi rfl, fun j x hj => ?_⟩)
    rw [List.getElem?_map, hj]
    rfl
theorem PP.prd {rt : Nat} {xs : List Nd} {R : List Ow} (W : PP hb rt xs R h) : PRd h (.ptr rt 0 0) xs := by
  obtain ⟨vN, q, W⟩ := W
  exact ⟨rt, vN, q, _, rfl, W.get 1 _ rt rfl rfl, W.get 2 _ q rfl rfl, rd_own W (i := 0) rfl⟩
theorem DD.drd {rd : Nat} {ys : List Nd} {R : List Ow} (W : DD hb rd ys R h) : DRd h (.ptr rd 0 0) ys := by
  obtain ⟨vM, W⟩ := W
  exact ⟨rd, vM, rfl, W.get 1 _ rd rfl rfl, rd_own W (i := 0) rfl⟩
theorem Own.rot {A B R : List Ow} (W : Own hb (A ++ (B ++ R)) h) : Own hb (B ++ (A ++ R)) h := by
  refine W.renum _ (fun j => if j < B.length then A.length + j else if j < A.length + B.length then j - B.length else j) (fun j y hj => ?_) (fun j hj k hk e => ?_)
  · by_cases h1 : j < B.length
    · rw [if_pos h1]
      rw [List.getElem?_append_left h1] at hj
      rw [List.getElem?_append_right (by omega), Nat.add_sub_cancel_left, List.getElem?_append_left h1]
      exact hj
    · rw [if_neg h1]
      rw [List.getElem?_append_right (by omega)] at hj
      by_cases h2 : j < A.length + B.length
      · rw [if_pos h2]
        rw [List.getElem?_append_left (by omega)] at hj
        rw [List.getElem?_append_left (by omega)]
        exact hj
      · rw [if_neg h2]
        rw [List.getElem?_append_right (by omega)] at hj
        rw [List.getElem?_append_right (by omega), List.getElem?_append_right (by omega)]
        rw [show j - A.length - B.length = j - B.length - A.length by omega]
        exact hj
  · split at e <;> split at e <;> (try split at e) <;> (try split at e) <;> omega

/-- may a node be put behind n others? -/
def fitE (n : Nat) (y : Nd) : Int :=
  if y.k = 1 then (if y.l = 0 ∧ y.r = 0 then (if wordB y.s = true then 0 else 32) else 31)
  else if y.k = 2 then (if ndB y ⟨2, ByteArray.mk #[], 0, 0⟩ = true then 0 else 31)
  else if y.k = 3 ∨ y.k = 4 ∨ y.k = 5 then (if strEq y.s (ByteArray.mk #[]) = true ∧ hasN n y.l = true ∧ hasN n y.r = true then 0 else 31)
  else 31
def putE (xs : List Nd) (y : Nd) : Int := if fitE xs.length y ≠ 0 then fitE xs.length y else match ndIx y xs with
  | some _ => 0
  | none => if 1024 ≤ xs.length then 30 else 0
def putI (xs : List Nd) (y : Nd) : Int := if fitE xs.length y ≠ 0 then 0 else match ndIx y xs with
  | some i => (i : Int)
  | none => if 1024 ≤ xs.length then 0 else (xs.length : Int)
def putR (xs : List Nd) (y : Nd) : List Nd := if fitE xs.length y ≠ 0 then xs else match ndIx y xs with
  | some _ => xs
  | none => if 1024 ≤ xs.length then xs else xs ++ [y]
theorem putR_len {xs : List Nd} (h : xs.length ≤ 1024) (y : Nd) : (putR xs y).length ≤ 1024 := by
  unfold putR
  split
  · exact h
  · split
    · exact h
    · split
      · exact h
      · simp; omega


theorem DD.app {rd : Nat} {ys : List Nd} {R : List Ow} {vM : AVal} (W : Own hb ([.slc 4 vM (ys.map nodeV), .cell rd (.row 1 [.agg [vM]])] ++ R) h) (hl : ys.length < 1048576) {y : Nd} {K : AVal → Heap → Prop}
    (hk : ∀ v' h', Own hb ([.slc 4 v' ((ys ++ [y]).map nodeV), .cell rd (.row 1 [.agg [vM]])] ++ R) h' → K v' h') : appC 4 40 h vM (.lsl 4 [nodeV y]) K := by
  refine W.app (i := 0) rfl (by simp; omega) (by simp; omega) fun v' h' W2 => hk v' h' ?_
  rw [List.map_append]
  exact W2
theorem putT_c1 {rd : Nat} {ys : List Nd} {R : List Ow} (W : DD hb rd ys R h) (hx : ys.length ≤ 1024) {y : Nd} (hf : fitE ys.length y = 0)
    (hk : ∀ h', DD hb rd (putR ys y) R h' → K (.tuple [.int .i64 (putI ys y), .int .i64 (putE ys y)]) h') : s98c1 K (.ptr rd 0 0) (.lptr (nodeC y)) h := by
  have hp : ¬ fitE ys.length y ≠ 0 := fun h => h hf
  unfold putR putI putE at hk
  rw [if_neg hp, if_neg hp, if_neg hp] at hk
  unfold s98c1
  rw [ldN_node, nodeC, tCons_cons, tInt_int, tCons_cons, tStr_str, tCons_cons, tInt_int, tCons_cons, tInt_int, tNil_nil]
  refine callG_of (findT_ok W.drd (by omega) y (fun i hi => ?_) (fun hi => ?_))
  · rw [hi] at hk
    rw [tTup_tuple, tCons_cons, tInt_int, tCons_cons, tBool_bool, tNil_nil]
    exact ifT_pos rfl (retG_of (hk h W))
  · rw [hi] at hk
    simp only at hk
    rw [tTup_tuple, tCons_cons, tInt_int, tCons_cons, tBool_bool, tNil_nil]
    refine ifT_neg rfl ?_
    obtain ⟨vM, O⟩ := W
    have rc := O.get 1 _ rd rfl rfl
    rw [nilCheck_ptr, addOff_ptr, ld1_fld rc rfl, O.len (i := 0) rfl, List.length_map]
    by_cases hl : ys.length < 1024
    · rw [if_neg (by omega), if_neg (by omega), if_neg (by omega)] at hk
      refine ifT_neg (decide_eq_false (by omega)) ?_
      rw [nilCheck_ptr, addOff_ptr, ld1_fld rc rfl]
      have e0 := ldN_node h y
      rw [nodeC] at e0
      rw [e0, tCons_cons, tInt_int, tCons_cons, tStr_str, tCons_cons, tInt_int, tCons_cons, tInt_int, tNil_nil]
      refine ⟨by rw [ld1_fld rc rfl], DD.app (y := y) O (by omega) fun v' h' W2 => ?_⟩
      rw [nilCheck_ptr, addOff_ptr]
      refine chk_iff.2 ⟨(W2.sc (i := 0) rfl).1, st_fld (W2.get 1 _ rd rfl rfl) (by simp) ?_⟩
      have W3 := W2.put (i := 1) rfl (.row 1 [.agg [v']])
      rw [nilCheck_ptr, addOff_ptr]
      have r3 := W3.get 1 _ rd rfl rfl
      refine Eq.mpr (ld1_fld r3 rfl _) ?_
      rw [W3.len (i := 0) rfl]
      simp only [List.length_map, List.length_append, List.length_singleton]
      refine rg_of (by omega) (by omega) (retG_of ?_)
      rw [show ((ys.length + 1 : Nat) : Int) - 1 = (ys.length : Int) by omega]
      exact hk _ ⟨v', W3⟩
    · rw [if_pos (by omega), if_pos (by omega), if_pos (by omega)] at hk
      exact ifT_pos (decide_eq_true (by omega)) (retG_of (hk h ⟨vM, O⟩))

theorem hasN_iff {n : Nat} {i : Int} : hasN n i = true ↔ 0 ≤ i ∧ i < n := by unfold hasN; simp
theorem putT_ok {rd : Nat} {ys : List Nd} {R : List Ow} (W : DD hb rd ys R h) (hx : ys.length ≤ 1024) (y : Nd)
    (hk : ∀ h', DD hb rd (putR ys y) R h' → K (.tuple [.int .i64 (putI ys y), .int .i64 (putE ys y)]) h') : ACalls prog 98 [.ptr rd 0 0, nodeV y] h K := by
  have bad : ∀ e : Int, e ≠ 0 → fitE ys.length y = e → retG (.tuple [.int .i64 0, .int .i64 e]) h K := fun e he hf => by
    have hp : fitE ys.length y ≠ 0 := by rw [hf]; exact he
    unfold putR putI putE at hk
    rw [if_pos hp, if_pos hp, if_pos hp, hf] at hk
    exact retG_of (hk h W)
  have good : fitE ys.length y = 0 → s98c1 K (.ptr rd 0 0) (.lptr (nodeC y)) h := fun hf => putT_c1 W hx hf hk
  clear hk
  obtain ⟨k, s, l, r⟩ := y
  refine s98_ok ?_
  unfold s98
  unfold fitE at bad good
  by_cases k1 : k = 1
  · subst k1
    simp only [if_true] at bad good
    have c2 : ∀ t : Bool, (t = true ↔ ¬ (l = 0 ∧ r = 0)) → s98c2 K (.ptr rd 0 0) (.lptr (nodeC ⟨1, s, l, r⟩)) t h := by
      intro t ht
      cases t with
      | true => exact ifT_pos rfl (bad 31 (by decide) (by rw [if_neg (ht.1 rfl)]))
      | false =>
        have hlr : l = 0 ∧ r = 0 := Decidable.not_not.1 fun h => by have := ht.2 h; cases this
        rw [if_pos hlr] at bad good
        refine ifT_neg rfl ?_
        simp only [nodeC, addOff_lptr, List.drop_succ_cons, List.drop_zero, ld1_lptr, tStr_str]
        refine callG_of (word3_ok _ ?_)
        rw [tBool_bool]
        cases hw : wordB s with
        | false => exact ifT_pos rfl (bad 32 (by decide) (by rw [hw, if_neg (by decide)]))
        | true => exact ifT_neg rfl (good (by rw [hw, if_pos rfl]))
    refine ifT_pos rfl ?_
    by_cases hl : l = 0
    · exact ifT_neg (by simp [hl]) (c2 _ (by simp [hl]))
    · exact ifT_pos (by simpa using hl) (c2 _ (by simp [hl]))
  · refine ifT_neg (by simpa using k1) ?_
    simp only [k1, if_false] at bad good
    by_cases k2 : k = 2
    · subst k2
      simp only [if_true] at bad good
      have c3 : ∀ t : Bool, (t = true ↔ ¬ (ndB ⟨2, s, l, r⟩ ⟨2, ByteArray.mk #[], 0, 0⟩ = true)) → s98c3 K (.ptr rd 0 0) (.lptr (nodeC ⟨2, s, l, r⟩)) t h := by
        intro t ht
        cases t with
        | true => exact ifT_pos rfl (bad 31 (by decide) (by rw [if_neg (ht.1 rfl)]))
        | false =>
          have hlr := Decidable.not_not.1 fun h => by have := ht.2 h; cases this
          exact ifT_neg rfl (good (by rw [if_pos hlr]))
      refine ifT_pos rfl ?_
      unfold ndB at c3
      cases hs : strEq s (ByteArray.mk #[]) with
      | false => exact ifT_pos rfl (c3 _ (by simp [hs]))
      | true =>
        refine ifT_neg rfl ?_
        by_cases hl : l = 0
        · exact ifT_neg (by simp [hl]) (c3 _ (by simp [hs, hl]))
        · exact ifT_pos (by simpa using hl) (c3 _ (by simp [hl]))
    · refine ifT_neg (by simpa using k2) ?_
      simp only [k2, if_false] at bad good
      have c5 : (k = 3 ∨ k = 4 ∨ k = 5) → ∀ t : Bool, (t = true ↔ ¬ (strEq s (ByteArray.mk #[]) = true ∧ hasN ys.length l = true ∧ hasN ys.length r = true)) → s98c5 K (.ptr rd 0 0) (.lptr (nodeC ⟨k, s, l, r⟩)) t h := by
        intro hk3 t ht
        rw [if_pos hk3] at bad good
        cases t with
        | true => exact ifT_pos rfl (bad 31 (by decide) (by rw [if_neg (ht.1 rfl)]))
        | false =>
          have hlr := Decidable.not_not.1 fun h => by have := ht.2 h; cases this
          exact ifT_neg rfl (good (by rw [if_pos hlr]))
      have c4 : (k = 3 ∨ k = 4 ∨ k = 5) → s98c4 K (.ptr rd 0 0) (.lptr (nodeC ⟨k, s, l, r⟩)) true h := by
        intro hk3
        have c5 := c5 hk3
        refine ifT_pos rfl ?_
        simp only [nodeC, addOff_lptr, List.drop_succ_cons, List.drop_zero, ld1_lptr, tStr_str, tInt_int]
        cases hs : strEq s (ByteArray.mk #[]) with
        | false => exact ifT_pos rfl (c5 true (by simp [hs]))
        | true =>
          refine ifT_neg rfl (callG_of (hasT_ok W.drd l ?_))
          rw [tBool_bool]
          cases hl : hasN ys.length l with
          | false => exact ifT_pos rfl (c5 true (by simp [hl]))
          | true =>
            refine ifT_neg rfl (callG_of (hasT_ok W.drd r ?_))
            rw [tBool_bool]
            exact c5 _ (by simp [hs, hl])
      by_cases k3 : k = 3
      · refine ifT_pos (by simpa using k3) ?_
        rw [show (k == 3) = true by simpa using k3]
        exact c4 (.inl k3)
      · refine ifT_neg (by simpa using k3) ?_
        by_cases k4 : k = 4
        · refine ifT_pos (by simpa using k4) ?_
          rw [show (k == 4) = true by simpa using k4]
          exact c4 (.inr (.inl k4))
        · refine ifT_neg (by simpa using k4) ?_
          by_cases k5 : k = 5
          · rw [show (k == 5) = true by simpa using k5]
            exact c4 (.inr (.inr k5))
          · rw [show (k == 5) = false by simpa using k5]
            exact ifT_neg rfl (bad 31 (by decide) (by rw [if_neg (by omega)]))

theorem fitsP_ok {t : AVal} {xs : List Nd} (P : PRd h t xs) (y : Nd) (hs : y.s.size ≤ 1073741824) (hk : K (.int .i64 (fitE xs.length y)) h) : ACalls prog 111 [t, nodeV y] h K := by
  obtain ⟨k, s, l, r⟩ := y
  refine s111_ok ?_
  unfold s111
  unfold fitE at hk
  have c1 : K (.int .i64 0) h → s111c1 K h := fun hk => retG_of hk
  by_cases k1 : k = 1
  · subst k1
    simp only [if_true] at hk
    have c2 : ∀ t : Bool, (t = true ↔ ¬ (l = 0 ∧ r = 0)) → s111c2 K (.lptr (nodeC ⟨1, s, l, r⟩)) t h := by
      intro t ht
      cases t with
      | true => exact ifT_pos rfl (retG_of (by rwa [if_neg (ht.1 rfl)] at hk))
      | false =>
        have hlr : l = 0 ∧ r = 0 := Decidable.not_not.1 fun h => by have := ht.2 h; cases this
        rw [if_pos hlr] at hk
        refine ifT_neg rfl ?_
        simp only [nodeC, addOff_lptr, List.drop_succ_cons, List.drop_zero, ld1_lptr, tStr_str]
        refine callG_of (word_ok _ hs ?_)
        rw [tBool_bool]
        cases hw : wordB s with
        | false => exact ifT_pos rfl (retG_of (by rwa [hw, if_neg (by decide)] at hk))
        | true => exact ifT_neg rfl (c1 (by rwa [hw, if_pos rfl] at hk))
    refine ifT_pos rfl ?_
    by_cases hl : l = 0
    · exact ifT_neg (by simp [hl]) (c2 _ (by simp [hl]))
    · exact ifT_pos (by simpa using hl) (c2 _ (by simp [hl]))
  · refine ifT_neg (by simpa using k1) ?_
    simp only [k1, if_false] at hk
    by_cases k2 : k = 2
    · subst k2
      simp only [if_true] at hk
      refine ifT_pos rfl (eqNodeX (x := ⟨2, s, l, r⟩) (y := ⟨2, ByteArray.mk #[], 0, 0⟩) ?_)
      cases e : ndB ⟨2, s, l, r⟩ ⟨2, ByteArray.mk #[], 0, 0⟩ with
      | true => exact ifT_neg rfl (c1 (by rwa [e, if_pos rfl] at hk))
      | false => exact ifT_pos rfl (retG_of (by rwa [e, if_neg (by decide)] at hk))
    · refine ifT_neg (by simpa using k2) ?_
      simp only [k2, if_false] at hk
      have c4 : (k = 3 ∨ k = 4 ∨ k = 5) → ∀ b : Bool, (b = true ↔ ¬ (strEq s (ByteArray.mk #[]) = true ∧ hasN xs.length l = true ∧ hasN xs.length r = true)) → s111c4 K b h := by
        intro hk3 b hb
        rw [if_pos hk3] at hk
        cases b with
        | true => exact ifT_pos rfl (retG_of (by rwa [if_neg (hb.1 rfl)] at hk))
        | false =>
          have hlr := Decidable.not_not.1 fun h => by have := hb.2 h; cases this
          exact ifT_neg rfl (c1 (by rwa [if_pos hlr] at hk))
      have c3 : (k = 3 ∨ k = 4 ∨ k = 5) → s111c3 K t (.lptr (nodeC ⟨k, s, l, r⟩)) true h := by
        intro hk3
        have c4 := c4 hk3
        refine ifT_pos rfl ?_
        simp only [nodeC, addOff_lptr, List.drop_succ_cons, List.drop_zero, ld1_lptr, tStr_str, tInt_int]
        cases hs : strEq s (ByteArray.mk #[]) with
        | false => exact ifT_pos rfl (c4 true (by simp [hs]))
        | true =>
          refine ifT_neg rfl (callG_of (hasP_ok P l ?_))
          rw [tBool_bool]
          cases hl : hasN xs.length l with
          | false => exact ifT_pos rfl (c4 true (by simp [hl]))
          | true =>
            refine ifT_neg rfl (callG_of (hasP_ok P r ?_))
            rw [tBool_bool]
            exact c4 _ (by simp [hs, hl])
      by_cases k3 : k = 3
      · refine ifT_pos (by simpa using k3) ?_
        rw [show (k == 3) = true by simpa using k3]
        exact c3 (.inl k3)
      · refine ifT_neg (by simpa using k3) ?_
        by_cases k4 : k = 4
        · refine ifT_pos (by simpa using k4) ?_
          rw [show (k == 4) = true by simpa using k4]
          exact c3 (.inr (.inl k4))
        · refine ifT_neg (by simpa using k4) ?_
          by_cases k5 : k = 5
          · rw [show (k == 5) = true by simpa using k5]
            exact c3 (.inr (.inr k5))
          · rw [show (k == 5) = false by simpa using k5]
            exact ifT_neg rfl (retG_of (by rwa [if_neg (by omega)] at hk))

theorem mapGet_ents {h : Heap} {q : Nat} {xs : List Nd} (hq : h q = some (.map (ents 0 xs))) (y : Nd) (K : AVal → Bool → Prop) :
    mapGet (.int .i64 0) h (.mapr q) (nodeV y) K = match ndIx y xs with
      | some i => K (.int .i64 (i : Int)) true
      | none => K (.int .i64 0) false := by
  unfold mapGet mapGetR entsA
  simp only [hq, findM_ents]
  cases ndIx y xs with
  | none => rfl
  | some i => simp
theorem mapPut_map {h : Heap} {q : Nat} {l l' : List (AVal × AVal)} {k v : AVal} (hq : h q = some (.map l)) (hl : putM k v l = some l') (K : Heap → Prop) : mapPut h (.mapr q) k v K = K (h.set q (.map l')) := by
  unfold mapPut mapPutR
  simp only [hq, hl]
theorem putP_ok {rt : Nat} {xs : List Nd} {R : List Ow} (W : PP hb rt xs R h) (hx : xs.length ≤ 1024) (y : Nd) (hs : y.s.size ≤ 1073741824)
    (hk : ∀ h', PP hb rt (putR xs y) R h' → K (.tuple [.int .i64 (putI xs y), .int .i64 (putE xs y)]) h') : ACalls prog 99 [.ptr rt 0 0, nodeV y] h K := by
  obtain ⟨k, s, l, r⟩ := y
  refine s99_ok ?_
  unfold s99
  refine callG_of (aliveP_ok W.prd ?_)
  rw [tBool_bool]
  refine ifT_neg rfl (callG_of (fitsP_ok W.prd ⟨k, s, l, r⟩ hs ?_))
  rw [tInt_int]
  unfold putR putI putE at hk
  by_cases hf : fitE xs.length ⟨k, s, l, r⟩ = 0
  · have hp : ¬ fitE xs.length ⟨k, s, l, r⟩ ≠ 0 := fun h => h hf
    rw [if_neg hp, if_neg hp, if_neg hp] at hk
    refine ifT_neg (by simpa using hf) ?_
    obtain ⟨vN, q, O⟩ := W
    have rc := O.get 1 _ rt rfl rfl
    have rq := O.get 2 _ q rfl rfl
    rw [nilCheck_ptr, addOff_ptr, ld1_fld rc rfl]
    refine Eq.mpr (mapGet_ents rq ⟨k, s, l, r⟩ _) ?_
    cases hi : ndIx ⟨k, s, l, r⟩ xs with
    | some i =>
      rw [hi] at hk
      simp only
      rw [tInt_int]
      exact ifT_pos rfl (retG_of (hk h ⟨vN, q, O⟩))
    | none =>
      rw [hi] at hk
      simp only at hk ⊢
      rw [tInt_int]
      refine ifT_neg rfl ?_
      rw [nilCheck_ptr, addOff_ptr, ld1_fld rc rfl, O.len (i := 0) rfl, List.length_map]
      by_cases hl : xs.length < 1024
      · rw [if_neg (by omega), if_neg (by omega), if_neg (by omega)] at hk
        refine ifT_neg (decide_eq_false (by omega)) ?_
        rw [nilCheck_ptr, addOff_ptr, ld1_fld rc rfl]
        refine ⟨by rw [ld1_fld rc rfl], O.app (i := 0) rfl (by simp; omega) (by simp; omega) fun v' h' W2 => ?_⟩
        rw [nilCheck_ptr, addOff_ptr]
        refine chk_iff.2 ⟨(W2.sc (i := 0) rfl).1, st_fld (W2.get 1 _ rt rfl rfl) (by simp) ?_⟩
        have W3 := W2.put (i := 1) rfl (.row 2 [.agg [v', .mapr q]])
        have r3 := W3.get 1 _ rt rfl rfl
        rw [nilCheck_ptr, addOff_ptr]
        refine Eq.mpr (ld1_fld r3 rfl _) ?_
        have q3 := W3.get 2 _ q rfl rfl
        have hput := putM_ents hi
        refine Eq.mpr (mapPut_map q3 hput _) ?_
        refine retG_of (hk _ ⟨v', q, ?_⟩)
        have W4 := W3.put (i := 2) rfl (.map (ents 0 (xs ++ [⟨k, s, l, r⟩])))
        rw [List.map_append]
        exact W4
      · rw [if_pos (by omega), if_pos (by omega), if_pos (by omega)] at hk
        exact ifT_pos (decide_eq_true (by omega)) (retG_of (hk h ⟨vN, q, O⟩))
  · rw [if_pos hf, if_pos hf, if_pos hf] at hk
    exact ifT_pos (by simpa using hf) (retG_of (hk h W))
end Go.Proofs.YtobpfhmjdoekfaaGreat

namespace Go.Proofs.YtobpfhmjdoekfaaGreat
open Go Go.Sym Go.Proofs.Tryz

variable {K : AVal → Heap → Prop} {h h0 hb : Heap}

def ndAtom (s : ByteArray) : Nd := ⟨1, s, 0, 0⟩
def ndBot : Nd := ⟨2, ByteArray.mk #[], 0, 0⟩
def ndTwo (k : Int) (a b : Int) : Nd := ⟨k, ByteArray.mk #[], a, b⟩
theorem size0 : (ByteArray.mk #[]).size ≤ 1073741824 := by decide
theorem atomP_ok {rt : Nat} {xs : List Nd} {R : List Ow} (W : PP hb rt xs R h) (hx : xs.length ≤ 1024) (s : ByteArray) (hs : s.size ≤ 1073741824)
    (hk : ∀ h', PP hb rt (putR xs (ndAtom s)) R h' → K (.tuple [.int .i64 (putI xs (ndAtom s)), .int .i64 (putE xs (ndAtom s))]) h') : ACalls prog 60 [.ptr rt 0 0, .str s] h K := by
  refine s60_ok ?_
  unfold s60
  refine callG_of (putP_ok W hx (ndAtom s) hs fun h' W' => ?_)
  rw [tTup_tuple, tCons_cons, tInt_int, tCons_cons, tInt_int, tNil_nil]
  exact retG_of (hk h' W')
theorem botP_ok {rt : Nat} {xs : List Nd} {R : List Ow} (W : PP hb rt xs R h) (hx : xs.length ≤ 1024)
    (hk : ∀ h', PP hb rt (putR xs (ndBot)) R h' → K (.tuple [.int .i64 (putI xs (ndBot)), .int .i64 (putE xs (ndBot))]) h') : ACalls prog 58 [.ptr rt 0 0] h K := by
  refine s58_ok ?_
  unfold s58
  refine callG_of (putP_ok W hx (ndBot) size0 fun h' W' => ?_)
  rw [tTup_tuple, tCons_cons, tInt_int, tCons_cons, tInt_int, tNil_nil]
  exact retG_of (hk h' W')
theorem impP3_ok {rt : Nat} {xs : List Nd} {R : List Ow} (W : PP hb rt xs R h) (hx : xs.length ≤ 1024) (a b : Int)
    (hk : ∀ h', PP hb rt (putR xs (ndTwo 5 a b)) R h' → K (.tuple [.int .i64 (putI xs (ndTwo 5 a b)), .int .i64 (putE xs (ndTwo 5 a b))]) h') : ACalls prog 59 [.ptr rt 0 0, .int .i64 a, .int .i64 b] h K := by
  refine s59_ok ?_
  unfold s59
  refine callG_of (putP_ok W hx (ndTwo 5 a b) size0 fun h' W' => ?_)
  rw [tTup_tuple, tCons_cons, tInt_int, tCons_cons, tInt_int, tNil_nil]
  exact retG_of (hk h' W')
theorem orP3_ok {rt : Nat} {xs : List Nd} {R : List Ow} (W : PP hb rt xs R h) (hx : xs.length ≤ 1024) (a b : Int)
    (hk : ∀ h', PP hb rt (putR xs (ndTwo 4 a b)) R h' → K (.tuple [.int .i64 (putI xs (ndTwo 4 a b)), .int .i64 (putE xs (ndTwo 4 a b))]) h') : ACalls prog 62 [.ptr rt 0 0, .int .i64 a, .int .i64 b] h K := by
  refine s62_ok ?_
  unfold s62
  refine callG_of (putP_ok W hx (ndTwo 4 a b) size0 fun h' W' => ?_)
  rw [tTup_tuple, tCons_cons, tInt_int, tCons_cons, tInt_int, tNil_nil]
  exact retG_of (hk h' W')
theorem atomT_ok {rt : Nat} {xs : List Nd} {R : List Ow} (W : DD hb rt xs R h) (hx : xs.length ≤ 1024) (s : ByteArray)
    (hk : ∀ h', DD hb rt (putR xs (ndAtom s)) R h' → K (.tuple [.int .i64 (putI xs (ndAtom s)), .int .i64 (putE xs (ndAtom s))]) h') : ACalls prog 67 [.ptr rt 0 0, .str s] h K := by
  refine s67_ok ?_
  unfold s67
  refine callG_of (putT_ok W hx (ndAtom s) fun h' W' => ?_)
  rw [tTup_tuple, tCons_cons, tInt_int, tCons_cons, tInt_int, tNil_nil]
  exact retG_of (hk h' W')
theorem botT_ok {rt : Nat} {xs : List Nd} {R : List Ow} (W : DD hb rt xs R h) (hx : xs.length ≤ 1024)
    (hk : ∀ h', DD hb rt (putR xs (ndBot)) R h' → K (.tuple [.int .i64 (putI xs (ndBot)), .int .i64 (putE xs (ndBot))]) h') : ACalls prog 65 [.ptr rt 0 0] h K := by
  refine s65_ok ?_
  unfold s65
  refine callG_of (putT_ok W hx (ndBot) fun h' W' => ?_)
  rw [tTup_tuple, tCons_cons, tInt_int, tCons_cons, tInt_int, tNil_nil]
  exact retG_of (hk h' W')
theorem twoT_ok {rt : Nat} {xs : List Nd} {R : List Ow} (W : DD hb rt xs R h) (hx : xs.length ≤ 1024) (k a b : Int)
    (hk : ∀ h', DD hb rt (putR xs (ndTwo k a b)) R h' → K (.tuple [.int .i64 (putI xs (ndTwo k a b)), .int .i64 (putE xs (ndTwo k a b))]) h') : ACalls prog 69 [.ptr rt 0 0, .int .i64 k, .int .i64 a, .int .i64 b] h K := by
  refine s69_ok ?_
  unfold s69
  refine callG_of (putT_ok W hx (ndTwo k a b) fun h' W' => ?_)
  rw [tTup_tuple, tCons_cons, tInt_int, tCons_cons, tInt_int, tNil_nil]
  exact retG_of (hk h' W')
theorem impT3_ok {rt : Nat} {xs : List Nd} {R : List Ow} (W : DD hb rt xs R h) (hx : xs.length ≤ 1024) (a b : Int)
    (hk : ∀ h', DD hb rt (putR xs (ndTwo 5 a b)) R h' → K (.tuple [.int .i64 (putI xs (ndTwo 5 a b)), .int .i64 (putE xs (ndTwo 5 a b))]) h') : ACalls prog 66 [.ptr rt 0 0, .int .i64 a, .int .i64 b] h K := by
  refine s66_ok ?_
  unfold s66
  refine callG_of (twoT_ok W hx 5 a b fun h' W' => ?_)
  rw [tTup_tuple, tCons_cons, tInt_int, tCons_cons, tInt_int, tNil_nil]
  exact retG_of (hk h' W')
/-- not a: number, error, rows -/
def notI (xs : List Nd) (a : Int) : Int := if hasN xs.length a = true then (if putE xs ndBot ≠ 0 then 0 else putI (putR xs ndBot) (ndTwo 5 a (putI xs ndBot))) else 0
def notE (xs : List Nd) (a : Int) : Int := if hasN xs.length a = true then (if putE xs ndBot ≠ 0 then putE xs ndBot else putE (putR xs ndBot) (ndTwo 5 a (putI xs ndBot))) else 31
def notR (xs : List Nd) (a : Int) : List Nd := if hasN xs.length a = true then (if putE xs ndBot ≠ 0 then putR xs ndBot else putR (putR xs ndBot) (ndTwo 5 a (putI xs ndBot))) else xs
theorem notR_len {xs : List Nd} (h : xs.length ≤ 1024) (a : Int) : (notR xs a).length ≤ 1024 := by
  unfold notR
  split
  · split
    · exact putR_len h _
    · exact putR_len (putR_len h _) _
  · exact h
theorem notP_ok {rt : Nat} {xs : List Nd} {R : List Ow} (W : PP hb rt xs R h) (hx : xs.length ≤ 1024) (a : Int)
    (hk : ∀ h', PP hb rt (notR xs a) R h' → K (.tuple [.int .i64 (notI xs a), .int .i64 (notE xs a)]) h') : ACalls prog 61 [.ptr rt 0 0, .int .i64 a] h K := by
  refine s61_ok ?_
  unfold s61
  unfold notR notI notE at hk
  refine callG_of (aliveP_ok W.prd ?_)
  rw [tBool_bool]
  refine ifT_neg rfl ?_
  refine callG_of (hasP_ok W.prd a ?_)
  rw [tBool_bool]
  cases e : hasN xs.length a with
  | false =>
    rw [e, if_neg (by decide), if_neg (by decide), if_neg (by decide)] at hk
    exact ifT_pos rfl (retG_of (hk h W))
  | true =>
    rw [e, if_pos rfl, if_pos rfl, if_pos rfl] at hk
    refine ifT_neg rfl (callG_of (botP_ok W hx fun h' W' => ?_))
    rw [tTup_tuple, tCons_cons, tInt_int, tCons_cons, tInt_int, tNil_nil]
    by_cases e2 : putE xs ndBot = 0
    · have hn : ¬ putE xs ndBot ≠ 0 := fun h => h e2
      rw [if_neg hn, if_neg hn, if_neg hn] at hk
      refine ifT_neg (by simpa using e2) (callG_of (impP3_ok W' (putR_len hx _) _ _ fun h2 W2 => ?_))
      rw [tTup_tuple, tCons_cons, tInt_int, tCons_cons, tInt_int, tNil_nil]
      exact retG_of (hk h2 W2)
    · rw [if_pos e2, if_pos e2, if_pos e2] at hk
      exact ifT_pos (by simpa using e2) (retG_of (hk h' W'))
theorem notT_ok {rt : Nat} {xs : List Nd} {R : List Ow} (W : DD hb rt xs R h) (hx : xs.length ≤ 1024) (a : Int)
    (hk : ∀ h', DD hb rt (notR xs a) R h' → K (.tuple [.int .i64 (notI xs a), .int .i64 (notE xs a)]) h') : ACalls prog 68 [.ptr rt 0 0, .int .i64 a] h K := by
  refine s68_ok ?_
  unfold s68
  unfold notR notI notE at hk
  refine callG_of (hasT_ok W.drd a ?_)
  rw [tBool_bool]
  cases e : hasN xs.length a with
  | false =>
    rw [e, if_neg (by decide), if_neg (by decide), if_neg (by decide)] at hk
    exact ifT_pos rfl (retG_of (hk h W))
  | true =>
    rw [e, if_pos rfl, if_pos rfl, if_pos rfl] at hk
    refine ifT_neg rfl (callG_of (botT_ok W hx fun h' W' => ?_))
    rw [tTup_tuple, tCons_cons, tInt_int, tCons_cons, tInt_int, tNil_nil]
    by_cases e2 : putE xs ndBot = 0
    · have hn : ¬ putE xs ndBot ≠ 0 := fun h => h e2
      rw [if_neg hn, if_neg hn, if_neg hn] at hk
      refine ifT_neg (by simpa using e2) (callG_of (impT3_ok W' (putR_len hx _) _ _ fun h2 W2 => ?_))
      rw [tTup_tuple, tCons_cons, tInt_int, tCons_cons, tInt_int, tNil_nil]
      exact retG_of (hk h2 W2)
    · rw [if_pos e2, if_pos e2, if_pos e2] at hk
      exact ifT_pos (by simpa using e2) (retG_of (hk h' W'))

/- ---- tables made of rows ---- -/
def okTab (xs : List Nd) : Prop := ∀ (i : Nat) (x : Nd), xs[i]? = some x → putE (xs.take i) x = 0 ∧ putI (xs.take i) x = (i : Int)
theorem put_next {xs : List Nd} {y : Nd} (he : putE xs y = 0) (hi : putI xs y = (xs.length : Int)) : putR xs y = xs ++ [y] ∧ xs.length < 1024 := by
  unfold putE at he
  unfold putI at hi
  unfold putR
  by_cases hf : fitE xs.length y ≠ 0
  · rw [if_pos hf] at he
    exact absurd he hf
  · rw [if_neg hf] at he hi ⊢
    cases h : ndIx y xs with
    | some i =>
      rw [h] at hi
      simp only at hi
      have := (List.getElem?_eq_some_iff.1 (ndIx_some h)).1
      omega
    | none =>
      rw [h] at he hi
      simp only at he hi ⊢
      by_cases hl : 1024 ≤ xs.length
      · rw [if_pos hl] at he
        cases he
      · rw [if_neg hl]
        exact ⟨rfl, by omega⟩
theorem fromT_l1 {rd : Nat} {v : AVal} {xs : List Nd} (hv : Nodes v xs) (hxs : xs.length ≤ 1048576) (bad : ¬ okTab xs → ∀ e : Int, e ≠ 0 → K (.tuple [.nilptr, .int .i64 e]) h0) (good : okTab xs → xs.length ≤ 1024 → ∀ h', DD h0 rd xs [] h' → K (.tuple [.ptr rd 0 0, .int .i64 0]) h') :
    ∀ d i : Nat, i + d = xs.length → i ≤ 1024 → (∀ (j : Nat) (x : Nd), j < i → xs[j]? = some x → putE (xs.take j) x = 0 ∧ putI (xs.take j) x = (j : Int)) → ∀ h, DD h0 rd (xs.take i) [] h → s54l1 K (d + 1) v (.ptr rd 0 0) (i : Int) h
  | 0, i, hd, hi, hok, h, W => by
    unfold s54l1
    rw [hv.len]
    refine ifT_neg (by simp; omega) (retG_of ?_)
    rw [List.take_of_length_le (by omega)] at W
    refine good (fun j x hj => hok j x ?_ hj) (by omega) h W
    have := (List.getElem?_eq_some_iff.1 hj).1
    omega
  | d + 1, i, hd, hi, hok, h, W => by
    have hil : i < xs.length := by omega
    have htl : (xs.take i).length = i := by rw [List.length_take]; omega
    unfold s54l1
    rw [hv.len]
    refine ifT_pos (by simp; omega) ?_
    rw [hv.ix hil, ldN_node, nodeC, tCons_cons, tInt_int, tCons_cons, tStr_str, tCons_cons, tInt_int, tCons_cons, tInt_int, tNil_nil]
    have drop : ∀ h', DD h0 rd (putR (xs.take i) xs[i]) [] h' → ∀ q o, h0 q = some o → h' q = some o := fun h' ⟨_, O⟩ => O.old
    refine callG_of (putT_ok W (by omega) xs[i] fun h' W2 => ?_)
    rw [tTup_tuple, tCons_cons, tInt_int, tCons_cons, tInt_int, tNil_nil]
    by_cases he : putE (xs.take i) xs[i] = 0
    · refine ifT_neg (by simpa using he) ?_
      by_cases hI : putI (xs.take i) xs[i] = (i : Int)
      · refine ifT_neg (by simpa using hI) (rg_of (by omega) (by omega) (s54l1_go ?_))
        obtain ⟨e1, e2⟩ := put_next he (by rw [htl]; exact hI)
        rw [e1, ← List.take_succ_eq_append_getElem hil] at W2
        rw [htl] at e2
        refine fromT_l1 hv hxs bad good d (i + 1) (by omega) (by omega) (fun j x hj hx => ?_) h' W2
        rcases Nat.lt_or_ge j i with h1 | h1
        · exact hok j x h1 hx
        · obtain rfl : j = i := by omega
          rw [List.getElem?_eq_getElem hil] at hx
          cases hx
          exact ⟨he, hI⟩
      · refine ifT_pos (by simpa using hI) (retG_drop (drop h' W2) (bad (fun ok => hI (ok i _ (List.getElem?_eq_getElem hil)).2) 31 (by decide)))
    · exact ifT_pos (by simpa using he) (retG_drop (drop h' W2) (bad (fun ok => he (ok i _ (List.getElem?_eq_getElem hil)).1) _ he))
theorem fromT_ok {v : AVal} {xs : List Nd} (hv : Nodes v xs) (hxs : xs.length ≤ 1048576) (bad : ¬ okTab xs → ∀ e : Int, e ≠ 0 → K (.tuple [.nilptr, .int .i64 e]) h0) (good : okTab xs → xs.length ≤ 1024 → ∀ rd h', DD h0 rd xs [] h' → K (.tuple [.ptr rd 0 0, .int .i64 0]) h') :
    ACalls prog 54 [v] h0 K := by
  refine s54_ok (newRow_in fun rd hrd => s54l1_in (xs.length + 1) (fromT_l1 hv hxs bad (fun ok hl h' W => good ok hl rd h' W) xs.length 0 (by omega) (by omega) (fun j x hj => by omega) _ ⟨.nilsl, ?_⟩))
  exact ((Own.start h0).newN 4).newC hrd (.row 1 [.agg [.nilsl]])

theorem Own.swap13 {a b c : Ow} {R : List Ow} (W : Own hb ([a, b, c] ++ R) h) : Own hb ([c, b, a] ++ R) h := by
  refine W.renum _ (fun j => if j = 0 then 2 else if j = 2 then 0 else j) (fun j y hj => ?_) (fun j _ k _ e => ?_)
  · match j, hj with
    | 0, hj => exact hj
    | 1, hj => exact hj
    | 2, hj => exact hj
    | j + 3, hj => exact hj
  · split at e <;> split at e <;> (try split at e) <;> (try split at e) <;> omega
theorem newP_ok {R : List Ow} (W : Own hb R h) (hk : ∀ rt h', PP hb rt [] R h' → K (.ptr rt 0 0) h') : ACalls prog 22 [] h K := by
  refine s22_ok ?_
  unfold s22
  intro q hq _
  refine newRow_in fun rt hrt => retG_of (hk rt _ ⟨.nilsl, q, ?_⟩)
  have W1 := ((W.newC hq (.map [])).newC hrt (.row 2 [.agg [.nilsl, .mapr q]])).newN 4
  rw [List.append_assoc, List.append_assoc] at W1
  have W2 := Own.rot (A := R) (B := [.cell q (.map [])] ++ ([.cell rt (.row 2 [.agg [.nilsl, .mapr q]])] ++ [.slc 4 .nilsl []])) (R := []) (by rw [List.append_nil]; exact W1)
  rw [List.append_nil] at W2
  exact Own.swap13 W2
theorem Own.skip {os : List Ow} (W : Own hb os h) {r : Nat} (hr : h r = none) (o : AObj) : Own hb os (h.set r o) := (W.newC hr o).pop
theorem PP.skip {rt : Nat} {xs : List Nd} {R : List Ow} (W : PP hb rt xs R h) {r : Nat} (hr : h r = none) (o : AObj) : PP hb rt xs R (h.set r o) := by
  obtain ⟨vN, q, O⟩ := W
  exact ⟨vN, q, Own.skip O hr o⟩
theorem st4 {H : Heap} {r : Nat} {cs ds : List AVal} (hr : H r = some (.row 4 [.agg cs])) (hc : cs.length = 4) (hd : ds.length = 4) {X : Heap → Prop} (hx : X (H.set r (.row 4 [.agg ds]))) : st false H (.ptr r 0 0) ds X := st_all hr (by omega) hx

theorem fromP_l1 {rt : Nat} {R : List Ow} {v : AVal} {xs : List Nd} (hv : Nodes v xs) (ok : okTab xs) (hl : xs.length ≤ 1024) (hs : ∀ x ∈ xs, x.s.size ≤ 1073741824) (good : ∀ h', PP hb rt xs R h' → K (.tuple [.ptr rt 0 0, .int .i64 0]) h') :
    ∀ d i : Nat, i + d = xs.length → ∀ h, PP hb rt (xs.take i) R h → s55l1 K (d + 1) (.ptr rt 0 0) v (xs.length : Int) (i : Int) h
  | 0, i, hd, h, W => by
    unfold s55l1
    refine ifT_neg (by simp; omega) (retG_of ?_)
    rw [List.take_of_length_le (by omega)] at W
    exact good h W
  | d + 1, i, hd, h, W => by
    have hil : i < xs.length := by omega
    have htl : (xs.take i).length = i := by rw [List.length_take]; omega
    unfold s55l1
    refine ifT_pos (by simp; omega) ?_
    rw [hv.ix hil, ldN_node, nodeC, tCons_cons, tInt_int, tCons_cons, tStr_str, tCons_cons, tInt_int, tCons_cons, tInt_int, tNil_nil]
    refine newRow_in fun r hr => st4 (Heap.set_same _ _ _) rfl rfl ?_
    rw [Heap.set_set, ldN_elem (n := 4) (i := 0) (cs := nodeC xs[i]) (Heap.set_same _ _ _) rfl rfl]
    rw [nodeC, tCons_cons, tInt_int, tCons_cons, tStr_str, tCons_cons, tInt_int, tCons_cons, tInt_int, tNil_nil]
    refine callG_of (putP_ok (W.skip hr _) (by omega) xs[i] (hs _ (List.getElem_mem hil)) fun h' W2 => ?_)
    rw [tTup_tuple, tCons_cons, tInt_int, tCons_cons, tInt_int, tNil_nil]
    obtain ⟨he, hI⟩ := ok i _ (List.getElem?_eq_getElem hil)
    obtain ⟨e1, e2⟩ := put_next he (by rw [htl]; exact hI)
    rw [e1, ← List.take_succ_eq_append_getElem hil] at W2
    rw [he, hI]
    refine ifT_pos rfl ?_
    unfold s55c3
    refine ifT_neg (by simp) ?_
    unfold s55c2
    refine ifT_neg rfl (rg_of (by omega) (by omega) (s55l1_go ?_))
    exact fromP_l1 hv ok hl hs good d (i + 1) (by omega) h' W2
theorem fromP_ok {R : List Ow} (W : Own hb R h) {v : AVal} {xs : List Nd} (hv : Nodes v xs) (ok : okTab xs) (hl : xs.length ≤ 1024) (hs : ∀ x ∈ xs, x.s.size ≤ 1073741824) (good : ∀ rt h', PP hb rt xs R h' → K (.tuple [.ptr rt 0 0, .int .i64 0]) h') :
    ACalls prog 55 [v] h K := by
  refine s55_ok ?_
  unfold s55
  refine callG_of (newP_ok W fun rt h' W' => ?_)
  rw [hv.len]
  exact s55l1_in (xs.length + 1) (fromP_l1 hv ok hl hs (good rt) xs.length 0 (by omega) h' (by simpa using W'))

/-- both tables -/
def TT (hb : Heap) (rt rd : Nat) (xs ys : List Nd) (R : List Ow) (h : Heap) : Prop := ∃ vM, PP hb rt xs ([.slc 4 vM (ys.map nodeV), .cell rd (.row 1 [.agg [vM]])] ++ R) h
theorem both_ok {v : AVal} {xs : List Nd} (hv : Nodes v xs) (hxs : xs.length ≤ 1048576) (hs : ∀ x ∈ xs, x.s.size ≤ 1073741824) (bad : ¬ okTab xs → K (.tuple [.nilptr, .nilptr, .bool false]) h0)
    (good : okTab xs → xs.length ≤ 1024 → ∀ rt rd h', TT h0 rt rd xs xs [] h' → K (.tuple [.ptr rt 0 0, .ptr rd 0 0, .bool true]) h') : ACalls prog 21 [v] h0 K := by
  refine s21_ok ?_
  unfold s21
  refine newRow_in fun r hr => appC_copy hr (elemsA_of hv) (by simp; omega) (by simp; omega) fun v' h' g => ?_
  obtain ⟨S, w, hl, hsl, gs⟩ := g.freeze
  refine ⟨S, w, h0, hl, gs, callG_of (fromT_ok hv hxs (fun nok e he => ?_) (fun ok hlen rd h2 W => ?_))⟩
  · rw [tTup_tuple, tCons_cons, tCons_cons, tInt_int, tNil_nil]
    exact ifT_pos (by simpa using he) (retG_of (bad nok))
  · rw [tTup_tuple, tCons_cons, tCons_cons, tInt_int, tNil_nil]
    obtain ⟨vM, O⟩ := W
    refine ifT_neg rfl (callG_of (fromP_ok O hsl ok hlen hs fun rt h3 W3 => ?_))
    rw [tTup_tuple, tCons_cons, tCons_cons, tInt_int, tNil_nil]
    exact retG_of (good ok hlen rt rd h3 ⟨vM, W3⟩)
theorem okTab_nil : okTab [] := fun i x hx => by simp at hx
theorem tables_ok {v : AVal} {xs : List Nd} (hv : Nodes v xs) (hxs : xs.length ≤ 1048576) (hs : ∀ x ∈ xs, x.s.size ≤ 1073741824)
    (good : ∀ ys, okTab ys → ys.length ≤ 1024 → (∀ x ∈ ys, x.s.size ≤ 1073741824) → ∀ rt rd h', TT h0 rt rd ys ys [] h' → K (.tuple [.ptr rt 0 0, .ptr rd 0 0]) h') : ACalls prog 6 [v] h0 K := by
  refine s6_ok ?_
  unfold s6
  refine callG_of (both_ok hv hxs hs (fun nok => ?_) (fun ok hl rt rd h' W => ?_))
  · rw [tTup_tuple, tCons_cons, tCons_cons, tCons_cons, tBool_bool, tNil_nil]
    refine ifT_pos rfl (callG_of (newP_ok (Own.start h0) fun rt h' W => newRow_in fun rd hrd => retG_of (good [] okTab_nil (by simp) (fun x hx => by cases hx) rt rd _ ⟨.nilsl, ?_⟩)))
    obtain ⟨vN, q, O⟩ := W
    refine ⟨vN, q, ?_⟩
    exact (O.newN 4).newC hrd (.row 1 [.agg [.nilsl]])
  · rw [tTup_tuple, tCons_cons, tCons_cons, tCons_cons, tBool_bool, tNil_nil]
    exact ifT_neg rfl (retG_of (good xs ok hl hs rt rd h' W))
end Go.Proofs.YtobpfhmjdoekfaaGreat

/- Contracts: lists of names and of numbers, the same models. No condition. Contracts: what a name is. No condition. Words and small laws for contracts: sizes of models, owned rows. No condition. Contracts: the same models. No condition. Contracts: the ladder's worlds, the program's Model. No condition. Contracts: the document's Model of the ladder; NishimuraModels over its inputs. No condition. -/
import Derived.Test.YtobpfhmjdoekfaaM5
import Derived.Test.YtobpfhmjdoekfaaPM0
import Derived.Test.YtobpfhmjdoekfaaNP

set_option linter.unusedVariables false
set_option linter.unusedSimpArgs false

namespace Go.Proofs.Ytobpfhmjdoekfaa
open Go Go.Sym Go.Proofs.Try

variable {K : AVal → Heap → Prop} {h : Heap}

theorem names_loop {a b : AVal} {la lb : List ByteArray} (ha : Strs a la) (hb : Strs b lb) (hl : la.length = lb.length) (hm : la.length ≤ 1073741824) : ∀ d i : Nat, i + d = la.length →
    K (.bool (decide (la.drop i = lb.drop i))) h → s40l1 K (d + 1) a b (i : Int) h
  | 0, i, hd, hk => by
    unfold s40l1
    rw [ha.len]
    refine ifT_neg (by simp; omega) (retG_of ?_)
    rw [List.drop_eq_nil_of_le (by omega), List.drop_eq_nil_of_le (by omega)] at hk
    simpa using hk
  | d + 1, i, hd, hk => by
    have hi : i < la.length := by omega
    have hi' : i < lb.length := by omega
    unfold s40l1
    rw [ha.len]
    refine ifT_pos (by simp; omega) ?_
    rw [ha.ix hi, ld1_lptr, tStr_str, hb.ix hi', ld1_lptr, tStr_str, strEq_dec]
    rw [drop_eq_step hi hi'] at hk
    by_cases he : la[i] = lb[i]
    · refine ifT_neg (by simp [he]) (rg_of (by omega) (by omega) ?_)
      exact s40l1_go (names_loop ha hb hl hm d (i + 1) (by omega) (by simpa [he] using hk))
    · refine ifT_pos (by simp [he]) (retG_of ?_)
      simpa [he] using hk

theorem names_ok {a b : AVal} {la lb : List ByteArray} (ha : Strs a la) (hb : Strs b lb) (hm : la.length ≤ 1073741824) (hk : K (.bool (decide (la = lb))) h) :
    ACalls prog 40 [a, b] h K := by
  refine s40_ok ?_
  unfold s40
  rw [ha.len, hb.len]
  by_cases hl : la.length = lb.length
  · refine ifT_neg (by simp [hl]) (s40l1_in (la.length + 1) ?_)
    exact names_loop ha hb hl hm la.length 0 (by omega) (by simpa using hk)
  · refine ifT_pos (by simp; omega) (retG_of ?_)
    rwa [show decide (la = lb) = false by simp; intro e; exact hl (by rw [e])] at hk
theorem ints_loop {a b : AVal} {la lb : List Int} (ha : Ints a la) (hb : Ints b lb) (hl : la.length = lb.length) (hm : la.length ≤ 1073741824) : ∀ d i : Nat, i + d = la.length →
    K (.bool (decide (la.drop i = lb.drop i))) h → s39l1 K (d + 1) a b (i : Int) h
  | 0, i, hd, hk => by
    unfold s39l1
    rw [ha.len]
    refine ifT_neg (by simp; omega) (retG_of ?_)
    rw [List.drop_eq_nil_of_le (by omega), List.drop_eq_nil_of_le (by omega)] at hk
    simpa using hk
  | d + 1, i, hd, hk => by
    have hi : i < la.length := by omega
    have hi' : i < lb.length := by omega
    unfold s39l1
    rw [ha.len]
    refine ifT_pos (by simp; omega) ?_
    rw [ha.ix hi, ld1_lptr, tInt_int, hb.ix hi', ld1_lptr, tInt_int]
    rw [drop_eq_step hi hi'] at hk
    by_cases he : la[i] = lb[i]
    · refine ifT_neg (by simp [he]) (rg_of (by omega) (by omega) ?_)
      exact s39l1_go (ints_loop ha hb hl hm d (i + 1) (by omega) (by simpa [he] using hk))
    · refine ifT_pos (by simp [he]) (retG_of ?_)
      simpa [he] using hk

theorem ints_ok {a b : AVal} {la lb : List Int} (ha : Ints a la) (hb : Ints b lb) (hm : la.length ≤ 1073741824) (hk : K (.bool (decide (la = lb))) h) :
    ACalls prog 39 [a, b] h K := by
  refine s39_ok ?_
  unfold s39
  rw [ha.len, hb.len]
  by_cases hl : la.length = lb.length
  · refine ifT_neg (by simp [hl]) (s39l1_in (la.length + 1) ?_)
    exact ints_loop ha hb hl hm la.length 0 (by omega) (by simpa using hk)
  · refine ifT_pos (by simp; omega) (retG_of ?_)
    rwa [show decide (la = lb) = false by simp; intro e; exact hl (by rw [e])] at hk
end Go.Proofs.Ytobpfhmjdoekfaa

namespace Go.Proofs.Ytobpfhmjdoekfaa
open Go Go.Sym Go.Proofs.Try

variable {K : AVal → Heap → Prop} {h : Heap}

def ltB (c : Int) : Bool := (decide (97 ≤ c) && decide (c ≤ 122)) || (decide (65 ≤ c) && decide (c ≤ 90))
def dgB (c : Int) : Bool := (decide (48 ≤ c) && decide (c ≤ 57)) || (c == 95 || c == 39)
def goodB (s : ByteArray) (i : Nat) : Bool := ltB (btA s i) || (i != 0 && dgB (btA s i))
def resL : List ByteArray := [ByteArray.mk #[97, 98, 111, 114, 116], ByteArray.mk #[99, 97, 115, 101], ByteArray.mk #[102, 97, 108, 115, 101], ByteArray.mk #[102, 115, 116], ByteArray.mk #[102, 117, 110], ByteArray.mk #[105, 110], ByteArray.mk #[105, 110, 108], ByteArray.mk #[105, 110, 114], ByteArray.mk #[108, 101, 116], ByteArray.mk #[111, 102], ByteArray.mk #[115, 110, 100], ByteArray.mk #[116, 114, 117, 101]]
/-- is it a name? -/
def wordB (s : ByteArray) : Bool := decide (s.size ≠ 0) && (decide (s.size ≤ 31) && ((List.range' 0 s.size).all (goodB s) && resL.all fun r => !strEq r s))

theorem strEq_comm (a b : ByteArray) : strEq a b = strEq b a := by rw [strEq_dec, strEq_dec, Bool.eq_iff_iff]; simp [eq_comm]
theorem btA_range (s : ByteArray) (i : Int) : 0 ≤ btA s i ∧ btA s i ≤ 255 := by
  unfold btA
  have := UInt8.toNat_lt (s[i.toNat]?.getD 0)
  omega
theorem or32 : ∀ c : Fin 256, (decide (97 ≤ bitsI .or .u8 (c.val : Int) 32) && decide (bitsI .or .u8 (c.val : Int) 32 ≤ 122)) = ltB c.val := by decide +kernel
theorem or32_bt (s : ByteArray) (i : Int) : (decide (97 ≤ bitsI .or .u8 (btA s i) 32) && decide (bitsI .or .u8 (btA s i) 32 ≤ 122)) = ltB (btA s i) := by
  obtain ⟨h1, h2⟩ := btA_range s i
  have := or32 ⟨(btA s i).toNat, by omega⟩
  simp only [Int.toNat_of_nonneg h1] at this
  exact this

theorem letter_ok (c : Int) (hk : K (.bool (ltB c)) h) : ACalls prog 61 [.int .u8 c] h K := by
  refine s61_ok ?_
  unfold s61
  unfold ltB at hk
  by_cases h1 : 97 ≤ c <;> by_cases h2 : c ≤ 122 <;> by_cases h3 : 65 ≤ c <;> simp [h1, h2, h3, ifT_eq] at hk ⊢ <;> exact retG_of (by simpa using hk)

theorem reserved3_ok (hk : ∀ v, Strs v resL → K v h) : ACalls prog 62 [] h K := by
  refine s62_ok ?_
  unfold s62
  exact retG_of (hk _ (.inl rfl))

theorem word3_res {v : AVal} {s : ByteArray} {l : List ByteArray} (hv : Strs v l) (hm : l.length ≤ 1073741824) : ∀ d i : Nat, i + d = l.length → K (.bool ((l.drop i).all fun r => !strEq r s)) h → s38l4 K (d + 1) s v (i : Int) h
  | 0, i, hd, hk => by
    unfold s38l4
    rw [hv.len]
    refine ifT_neg (by simp; omega) (retG_of ?_)
    rw [List.drop_eq_nil_of_le (by omega)] at hk
    simpa using hk
  | d + 1, i, hd, hk => by
    have hi : i < l.length := by omega
    unfold s38l4
    rw [hv.len]
    refine ifT_pos (by simp; omega) ?_
    rw [hv.ix hi, ld1_lptr, tStr_str]
    rw [List.drop_eq_getElem_cons hi, List.all_cons] at hk
    cases he : strEq l[i] s with
    | true => rw [he] at hk; exact ifT_pos rfl (retG_of (by simpa using hk))
    | false =>
      rw [he] at hk
      refine ifT_neg rfl (rg_of (by omega) (by omega) ?_)
      exact s38l4_go (word3_res hv hm d (i + 1) (by omega) (by simpa using hk))

theorem word3_loop {s : ByteArray} (hm : s.size ≤ 31) : ∀ d i : Nat, 1 ≤ i → i + d = s.size → K (.bool ((List.range' i d).all (goodB s) && resL.all fun r => !strEq r s)) h → s38l2 K (d + 1) s (i : Int) h
  | 0, i, h1, hd, hk => by
    unfold s38l2
    refine ifT_neg (by simp; omega) (callG_of (reserved3_ok fun v hv => s38l4_in 13 ?_))
    exact word3_res hv (by decide) 12 0 rfl (by simpa using hk)
  | d + 1, i, h1, hd, hk => by
    unfold s38l2
    refine ifT_pos (by simp; omega) ⟨by omega, callG_of (letter_ok _ ?_)⟩
    rw [tBool_bool]
    rw [List.range'_succ, List.all_cons] at hk
    have rest : goodB s i = true → s38c3 K (s38l2_G (s38l2 K (d + 1))) s i false h := by
      intro hg
      rw [hg] at hk
      exact ifT_neg rfl (rg_of (by omega) (by omega) (s38l2_go (word3_loop hm d (i + 1) (by omega) (by omega) (by simpa using hk))))
    have stop : goodB s i = false → s38c3 K (s38l2_G (s38l2 K (d + 1))) s i true h := by
      intro hg
      rw [hg] at hk
      exact ifT_pos rfl (retG_of (by simpa using hk))
    have hi0 : (i != 0) = true := by simp; omega
    have hgood : goodB s i = (ltB (btA s i) || dgB (btA s i)) := by simp [goodB, hi0]
    cases hl : ltB (btA s i) with
    | true => exact ifT_neg rfl (rest (by rw [hgood, hl]; rfl))
    | false =>
      rw [hl, Bool.false_or] at hgood
      unfold dgB at hgood
      generalize btA s i = c at *
      refine ifT_pos rfl ⟨by omega, ?_⟩
      by_cases h48 : 48 ≤ c
      · refine ifT_pos (by simpa using h48) ⟨by omega, ?_⟩
        by_cases h57 : c ≤ 57
        · refine ifT_neg (by simpa using h57) (rest (by rw [hgood]; simp [h48, h57]))
        · refine ifT_pos (by simpa using h57) ⟨by omega, ?_⟩
          by_cases h95 : c = 95
          · exact ifT_neg (by simp [h95]) (rest (by rw [hgood]; simp [h95]))
          · refine ifT_pos (by simpa using h95) ⟨by omega, ?_⟩
            by_cases h39 : c = 39
            · rw [show (c != 39) = false by simp [h39]]; exact rest (by rw [hgood]; simp [h39])
            · rw [show (c != 39) = true by simpa using h39]; exact stop (by rw [hgood]; simp [h57, h95, h39])
      · refine ifT_neg (by simpa using h48) ⟨by omega, ?_⟩
        by_cases h95 : c = 95
        · exact ifT_neg (by simp [h95]) (rest (by rw [hgood]; simp [h95]))
        · refine ifT_pos (by simpa using h95) ⟨by omega, ?_⟩
          by_cases h39 : c = 39
          · rw [show (c != 39) = false by simp [h39]]; exact rest (by rw [hgood]; simp [h39])
          · rw [show (c != 39) = true by simpa using h39]; exact stop (by rw [hgood]; simp [h48, h95, h39])

theorem word3_ok (s : ByteArray) (hk : K (.bool (wordB s)) h) : ACalls prog 38 [.str s] h K := by
  refine s38_ok ?_
  unfold s38
  unfold wordB at hk
  by_cases h1 : s.size < 1
  · refine ifT_pos (by simp; omega) (ifT_pos rfl (retG_of ?_))
    rw [decide_eq_false (by omega : ¬ s.size ≠ 0)] at hk
    exact hk
  · refine ifT_neg (by simp; omega) ?_
    rw [decide_eq_true (by omega : s.size ≠ 0), Bool.true_and] at hk
    by_cases h2 : 31 < s.size
    · refine ifT_pos (by simp; omega) (ifT_pos rfl (retG_of ?_))
      rw [show decide (s.size ≤ 31) = false by simp; omega] at hk
      exact hk
    · refine ifT_neg (by simp; omega) ⟨by omega, callG_of (letter_ok _ ?_)⟩
      rw [tBool_bool]
      rw [show decide (s.size ≤ 31) = true by simp; omega, Bool.true_and] at hk
      obtain ⟨m, hm⟩ : ∃ m, s.size = m + 1 := ⟨s.size - 1, by omega⟩
      rw [hm, List.range'_succ, List.all_cons, show goodB s 0 = ltB (btA s 0) by simp [goodB]] at hk
      cases hl : ltB (btA s 0) with
      | true =>
        rw [hl] at hk
        exact ifT_neg rfl (s38l2_in (m + 1) (word3_loop (by omega) m 1 (by omega) (by omega) (by simpa using hk)))
      | false =>
        rw [hl] at hk
        exact ifT_pos rfl (retG_of (by simpa using hk))

theorem reserved_ok (s : ByteArray) (hk : K (.bool (resL.any fun r => strEq r s)) h) : ACalls prog 60 [.str s] h K := by
  refine s60_ok ?_
  unfold s60
  simp only [resL, List.any_cons, List.any_nil, Bool.or_false] at hk
  simp only [strEq_comm _ s] at hk
  unfold s60c1
  generalize strEq s (ByteArray.mk #[97, 98, 111, 114, 116]) = b0 at hk ⊢
  generalize strEq s (ByteArray.mk #[99, 97, 115, 101]) = b1 at hk ⊢
  generalize strEq s (ByteArray.mk #[102, 97, 108, 115, 101]) = b2 at hk ⊢
  generalize strEq s (ByteArray.mk #[102, 115, 116]) = b3 at hk ⊢
  generalize strEq s (ByteArray.mk #[102, 117, 110]) = b4 at hk ⊢
  generalize strEq s (ByteArray.mk #[105, 110]) = b5 at hk ⊢
  generalize strEq s (ByteArray.mk #[105, 110, 108]) = b6 at hk ⊢
  generalize strEq s (ByteArray.mk #[105, 110, 114]) = b7 at hk ⊢
  generalize strEq s (ByteArray.mk #[108, 101, 116]) = b8 at hk ⊢
  generalize strEq s (ByteArray.mk #[111, 102]) = b9 at hk ⊢
  generalize strEq s (ByteArray.mk #[115, 110, 100]) = b10 at hk ⊢
  generalize strEq s (ByteArray.mk #[116, 114, 117, 101]) = b11 at hk ⊢
  cases b0 with
  | true => exact ifT_pos rfl (ifT_pos rfl (retG_of (by simpa using hk)))
  | false =>
  refine ifT_neg rfl ?_
  cases b1 with
  | true => exact ifT_pos rfl (ifT_pos rfl (retG_of (by simpa using hk)))
  | false =>
  refine ifT_neg rfl ?_
  cases b2 with
  | true => exact ifT_pos rfl (ifT_pos rfl (retG_of (by simpa using hk)))
  | false =>
  refine ifT_neg rfl ?_
  cases b3 with
  | true => exact ifT_pos rfl (ifT_pos rfl (retG_of (by simpa using hk)))
  | false =>
  refine ifT_neg rfl ?_
  cases b4 with
  | true => exact ifT_pos rfl (ifT_pos rfl (retG_of (by simpa using hk)))
  | false =>
  refine ifT_neg rfl ?_
  cases b5 with
  | true => exact ifT_pos rfl (ifT_pos rfl (retG_of (by simpa using hk)))
  | false =>
  refine ifT_neg rfl ?_
  cases b6 with
  | true => exact ifT_pos rfl (ifT_pos rfl (retG_of (by simpa using hk)))
  | false =>
  refine ifT_neg rfl ?_
  cases b7 with
  | true => exact ifT_pos rfl (ifT_pos rfl (retG_of (by simpa using hk)))
  | false =>
  refine ifT_neg rfl ?_
  cases b8 with
  | true => exact ifT_pos rfl (ifT_pos rfl (retG_of (by simpa using hk)))
  | false =>
  refine ifT_neg rfl ?_
  cases b9 with
  | true => exact ifT_pos rfl (ifT_pos rfl (retG_of (by simpa using hk)))
  | false =>
  refine ifT_neg rfl ?_
  cases b10 with
  | true => exact ifT_pos rfl (ifT_pos rfl (retG_of (by simpa using hk)))
  | false =>
  refine ifT_neg rfl ?_
  cases b11 with
  | true => exact ifT_pos rfl (retG_of (by simpa using hk))
  | false => exact ifT_neg rfl (retG_of (by simpa using hk))

theorem word_loop {s : ByteArray} (hm : s.size ≤ 1073741824) : ∀ d i : Nat, i + d = s.size →
    K (.bool ((List.range' i d).all (goodB s) && (decide (s.size ≠ 0) && (decide (s.size ≤ 31) && resL.all fun r => !strEq r s)))) h → s37l1 K (d + 1) s (s.size : Int) (i : Int) h
  | 0, i, hd, hk => by
    unfold s37l1
    refine ifT_neg (by simp; omega) ?_
    have he : strEq s (ByteArray.mk #[]) = decide (s.size = 0) := by
      rw [strEq_dec, Bool.eq_iff_iff]
      simp only [decide_eq_true_eq]
      constructor
      · intro e; rw [e]; rfl
      · intro e
        obtain ⟨⟨l⟩⟩ := s
        have : l.length = 0 := e
        rw [List.eq_nil_of_length_eq_zero this]
    rw [he]
    simp only [List.range'_zero, List.all_nil, Bool.true_and] at hk
    by_cases h0 : s.size = 0
    · refine ifT_neg (by simp [h0]) (retG_of ?_)
      simpa [h0] using hk
    · refine ifT_pos (by simp [h0]) ?_
      by_cases h31 : s.size ≤ 31
      · refine ifT_pos (by simp; omega) (callG_of (reserved_ok s ?_))
        rw [tBool_bool]
        refine retG_of ?_
        rw [show (!resL.any fun r => strEq r s) = resL.all fun r => !strEq r s by rw [List.all_eq_not_any_not]; simp]
        simpa [h0, h31] using hk
      · refine ifT_neg (by simp; omega) (retG_of ?_)
        simpa [h0, h31] using hk
  | d + 1, i, hd, hk => by
    unfold s37l1
    refine ifT_pos (by simp; omega) ⟨by omega, ?_⟩
    rw [List.range'_succ, List.all_cons] at hk
    have rest : goodB s i = true → s37c3 K (s37l1_G (s37l1 K (d + 1))) s s.size i false h := by
      intro hg
      rw [hg] at hk
      exact ifT_neg rfl (rg_of (by omega) (by omega) (s37l1_go (word_loop hm d (i + 1) (by omega) (by simpa using hk))))
    have stop : goodB s i = false → s37c3 K (s37l1_G (s37l1 K (d + 1))) s s.size i true h := by
      intro hg
      rw [hg] at hk
      exact ifT_pos rfl (retG_of (by simpa using hk))
    have key : s37c2 K (s37l1_G (s37l1 K (d + 1))) s i (btA s i) (ltB (btA s i)) s.size i h := by
      unfold s37c2
      unfold goodB dgB at rest stop
      cases hl : ltB (btA s i) with
      | true => exact ifT_neg rfl (rest (by rw [hl]; rfl))
      | false =>
        rw [hl] at rest stop
        simp only [Bool.false_or] at rest stop
        refine ifT_pos rfl ?_
        by_cases h0 : i = 0
        · refine ifT_pos (by simp [h0]) (stop (by simp [h0]))
        · refine ifT_neg (by simpa using h0) ?_
          rw [show (i != 0) = true by simpa using h0] at rest stop
          simp only [Bool.true_and] at rest stop
          generalize btA s i = c at *
          by_cases h95 : c = 95
          · exact ifT_neg (by simp [h95]) (rest (by simp [h95]))
          · refine ifT_pos (by simpa using h95) ?_
            by_cases h39 : c = 39
            · exact ifT_neg (by simp [h39]) (rest (by simp [h39]))
            · refine ifT_pos (by simpa using h39) ?_
              by_cases h48 : c < 48
              · exact ifT_pos (by simpa using h48) (stop (by simp [h95, h39]; omega))
              · refine ifT_neg (by simpa using h48) ?_
                by_cases h57 : 57 < c
                · rw [show decide (57 < c) = true by simpa using h57]; exact stop (by simp [h95, h39]; omega)
                · rw [show decide (57 < c) = false by simpa using h57]; exact rest (by simp; omega)
    have ho := or32_bt s i
    cases h97 : decide (97 ≤ bitsI .or .u8 (btA s i) 32) with
    | true => rw [h97, Bool.true_and] at ho; rw [ho]; exact ifT_pos rfl key
    | false => rw [h97, Bool.false_and] at ho; rw [← ho] at key; exact ifT_neg rfl key

theorem word_ok (s : ByteArray) (hm : s.size ≤ 1073741824) (hk : K (.bool (wordB s)) h) : ACalls prog 37 [.str s] h K := by
  refine s37_ok (s37l1_in (s.size + 1) (word_loop hm s.size 0 (by omega) ?_))
  unfold wordB at hk
  rwa [show ((List.range' 0 s.size).all (goodB s) && (decide (s.size ≠ 0) && (decide (s.size ≤ 31) && resL.all fun r => !strEq r s))) =
    (decide (s.size ≠ 0) && (decide (s.size ≤ 31) && ((List.range' 0 s.size).all (goodB s) && resL.all fun r => !strEq r s))) by
      cases (List.range' 0 s.size).all (goodB s) <;> cases decide (s.size ≠ 0) <;> cases decide (s.size ≤ 31) <;> rfl]
end Go.Proofs.Ytobpfhmjdoekfaa

namespace Go.Proofs.Ytobpfhmjdoekfaa
open Go Go.Sym Go.Proofs.Try

/-- no name is longer than a machine's number -/
def SB (l : List ByteArray) : Prop := l.length ≤ 1073741824 ∧ ∀ s ∈ l, s.size ≤ 1073741824

/-- nothing is longer than a machine bears -/
structure Small (up : List (List Int)) (val : List (List ByteArray)) : Prop where
  ups : up.length ≤ 1048576
  vals : val.length ≤ 1048576
  row : ∀ r ∈ up, r.length ≤ 1048576
  names : ∀ l ∈ val, SB l ∧ l.length ≤ 1048576

def natI (l : List Nat) : List Int := l.map fun (x : Nat) => (x : Int)
theorem map_set {α : Type} (g : Nat → α) (n w : Nat) (y : α) : ((List.range n).map g).set w y = (List.range n).map fun x => if x = w then y else g x := by
  refine List.ext_getElem (by simp) fun i h1 h2 => ?_
  rw [List.getElem_set]
  by_cases e : w = i
  · subst e; simp
  · rw [if_neg e]
    simp [Ne.symm e]
theorem range_get {α : Type} (g : Nat → α) {n i : Nat} (hi : i < n) : ((List.range n).map g)[i]? = some (g i) := by simp [hi]

/- ---------------- the texts of the names ---------------- -/
theorem Own.toBase {hb h : Heap} {os : List Ow} (W : Own hb os h) (S : Nat → Prop) (hS : ∀ n, S n → hb n = none) : Go.Sym.GStep h hb S :=
  ⟨fun _ _ => trivial, fun q o hq => ⟨o, W.old q o hq, (fun hs => by rw [hS q hs] at hq; cases hq), .refl o⟩⟩
def rowsO (q : Nat) (f : Nat → AVal) (g : Nat → List Nat) : List Ow := (List.range q).map fun k => .slc 1 (f k) ((natI (g k)).map (.int .i64))
def upd {α : Type} (f : Nat → α) (k : Nat) (y : α) : Nat → α := fun x => if x = k then y else f x
theorem rowsO_get {q k : Nat} {f : Nat → AVal} {g : Nat → List Nat} (hk : k < q) (a b d : Ow) : ([a, b, d] ++ rowsO q f g)[k + 3]? = some (.slc 1 (f k) ((natI (g k)).map (.int .i64))) := by
  show (rowsO q f g)[k]? = _
  unfold rowsO
  exact range_get _ hk
theorem rowsO_set {q k x : Nat} {f : Nat → AVal} {g : Nat → List Nat} {v : AVal} (a b d : Ow) : ([a, b, d] ++ rowsO q f g).set (k + 3) (.slc 1 v ((natI (g k)).map (.int .i64) ++ [.int .i64 (x : Int)])) = [a, b, d] ++ rowsO q (upd f k v) (upd g k (g k ++ [x])) := by
  show a :: b :: d :: (rowsO q f g).set k _ = a :: b :: d :: rowsO q _ _
  unfold rowsO
  rw [map_set]
  congr 3
  refine List.map_congr_left fun y _ => ?_
  unfold upd
  split
  · simp [natI]
  · rfl
theorem lits_rows {hb h : Heap} {os : List Ow} (W : Own hb os h) {S : Nat → Prop} {f : Nat → AVal} {g : Nat → List Nat} : ∀ (ks : List Nat), (∀ k ∈ ks, ∃ i : Nat, os[i]? = some (.slc 1 (f k) ((natI (g k)).map (.int .i64)))) → (∀ k ∈ ks, ∀ n, nameOf (f k) n → S n) →
    ∃ l', Lits h S (ks.map f) l' ∧ All2 Ints l' (ks.map fun k => natI (g k))
  | [], _, _ => ⟨[], .nil, .nil⟩
  | k :: ks, ho, hS => by
    obtain ⟨l', h1, h2⟩ := lits_rows W ks (fun k hk => ho k (List.mem_cons_of_mem _ hk)) (fun k hk => hS k (List.mem_cons_of_mem _ hk))
    obtain ⟨i, hi⟩ := ho k List.mem_cons_self
    obtain ⟨v', hv, hs⟩ := W.lit hi (S := S) (hS k List.mem_cons_self) (Lits.refl _)
    exact ⟨v' :: l', .cons hv h1, .cons hs h2⟩
theorem newNs {hb h : Heap} {os : List Ow} (W : Own hb os h) : ∀ q : Nat, Own hb (os ++ (List.range q).map fun _ => .slc 1 .nilsl []) h
  | 0 => by simpa using W
  | q + 1 => by
    have := (newNs W q).newN 1
    rw [List.append_assoc] at this
    rw [List.range_succ, List.map_append]
    exact this
end Go.Proofs.Ytobpfhmjdoekfaa

namespace Go.Proofs.Ytobpfhmjdoekfaa
open Go Go.Sym Go.Proofs.Try

variable {K : AVal → Heap → Prop} {h : Heap} {up up' : List (List Int)} {val val' : List (List ByteArray)} {mU mV nU nV : AVal}

theorem same_l3 (S : Small up val) (hV : Strss mV val) (hV' : Strss nV val') (hl : val.length = val'.length) : ∀ d i : Nat, i + d = val.length → K (.bool (decide (val.drop i = val'.drop i))) h → s19l3 K (d + 1) (.lptr [mU, mV]) (.lptr [nU, nV]) (i : Int) h
  | 0, i, hd, hk => by
    unfold s19l3
    rw [addOff_lptr]
    simp only [List.drop_succ_cons, List.drop_zero, ld1_lptr]
    rw [hV.len]
    refine ifT_neg (by simp; omega) (retG_of ?_)
    rw [List.drop_eq_nil_of_le (by omega), List.drop_eq_nil_of_le (by omega)] at hk
    simpa using hk
  | d + 1, i, hd, hk => by
    have hi : i < val.length := by omega
    have hi' : i < val'.length := by omega
    have hSv := S.vals
    have hSn := (S.names _ (List.getElem_mem hi)).2
    obtain ⟨e1, h1, ix1⟩ := hV.ix hi
    obtain ⟨e2, h2, ix2⟩ := hV'.ix hi'
    unfold s19l3
    rw [addOff_lptr]
    simp only [List.drop_succ_cons, List.drop_zero, ld1_lptr]
    rw [hV.len]
    refine ifT_pos (by simp; omega) ?_
    simp only [addOff_lptr, List.drop_succ_cons, List.drop_zero, ld1_lptr, ix1, ix2]
    refine callG_of (names_ok h1 h2 (by omega) ?_)
    rw [tBool_bool]
    rw [drop_eq_step hi hi'] at hk
    by_cases he : val[i] = val'[i]
    · refine ifT_neg (by simp [he]) (rg_of (by omega) (by omega) (s19l3_go (same_l3 S hV hV' hl d (i + 1) (by omega) (by simpa [he] using hk))))
    · exact ifT_pos (by simp [he]) (retG_of (by simpa [he] using hk))

theorem same_l2 (S : Small up val) (hU : Intss mU up) (hV : Strss mV val) (hU' : Intss nU up') (hV' : Strss nV val') (hlu : up.length = up'.length) (hl : val.length = val'.length) :
    ∀ d i : Nat, i + d = up.length → K (.bool (decide (up.drop i = up'.drop i) && decide (val = val'))) h → s19l2 K (d + 1) (.lptr [mU, mV]) (.lptr [nU, nV]) (i : Int) h
  | 0, i, hd, hk => by
    unfold s19l2
    rw [addOff_lptr]
    simp only [List.drop_zero, ld1_lptr]
    rw [hU.len]
    rw [List.drop_eq_nil_of_le (by omega), List.drop_eq_nil_of_le (by omega)] at hk
    exact ifT_neg (by simp; omega) (s19l3_in (val.length + 1) (same_l3 S hV hV' hl val.length 0 (by omega) (by simpa using hk)))
  | d + 1, i, hd, hk => by
    have hi : i < up.length := by omega
    have hi' : i < up'.length := by omega
    have hSv := S.ups
    have hSn := S.row _ (List.getElem_mem hi)
    obtain ⟨e1, h1, ix1⟩ := hU.ix hi
    obtain ⟨e2, h2, ix2⟩ := hU'.ix hi'
    unfold s19l2
    rw [addOff_lptr]
    simp only [List.drop_zero, ld1_lptr]
    rw [hU.len]
    refine ifT_pos (by simp; omega) ?_
    simp only [addOff_lptr, List.drop_zero, ld1_lptr, ix1, ix2]
    refine callG_of (ints_ok h1 h2 (by omega) ?_)
    rw [tBool_bool]
    rw [drop_eq_step hi hi'] at hk
    by_cases he : up[i] = up'[i]
    · refine ifT_neg (by simp [he]) (rg_of (by omega) (by omega) (s19l2_go (same_l2 S hU hV hU' hV' hlu hl d (i + 1) (by omega) (by simpa [he] using hk))))
    · exact ifT_pos (by simp [he]) (retG_of (by simpa [he] using hk))

theorem same_ok (S : Small up val) (hU : Intss mU up) (hV : Strss mV val) (hU' : Intss nU up') (hV' : Strss nV val') (hk : K (.bool (decide (up = up') && decide (val = val'))) h) : ACalls prog 19 [.agg [mU, mV], .agg [nU, nV]] h K := by
  refine s19_ok ?_
  unfold s19
  rw [hU.len, hU'.len]
  by_cases h1 : up.length = up'.length
  · refine ifT_neg (by simp [h1]) ?_
    rw [hV.len, hV'.len]
    by_cases h2 : val.length = val'.length
    · refine ifT_neg (by simp [h2]) (s19l2_in (up.length + 1) (same_l2 S hU hV hU' hV' h1 h2 up.length 0 (by omega) (by simpa using hk)))
    · refine ifT_pos (by simp; omega) (retG_of ?_)
      rwa [show decide (val = val') = false by simp; intro e; exact h2 (by rw [e]), Bool.and_false] at hk
  · refine ifT_pos (by simp; omega) (ifT_pos rfl (retG_of ?_))
    rwa [show decide (up = up') = false by simp; intro e; exact h1 (by rw [e]), Bool.false_and] at hk

end Go.Proofs.Ytobpfhmjdoekfaa

namespace Go.Proofs.Ytobpfhmjdoekfaa
open Go Go.Sym Go.Proofs.Try

variable {K : AVal → Heap → Prop} {h h0 hb : Heap}

/-- what is next above a world of the ladder -/
def upRow (w : Nat) : List Nat := List.range' (w - 3) (w - 1 - (w - 3))
def mUp (n : Nat) : List (List Int) := (List.range n).map fun w => natI (upRow w)
def vRow (s : ByteArray) (w : Nat) : List ByteArray := if w = 0 then [s] else []
def mVal (n : Nat) (s : ByteArray) : List (List ByteArray) := (List.range n).map (vRow s)

/-- the memory of a model whose rows grow -/
abbrev QN (hb : Heap) (ro : Nat) (vU vV : AVal) (LV : List AVal) (q : Nat) (f : Nat → AVal) (g : Nat → List Nat) (h : Heap) : Prop :=
  Own hb ([.cell ro (.row 2 [.agg [vU, vV]]), .slc 1 vU ((List.range q).map f), .slc 1 vV LV] ++ rowsO q f g) h
structure GR (w : Nat) (c : List Nat) (g : Nat → List Nat) : Prop where
  lo : ∀ k, k < w → g k = upRow k
  at_ : g w = c
  hi : ∀ k, w < k → g k = []
theorem GR.put {w x : Nat} {c : List Nat} {g : Nat → List Nat} (G : GR w c g) : GR w (c ++ [x]) (upd g w (g w ++ [x])) where
  lo k hk := by unfold upd; rw [if_neg (by omega)]; exact G.lo k hk
  at_ := by unfold upd; rw [if_pos rfl, G.at_]
  hi k hk := by unfold upd; rw [if_neg (by omega)]; exact G.hi k hk
theorem GR.next {w : Nat} {g : Nat → List Nat} (G : GR w (upRow w) g) : GR (w + 1) [] g where
  lo k hk := by
    rcases Nat.lt_or_ge k w with e | e
    · exact G.lo k e
    · obtain rfl : k = w := by omega
      exact G.at_
  at_ := G.hi _ (by omega)
  hi k hk := G.hi k (by omega)

section
variable {vV : AVal} {ro rt ru n : Nat} {LV : List AVal}
theorem modelP_l3 (hn : n ≤ 512) {w : Nat} (hw : w < n) {F : AVal → AVal → Int → Int → Heap → Prop}
    (next : ∀ f g h', GR w (upRow w) g → QN hb ro (.sl ru 1 0 n) vV LV n f g h' → F (.ptr rt 0 0) (.ptr ro 0 0) n ((w : Int) + 1) h') :
    ∀ d v : Nat, v + d = w - 1 → w - 3 ≤ v → ∀ f g h, GR w (List.range' (w - 3) (v - (w - 3))) g → QN hb ro (.sl ru 1 0 n) vV LV n f g h →
      s17l3 K F (d + 1) (.ptr rt 0 0) (.ptr ro 0 0) (w : Int) (v : Int) n (w : Int) h
  | 0, v, hd, hv, f, g, h, G, W => by
    unfold s17l3
    refine rg_of (by omega) (by omega) (ifT_neg (by simp; omega) (rg_of (by omega) (by omega) (next f g h ?_ W)))
    have : v = w - 1 := by omega
    subst this
    exact G
  | d + 1, v, hd, hv, f, g, h, G, W => by
    unfold s17l3
    refine rg_of (by omega) (by omega) (ifT_pos (by simp; omega) ?_)
    have hi := rowsO_get (f := f) (g := g) hw (.cell ro (.row 2 [.agg [(.sl ru 1 0 n), vV]])) (.slc 1 (.sl ru 1 0 n) ((List.range n).map f)) (.slc 1 vV LV)
    have hget : ((List.range n).map f)[w]? = some (f w) := range_get _ hw
    have hag := (W.sc hi).2.2
    have rU := W.get 1 _ ru rfl rfl
    have rO := W.get 0 _ ro rfl rfl
    have hgl : (g w).length ≤ 512 := by rw [G.at_, List.length_range']; omega
    rw [addOff_ptr, ld1_fld rO rfl, addOff_ptr, ld1_fld rO rfl]
    refine ixS_sl0 hw ?_
    rw [ld1_ptr rU hget hag]
    refine ⟨by rw [ld1_ptr rU hget hag], by rw [ld1_fld rO rfl], by rw [ld1_fld rO rfl], W.app hi (by simp [natI]; omega) (by simp [natI]; omega) fun v2 h2 W2 => ?_⟩
    rw [rowsO_set] at W2
    refine ⟨by rw [ld1_fld (W2.get 0 _ ro rfl rfl) rfl], ixS_sl0 hw ?_⟩
    have hi2 := rowsO_get (f := upd f w v2) (g := upd g w (g w ++ [v])) hw (.cell ro (.row 2 [.agg [(.sl ru 1 0 n), vV]])) (.slc 1 (.sl ru 1 0 n) ((List.range n).map f)) (.slc 1 vV LV)
    have hsc : sc v2 = true := by
      have := (W2.sc hi2).1
      unfold upd at this
      rwa [if_pos rfl] at this
    refine chk_iff.2 ⟨hsc, st_elem (W2.get 1 _ ru rfl rfl) hget hag (rg_of (by omega) (by omega) (s17l3_go ?_))⟩
    have hlen : ((List.range n).map f).length = n := by simp
    have hi1 : ([Ow.cell ro (.row 2 [.agg [(.sl ru 1 0 n), vV]]), .slc 1 (.sl ru 1 0 n) ((List.range n).map f), .slc 1 vV LV] ++ rowsO n (upd f w v2) (upd g w (g w ++ [v])))[1]? = some (.slc 1 (.sl ru 1 0 ((List.range n).map f).length) ((List.range n).map f)) := by rw [hlen]; rfl
    have W3 := W2.putS hi1 (l' := ((List.range n).map f).set w v2) (by simp)
    rw [hlen, map_set] at W3
    rw [map_set]
    refine modelP_l3 hn hw next d (v + 1) (by omega) (by omega) (upd f w v2) _ _ ?_ W3
    have := G.put (x := v)
    have e : List.range' (w - 3) (v + 1 - (w - 3)) = List.range' (w - 3) (v - (w - 3)) ++ [v] := by
      rw [show v + 1 - (w - 3) = v - (w - 3) + 1 by omega, List.range'_concat]
      congr 2
      omega
    rw [e]
    exact this
theorem modelP_l2 (hn : n ≤ 512) {s : ByteArray} (hLV : All2 Strs LV (mVal n s)) {X Y : AVal} (ht : hb rt = some (.row 2 [.agg [X, Y]])) (hsub : ∀ q o, h0 q = some o → q ≠ rt ∧ hb q = some o)
    (good : ∀ vU vV, Intss vU (mUp n) → Strss vV (mVal n s) → K (.tuple [.agg [vU, vV], .int .i64 0]) h0) :
    ∀ d w : Nat, w + d = n → ∀ f g h, GR w [] g → QN hb ro (.sl ru 1 0 n) vV LV n f g h → s17l2 K (d + 1) (.ptr rt 0 0) (.ptr ro 0 0) n (w : Int) h
  | 0, w, hd, f, g, h, G, W => by
    obtain rfl : w = n := by omega
    unfold s17l2
    refine ifT_neg (by simp) ?_
    rw [ldN2 (W.get 0 _ ro rfl rfl), tCons_cons, tCons_cons, tNil_nil]
    refine st_all (W.old _ _ ht) rfl ?_
    have W2 := W.base (x := .row 2 [.agg [.sl ru 1 0 w, vV]]) ht
    rw [ldN2 (Heap.set_same _ _ _), tCons_cons, tCons_cons, tNil_nil]
    let Sg : Nat → Prop := fun n => nameOf (.sl ru 1 0 w) n ∨ nameOf vV n ∨ ∃ k, k < w ∧ nameOf (f k) n
    obtain ⟨l', hl, hR⟩ := lits_rows (g := g) W2 (S := Sg) (List.range w) (fun k hk => ⟨_, rowsO_get (List.mem_range.1 hk) _ _ _⟩) (fun k hk n hn => .inr (.inr ⟨k, List.mem_range.1 hk, hn⟩))
    obtain ⟨u', lu, su⟩ := W2.lit (i := 1) rfl (S := Sg) (fun n h => .inl h) hl
    obtain ⟨v', lv, sv⟩ := W2.lit (i := 2) rfl (S := Sg) (fun n h => .inr (.inl h)) (Lits.refl LV)
    have hrows : (List.range w).map (fun k => natI (g k)) = mUp w := by
      unfold mUp
      exact List.map_congr_left fun k hk => by rw [G.lo k (List.mem_range.1 hk)]
    rw [hrows] at hR
    refine ⟨Sg, .tuple [.agg [u', v'], .int .i64 0], h0, .tuple (.cons (.agg (.cons lu (.cons lv .nil))) (.cons (.refl _) .nil)), ⟨fun _ _ => trivial, fun q o hq => ⟨o, ?_, fun hs => ?_, .refl o⟩⟩, good u' v' ⟨_, su, hR⟩ ⟨_, sv, hLV⟩⟩
    · rw [Heap.set_ne _ _ (hsub q o hq).1]
      exact W.old q o (hsub q o hq).2
    · have hx : hb q = none := by
        rcases hs with hs | hs | ⟨k, hk, hs⟩
        · exact W.new 1 _ q rfl hs
        · exact W.new 2 _ q rfl hs
        · exact W.new (k + 3) _ q (rowsO_get hk _ _ _) hs
      rw [(hsub q o hq).2] at hx
      cases hx
  | d + 1, w, hd, f, g, h, G, W => by
    unfold s17l2
    refine ifT_pos (by simp; omega) (rg_of (by omega) (by omega) ?_)
    rw [show max (0 : Int) ((w : Int) - 3) = ((w - 3 : Nat) : Int) by omega]
    refine s17l3_in (w - 1 - (w - 3) + 1) (modelP_l3 hn (by omega) (fun f' g' h' G' W' => ?_) _ (w - 3) (by omega) (by omega) f g h ?_ W)
    · exact s17l2_go (modelP_l2 hn hLV ht hsub good d (w + 1) (by omega) f' g' h' G'.next W')
    · rw [Nat.sub_self]
      exact G
end
theorem newZ {h : Heap} {os : List Ow} (W : Own hb os h) {r : Nat} (hr : h r = none) (n : Nat) (z : AVal) : Own hb (os ++ [.slc 1 (.sl r 1 0 n) (List.replicate n z)]) (h.set r (.row 1 (List.replicate n z))) := by
  have := W.newS hr (es := 1) (List.replicate n z)
  rwa [List.length_replicate] at this
theorem modelP_tail {s : ByteArray} {n rt ro ru rv : Nat} (h1 : 1 ≤ n) (hn : n ≤ 512) {X Y : AVal} (ht : hb rt = some (.row 2 [.agg [X, Y]])) (hsub : ∀ q o, h0 q = some o → q ≠ rt ∧ hb q = some o)
    (good : ∀ vU vV, Intss vU (mUp n) → Strss vV (mVal n s) → K (.tuple [.agg [vU, vV], .int .i64 0]) h0) {U0 V0 : AVal}
    (W : Own hb [.cell ro (.row 2 [.agg [U0, V0]]), .slc 1 (.sl ru 1 0 n) (List.replicate n .nilsl), .slc 1 (.sl rv 1 0 n) (List.replicate n .nilsl)] h) :
    st false h (.ptr ro 0 0) [.sl ru 1 0 n, .sl rv 1 0 n] fun h_7 =>
    ld1 h_7 (.ptr ro 0 1) fun v8 =>
    ixS 1 v8 0 fun p =>
    st true h_7 p [(.lsl 1 [(.str s)])] fun h_8 =>
    s17l2_E (s17l2 K) (.ptr rt 0 0) (.ptr ro 0 0) n 0 h_8 := by
  refine st_all (W.get 0 _ ro rfl rfl) rfl ?_
  have W2 := W.put (i := 0) rfl (.row 2 [.agg [.sl ru 1 0 n, .sl rv 1 0 n]])
  rw [ld1_fld (W2.get 0 _ ro rfl rfl) rfl]
  refine ixS_sl0 (i := 0) (by omega) (st_elem (W2.get 2 _ rv rfl rfl) (e := .nilsl) (by rw [List.getElem?_replicate, if_pos (by omega)]) rfl ?_)
  have W3 := W2.putS (i := 2) (r := rv) (es := 1) (l := List.replicate n .nilsl) (by rw [List.length_replicate]; rfl) (l' := (List.replicate n .nilsl).set 0 (.lsl 1 [.str s])) (by simp)
  rw [List.length_replicate] at W3
  have W4 := newNs W3 n
  refine s17l2_in (n + 1) (modelP_l2 (LV := (List.replicate n .nilsl).set 0 (.lsl 1 [.str s])) (ru := ru) (vV := .sl rv 1 0 n) hn ?_ ht hsub good n 0 (by omega) (fun _ => .nilsl) (fun _ => []) _ ⟨fun k hk => by omega, rfl, fun _ _ => rfl⟩ ?_)
  · obtain ⟨m, rfl⟩ : ∃ m, n = m + 1 := ⟨n - 1, by omega⟩
    rw [List.replicate_succ, List.set_cons_zero]
    unfold mVal
    rw [List.range_succ_eq_map, List.map_cons, List.map_map]
    refine .cons (.inl rfl) ?_
    have : ∀ l : List Nat, All2 Strs (List.replicate l.length .nilsl) (l.map (vRow s ∘ Nat.succ)) := fun l => by
      induction l with
      | nil => exact .nil
      | cons a l ih =>
        rw [List.length_cons, List.replicate_succ, List.map_cons]
        exact .cons (.nil 1) ih
    have := this (List.range m)
    rwa [List.length_range] at this
  · have e : (List.range n).map (fun _ => AVal.nilsl) = List.replicate n .nilsl := by
      refine List.ext_getElem (by simp) fun i h1 h2 => ?_
      simp
    unfold QN
    rw [e]
    exact W4
theorem perm3 {h : Heap} {a b c x y z : Ow} (W : Own hb [a, b, c] h) (i j k : Nat) (hx : [a, b, c][i]? = some x) (hy : [a, b, c][j]? = some y) (hz : [a, b, c][k]? = some z) (hij : i ≠ j) (hik : i ≠ k) (hjk : j ≠ k) : Own hb [x, y, z] h :=
  W.renum _ (fun m => if m = 0 then i else if m = 1 then j else k) (fun m w hm => by
    match m, hm with
    | 0, hm => cases hm; exact hx
    | 1, hm => cases hm; exact hy
    | 2, hm => cases hm; exact hz
    | m + 3, hm => simp at hm) (fun m hm p hp e => by
    have hm : m < 3 := hm
    have hp : p < 3 := hp
    split at e <;> split at e <;> (try split at e) <;> (try split at e) <;> omega)
theorem modelP_ok {s : ByteArray} (hs : s.size ≤ 1073741824) (n : Int) (bad : wordB s = false → K (.tuple [.agg [.nilsl, .nilsl], .int .i64 32]) h0) (arg : wordB s = true → (n < 1 ∨ 512 < n) → K (.tuple [.agg [.nilsl, .nilsl], .int .i64 2]) h0)
    (good : wordB s = true → 1 ≤ n → n ≤ 512 → ∀ vU vV, Intss vU (mUp n.toNat) → Strss vV (mVal n.toNat s) → K (.tuple [.agg [vU, vV], .int .i64 0]) h0) : ACalls prog 17 [.int .i64 n, .str s] h0 K := by
  refine s17_ok ?_
  unfold s17
  refine newRow_in fun rt hrt => callG_of (word_ok s hs ?_)
  have ht := Heap.set_same h0 rt (.row 2 [.agg [.nilsl, .nilsl]])
  have hsub : ∀ q o, h0 q = some o → q ≠ rt ∧ (h0.set rt (.row 2 [.agg [.nilsl, .nilsl]])) q = some o := fun q o hq => ⟨(fun e => by rw [e, hrt] at hq; cases hq), Heap.set_sub hrt q o hq⟩
  rw [tBool_bool]
  cases hw : wordB s with
  | false =>
    refine ifT_pos rfl (st_all ht rfl ?_)
    rw [Heap.set_set, ldN2 (Heap.set_same _ _ _), tCons_cons, tCons_cons, tNil_nil]
    exact retG_drop (fun q o hq => (hsub q o hq).2) (bad hw)
  | true =>
    refine ifT_neg rfl ?_
    have out : (n < 1 ∨ 512 < n) → s17c1 K n s (.ptr rt 0 0) true (h0.set rt (.row 2 [.agg [.nilsl, .nilsl]])) := fun hn => by
      unfold s17c1
      refine ifT_pos rfl (st_all ht rfl ?_)
      rw [Heap.set_set, ldN2 (Heap.set_same _ _ _), tCons_cons, tCons_cons, tNil_nil]
      exact retG_drop (fun q o hq => (hsub q o hq).2) (arg hw hn)
    by_cases h1 : n < 1
    · exact ifT_pos (by simpa using h1) (out (.inl h1))
    · refine ifT_neg (by simpa using h1) ?_
      by_cases h2 : 512 < n
      · rw [decide_eq_true h2]
        exact out (.inr h2)
      · rw [decide_eq_false h2]
        unfold s17c1
        refine ifT_neg rfl ?_
        obtain ⟨m, rfl⟩ := Int.eq_ofNat_of_zero_le (show 0 ≤ n by omega)
        have good' := good hw (by omega) (by omega)
        rw [Int.toNat_natCast] at good'
        have hm1 : 1 ≤ m := by omega
        have hm2 : m ≤ 512 := by omega
        have W0 := Own.start (h0.set rt (.row 2 [.agg [.nilsl, .nilsl]]))
        refine ⟨⟨⟨?_, ?_⟩, ?_⟩, ?_, ?_, ?_⟩
        · refine mkS_own (bytes := 24) (n := m) (by omega) (by omega) fun a ha => mkS_own (bytes := 24) (n := m) (by omega) (by omega) fun b hb' => chk_iff.2 ⟨rfl, chk_iff.2 ⟨rfl, newRow_in fun c hc => ?_⟩⟩
          have W := ((newZ (newZ W0 ha m .nilsl) hb' m .nilsl).newC hc (.row 2 [.agg [.nilsl, .nilsl]]))
          exact modelP_tail hm1 hm2 ht hsub good' (perm3 W 2 0 1 rfl rfl rfl (by decide) (by decide) (by decide))
        · refine mkS_own (bytes := 24) (n := m) (by omega) (by omega) fun a ha => newRow_in fun c hc => mkS_own (bytes := 24) (n := m) (by omega) (by omega) fun b hb' => chk_iff.2 ⟨rfl, chk_iff.2 ⟨rfl, ?_⟩⟩
          have W := (newZ ((newZ W0 ha m .nilsl).newC hc (.row 2 [.agg [.nilsl, .nilsl]])) hb' m .nilsl)
          exact modelP_tail hm1 hm2 ht hsub good' (perm3 W 1 0 2 rfl rfl rfl (by decide) (by decide) (by decide))
        · refine newRow_in fun c hc => mkS_own (bytes := 24) (n := m) (by omega) (by omega) fun a ha => mkS_own (bytes := 24) (n := m) (by omega) (by omega) fun b hb' => chk_iff.2 ⟨rfl, chk_iff.2 ⟨rfl, ?_⟩⟩
          have W := (newZ (newZ (W0.newC hc (.row 2 [.agg [.nilsl, .nilsl]])) ha m .nilsl) hb' m .nilsl)
          exact modelP_tail hm1 hm2 ht hsub good' (perm3 W 0 1 2 rfl rfl rfl (by decide) (by decide) (by decide))
        · refine mkS_own (bytes := 24) (n := m) (by omega) (by omega) fun a ha => mkS_own (bytes := 24) (n := m) (by omega) (by omega) fun b hb' => chk_iff.2 ⟨rfl, chk_iff.2 ⟨rfl, newRow_in fun c hc => ?_⟩⟩
          have W := ((newZ (newZ W0 ha m .nilsl) hb' m .nilsl).newC hc (.row 2 [.agg [.nilsl, .nilsl]]))
          exact modelP_tail hm1 hm2 ht hsub good' (perm3 W 2 1 0 rfl rfl rfl (by decide) (by decide) (by decide))
        · refine mkS_own (bytes := 24) (n := m) (by omega) (by omega) fun a ha => newRow_in fun c hc => mkS_own (bytes := 24) (n := m) (by omega) (by omega) fun b hb' => chk_iff.2 ⟨rfl, chk_iff.2 ⟨rfl, ?_⟩⟩
          have W := (newZ ((newZ W0 ha m .nilsl).newC hc (.row 2 [.agg [.nilsl, .nilsl]])) hb' m .nilsl)
          exact modelP_tail hm1 hm2 ht hsub good' (perm3 W 1 2 0 rfl rfl rfl (by decide) (by decide) (by decide))
        · refine newRow_in fun c hc => mkS_own (bytes := 24) (n := m) (by omega) (by omega) fun a ha => mkS_own (bytes := 24) (n := m) (by omega) (by omega) fun b hb' => chk_iff.2 ⟨rfl, chk_iff.2 ⟨rfl, ?_⟩⟩
          have W := (newZ (newZ (W0.newC hc (.row 2 [.agg [.nilsl, .nilsl]])) ha m .nilsl) hb' m .nilsl)
          exact modelP_tail hm1 hm2 ht hsub good' (perm3 W 0 2 1 rfl rfl rfl (by decide) (by decide) (by decide))
end Go.Proofs.Ytobpfhmjdoekfaa

namespace Go.Proofs.Ytobpfhmjdoekfaa
open Go Go.Sym Go.Proofs.Try

variable {K : AVal → Heap → Prop} {h h0 hb : Heap}

section
variable {rt ro n : Nat} {s : ByteArray}
theorem modelD_end (hn : n ≤ 512) {w : Nat} (hw : w < n) {F : Int → ByteArray → AVal → AVal → Int → Heap → Prop} {vU vV : AVal} {LU LV : List AVal} (hLU : LU.length = w) (hLV : LV.length = w)
    (next : ∀ vU' vV' row v' h', Ints row (natI (upRow w)) → Strs v' (vRow s w) → Own hb [.cell ro (.row 2 [.agg [vU', vV']]), .slc 1 vU' (LU ++ [row]), .slc 1 vV' (LV ++ [v'])] h' → F n s (.ptr rt 0 0) (.ptr ro 0 0) ((w + 1 : Nat) : Int) h') {val : AVal} (hval : Strs val (vRow s w)) (hsc : sc val = true)
    {row : AVal} {h : Heap} (W : Own hb [.cell ro (.row 2 [.agg [vU, vV]]), .slc 1 vU LU, .slc 1 vV LV, .slc 1 row ((natI (upRow w)).map (.int .i64))] h) :
    s18c4 K (s18l2_G F) n s (.ptr rt 0 0) (.ptr ro 0 0) (w : Int) row val h := by
  unfold s18c4
  rw [addOff_ptr, ld1_fld (W.get 0 _ ro rfl rfl) rfl]
  refine chk_iff.2 ⟨(W.sc (i := 3) rfl).1, W.app (i := 1) rfl (by omega) (by omega) fun v2 h2 W2 => ?_⟩
  rw [addOff_ptr]
  refine chk_iff.2 ⟨(W2.sc (i := 1) rfl).1, st_fst (W2.get 0 _ ro rfl rfl) ?_⟩
  have W3 := W2.put (i := 0) rfl (.row 2 [.agg [v2, vV]])
  rw [addOff_ptr, ld1_fld (W3.get 0 _ ro rfl rfl) rfl]
  refine chk_iff.2 ⟨hsc, W3.app (i := 2) rfl (by omega) (by omega) fun v3 h3 W4 => ?_⟩
  rw [addOff_ptr]
  refine chk_iff.2 ⟨(W4.sc (i := 2) rfl).1, st_snd (W4.get 0 _ ro rfl rfl) (rg_of (by omega) (by omega) ?_)⟩
  have W5 : Own hb ([.cell ro (.row 2 [.agg [v2, v3]]), .slc 1 v2 (LU ++ [row]), .slc 1 v3 (LV ++ [val])] ++ [.slc 1 row ((natI (upRow w)).map (.int .i64))]) _ := W4.put (i := 0) rfl (.row 2 [.agg [v2, v3]])
  obtain ⟨S, h', row', s1, g, W6⟩ := W5.settleL (i := 1) rfl
  exact ⟨S, _, h', Lits.refl _, g, rfl, next v2 v3 row' val h' s1 hval W6⟩
theorem modelD_l3 (hn : n ≤ 512) {w : Nat} (hw : w < n) {F : Int → ByteArray → AVal → AVal → Int → Heap → Prop} {vU vV : AVal} {LU LV : List AVal} (hLU : LU.length = w) (hLV : LV.length = w)
    (next : ∀ vU' vV' row v' h', Ints row (natI (upRow w)) → Strs v' (vRow s w) → Own hb [.cell ro (.row 2 [.agg [vU', vV']]), .slc 1 vU' (LU ++ [row]), .slc 1 vV' (LV ++ [v'])] h' → F n s (.ptr rt 0 0) (.ptr ro 0 0) ((w + 1 : Nat) : Int) h') :
    ∀ d v : Nat, v + d = w - 1 → w - 3 ≤ v → ∀ row h, Own hb [.cell ro (.row 2 [.agg [vU, vV]]), .slc 1 vU LU, .slc 1 vV LV, .slc 1 row ((natI (List.range' (w - 3) (v - (w - 3)))).map (.int .i64))] h →
      s18l3 K (s18l2_G F) (d + 1) n s (.ptr rt 0 0) (.ptr ro 0 0) (w : Int) row (v : Int) h
  | 0, v, hd, hv, row, h, W => by
    unfold s18l3
    refine rg_of (by omega) (by omega) (ifT_neg (by simp; omega) ?_)
    have : v = w - 1 := by omega
    subst this
    by_cases e : w = 0
    · refine ifT_pos (by simpa using e) ?_
      exact modelD_end hn hw hLU hLV next (by unfold vRow; rw [if_pos e]; exact .inl rfl) rfl W
    · refine ifT_neg (by simpa using e) ?_
      exact modelD_end hn hw hLU hLV next (by unfold vRow; rw [if_neg e]; exact .nil 1) rfl W
  | d + 1, v, hd, hv, row, h, W => by
    unfold s18l3
    refine rg_of (by omega) (by omega) (ifT_pos (by simp; omega) ?_)
    refine W.app (i := 3) rfl (by simp [natI]; omega) (by simp [natI]; omega) fun v2 h2 W2 => rg_of (by omega) (by omega) (s18l3_go ?_)
    refine modelD_l3 (vU := vU) (vV := vV) hn hw hLU hLV next d (v + 1) (by omega) (by omega) v2 h2 ?_
    have e : List.range' (w - 3) (v + 1 - (w - 3)) = List.range' (w - 3) (v - (w - 3)) ++ [v] := by
      rw [show v + 1 - (w - 3) = v - (w - 3) + 1 by omega, List.range'_concat]
      congr 2
      omega
    have e2 : (natI (List.range' (w - 3) (v + 1 - (w - 3)))).map (AVal.int .i64) = (natI (List.range' (w - 3) (v - (w - 3)))).map (.int .i64) ++ [.int .i64 (v : Int)] := by rw [e]; simp [natI]
    rw [e2]
    exact W2
theorem modelD_l2 (hn : n ≤ 512) {X Y : AVal} (ht : hb rt = some (.row 2 [.agg [X, Y]])) (hsub : ∀ q o, h0 q = some o → q ≠ rt ∧ hb q = some o)
    (good : ∀ vU vV, Intss vU (mUp n) → Strss vV (mVal n s) → K (.tuple [.agg [vU, vV], .int .i64 0]) h0) :
    ∀ d w : Nat, w + d = n → ∀ vU vV LU LV h, All2 Ints LU (mUp w) → All2 Strs LV (mVal w s) → Own hb [.cell ro (.row 2 [.agg [vU, vV]]), .slc 1 vU LU, .slc 1 vV LV] h → s18l2 K (d + 1) n s (.ptr rt 0 0) (.ptr ro 0 0) (w : Int) h
  | 0, w, hd, vU, vV, LU, LV, h, hU, hV, W => by
    obtain rfl : w = n := by omega
    unfold s18l2
    refine ifT_neg (by simp) ?_
    rw [ldN2 (W.get 0 _ ro rfl rfl), tCons_cons, tCons_cons, tNil_nil]
    refine st_all (W.old _ _ ht) rfl ?_
    have W2 := W.base (x := .row 2 [.agg [vU, vV]]) ht
    rw [ldN2 (Heap.set_same _ _ _), tCons_cons, tCons_cons, tNil_nil]
    let Sg : Nat → Prop := fun n => nameOf vU n ∨ nameOf vV n
    obtain ⟨u', lu, su⟩ := W2.lit (i := 1) rfl (S := Sg) (fun n h => .inl h) (Lits.refl LU)
    obtain ⟨v', lv, sv⟩ := W2.lit (i := 2) rfl (S := Sg) (fun n h => .inr h) (Lits.refl LV)
    refine ⟨Sg, .tuple [.agg [u', v'], .int .i64 0], h0, .tuple (.cons (.agg (.cons lu (.cons lv .nil))) (.cons (.refl _) .nil)), ⟨fun _ _ => trivial, fun q o hq => ⟨o, ?_, fun hs => ?_, .refl o⟩⟩, good u' v' ⟨_, su, hU⟩ ⟨_, sv, hV⟩⟩
    · rw [Heap.set_ne _ _ (hsub q o hq).1]
      exact W.old q o (hsub q o hq).2
    · have hx : hb q = none := by
        rcases hs with hs | hs
        · exact W.new 1 _ q rfl hs
        · exact W.new 2 _ q rfl hs
      rw [(hsub q o hq).2] at hx
      cases hx
  | d + 1, w, hd, vU, vV, LU, LV, h, hU, hV, W => by
    unfold s18l2
    refine ifT_pos (by simp; omega) (rg_of (by omega) (by omega) ?_)
    rw [show max (0 : Int) ((w : Int) - 3) = ((w - 3 : Nat) : Int) by omega]
    have hUl := hU.length
    have hVl := hV.length
    simp only [mUp, mVal, List.length_map, List.length_range] at hUl hVl
    refine s18l3_in (w - 1 - (w - 3) + 1) (modelD_l3 (hb := hb) (vU := vU) (vV := vV) hn (by omega) hUl hVl (fun vU' vV' row v' h' hr hv W' => ?_) _ (w - 3) (by omega) (by omega) .nilsl h ?_)
    · refine modelD_l2 hn ht hsub good d (w + 1) (by omega) vU' vV' _ _ h' ?_ ?_ W'
      · unfold mUp
        rw [List.range_succ, List.map_append]
        exact hU.append (.cons hr .nil)
      · unfold mVal
        rw [List.range_succ, List.map_append]
        exact hV.append (.cons hv .nil)
    · rw [Nat.sub_self]
      exact W.newN 1
end
theorem modelD_ok (s : ByteArray) (n : Int) (bad : wordB s = false → K (.tuple [.agg [.nilsl, .nilsl], .int .i64 32]) h0) (arg : wordB s = true → (n < 1 ∨ 512 < n) → K (.tuple [.agg [.nilsl, .nilsl], .int .i64 2]) h0)
    (good : wordB s = true → 1 ≤ n → n ≤ 512 → ∀ vU vV, Intss vU (mUp n.toNat) → Strss vV (mVal n.toNat s) → K (.tuple [.agg [vU, vV], .int .i64 0]) h0) : ACalls prog 18 [.int .i64 n, .str s] h0 K := by
  refine s18_ok ?_
  unfold s18
  refine newRow_in fun rt hrt => callG_of (word3_ok s ?_)
  have ht := Heap.set_same h0 rt (.row 2 [.agg [.nilsl, .nilsl]])
  have hsub : ∀ q o, h0 q = some o → q ≠ rt ∧ (h0.set rt (.row 2 [.agg [.nilsl, .nilsl]])) q = some o := fun q o hq => ⟨(fun e => by rw [e, hrt] at hq; cases hq), Heap.set_sub hrt q o hq⟩
  rw [tBool_bool]
  cases hw : wordB s with
  | false =>
    refine ifT_pos rfl (st_all ht rfl ?_)
    rw [Heap.set_set, ldN2 (Heap.set_same _ _ _), tCons_cons, tCons_cons, tNil_nil]
    exact retG_drop (fun q o hq => (hsub q o hq).2) (bad hw)
  | true =>
    refine ifT_neg rfl ?_
    have out : (n < 1 ∨ 512 < n) → s18c1 K n s (.ptr rt 0 0) true (h0.set rt (.row 2 [.agg [.nilsl, .nilsl]])) := fun hn => by
      unfold s18c1
      refine ifT_pos rfl (st_all ht rfl ?_)
      rw [Heap.set_set, ldN2 (Heap.set_same _ _ _), tCons_cons, tCons_cons, tNil_nil]
      exact retG_drop (fun q o hq => (hsub q o hq).2) (arg hw hn)
    by_cases h1 : n < 1
    · exact ifT_pos (by simpa using h1) (out (.inl h1))
    · refine ifT_neg (by simpa using h1) ?_
      by_cases h2 : 512 < n
      · rw [decide_eq_true h2]
        exact out (.inr h2)
      · rw [decide_eq_false h2]
        unfold s18c1
        refine ifT_neg rfl ?_
        obtain ⟨m, rfl⟩ := Int.eq_ofNat_of_zero_le (show 0 ≤ n by omega)
        have good' := good hw (by omega) (by omega)
        rw [Int.toNat_natCast] at good'
        refine newRow_in fun ro hro => st_all (Heap.set_same _ _ _) rfl ?_
        rw [Heap.set_set]
        refine s18l2_in (m + 1) (modelD_l2 (by omega) ht hsub good' m 0 (by omega) .nilsl .nilsl [] [] _ .nil .nil ?_)
        exact (((Own.start _).newC hro (.row 2 [.agg [.nilsl, .nilsl]])).newN 1).newN 1

theorem small_m (n : Nat) (hn : n ≤ 512) {s : ByteArray} (hs : s.size ≤ 1073741824) : Small (mUp n) (mVal n s) where
  ups := by simp [mUp]; omega
  vals := by simp [mVal]; omega
  row r hr := by
    obtain ⟨w, hw, rfl⟩ := List.mem_map.1 hr
    simp only [natI, List.length_map, upRow, List.length_range']
    omega
  names l hl := by
    obtain ⟨w, hw, rfl⟩ := List.mem_map.1 hl
    unfold vRow
    split
    · exact ⟨⟨by simp, fun x hx => by rw [List.mem_singleton.1 hx]; exact hs⟩, by simp⟩
    · exact ⟨⟨by simp, fun x hx => by cases hx⟩, by simp⟩

theorem modelsL_tail (H : HeadsOK) (hk : ∀ h', K (.bool true) h') {up : List (List Int)} {val : List (List ByteArray)} (S : Small up val) {e : Int} {a b c d : AVal} (ha : Intss a up) (hb : Strss b val) (hc : Intss c up) (hd : Strss d val) {h : Heap} {r r1 : Nat}
    (hr : h r = some (.row 2 [.agg [a, b]])) (hr1 : h r1 = some (.row 2 [.agg [c, d]])) :
    ldN 2 h (.ptr r 0 0) fun l_12 =>
    tCons l_12 fun v12 l_13 =>
    tCons l_13 fun v13 l_14 =>
    tNil l_14 (
      ldN 2 h (.ptr r1 0 0) fun l_15 =>
      tCons l_15 fun v14 l_16 =>
      tCons l_16 fun v15 l_17 =>
      tNil l_17 (
        callG prog 19 [(.agg [v12, v13]), (.agg [v14, v15])] h fun v16 h_6 =>
        tBool v16 fun v17 =>
        ifT v17 (
          callG prog 15 [(.int .i64 e)] h_6 fun v18 h_7 =>
          tInt .i64 v18 fun v19 =>
          ifT (v19 == e) (
            callG prog 16 [] h_7 fun v20 h_8 =>
            tBool v20 fun v21 =>
            retG (.bool v21) h_8 K) (
            retG (.bool false) h_7 K)) (
          retG (.bool false) h_6 K))) := by
  rw [ldN2 hr, tCons_cons, tCons_cons, tNil_nil, ldN2 hr1, tCons_cons, tCons_cons, tNil_nil]
  refine callG_of (same_ok S ha hb hc hd ?_)
  rw [tBool_bool]
  refine ifT_pos (by simp) (callG_of (num26_ok ?_))
  rw [tInt_int]
  exact ifT_pos (by simp) (headsRet H hk)
theorem modelsL_ok (H : HeadsOK) (n : Int) {s : ByteArray} (hs : s.size ≤ 1073741824) (hk : ∀ h', K (.bool true) h') : ACalls prog 4 [.int .i64 n, .str s] h K := by
  refine s4_ok ?_
  unfold s4
  have S0 : Small [] [] := ⟨by simp, by simp, (fun r hr => by cases hr), (fun l hl => by cases hl)⟩
  have n0 : Intss .nilsl [] := ⟨[], .nil 1, .nil⟩
  have m0 : Strss .nilsl [] := ⟨[], .nil 1, .nil⟩
  refine callG_of (modelP_ok hs n (fun h1 => ?_) (fun h1 h2 => ?_) (fun h1 h2 h3 vU vV hU hV => ?_))
  · rw [tTup_tuple, tCons_cons, tCons_cons, tInt_int, tNil_nil, tAgg_agg, tCons_cons, tCons_cons, tNil_nil]
    refine newRow_in fun r hr => st_all (Heap.set_same _ _ _) rfl (callG_of (modelD_ok s n (fun g1 => ?_) (fun g1 => by rw [h1] at g1; cases g1) (fun g1 => by rw [h1] at g1; cases g1)))
    rw [tTup_tuple, tCons_cons, tCons_cons, tInt_int, tNil_nil, tAgg_agg, tCons_cons, tCons_cons, tNil_nil, Heap.set_set]
    refine newRow_in fun r1 hr1 => st_all (Heap.set_same _ _ _) rfl ?_
    rw [Heap.set_set]
    exact modelsL_tail H hk S0 n0 m0 n0 m0 (Heap.set_sub hr1 _ _ (Heap.set_same _ _ _)) (Heap.set_same _ _ _)
  · rw [tTup_tuple, tCons_cons, tCons_cons, tInt_int, tNil_nil, tAgg_agg, tCons_cons, tCons_cons, tNil_nil]
    refine newRow_in fun r hr => st_all (Heap.set_same _ _ _) rfl (callG_of (modelD_ok s n (fun g1 => by rw [h1] at g1; cases g1) (fun g1 _ => ?_) (fun _ g1 g2 => by omega)))
    rw [tTup_tuple, tCons_cons, tCons_cons, tInt_int, tNil_nil, tAgg_agg, tCons_cons, tCons_cons, tNil_nil, Heap.set_set]
    refine newRow_in fun r1 hr1 => st_all (Heap.set_same _ _ _) rfl ?_
    rw [Heap.set_set]
    exact modelsL_tail H hk S0 n0 m0 n0 m0 (Heap.set_sub hr1 _ _ (Heap.set_same _ _ _)) (Heap.set_same _ _ _)
  · rw [tTup_tuple, tCons_cons, tCons_cons, tInt_int, tNil_nil, tAgg_agg, tCons_cons, tCons_cons, tNil_nil]
    refine newRow_in fun r hr => st_all (Heap.set_same _ _ _) rfl (callG_of (modelD_ok s n (fun g1 => by rw [h1] at g1; cases g1) (fun g1 g2 => by omega) (fun _ _ _ vU' vV' hU' hV' => ?_)))
    rw [tTup_tuple, tCons_cons, tCons_cons, tInt_int, tNil_nil, tAgg_agg, tCons_cons, tCons_cons, tNil_nil, Heap.set_set]
    refine newRow_in fun r1 hr1 => st_all (Heap.set_same _ _ _) rfl ?_
    rw [Heap.set_set]
    exact modelsL_tail H hk (small_m _ (by omega) hs) hU hV hU' hV' (Heap.set_sub hr1 _ _ (Heap.set_same _ _ _)) (Heap.set_same _ _ _)
end Go.Proofs.Ytobpfhmjdoekfaa

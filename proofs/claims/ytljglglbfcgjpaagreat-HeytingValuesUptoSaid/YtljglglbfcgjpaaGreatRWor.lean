/- Contracts: the same numbers. No condition. Contracts: lists of names and of numbers, the same models. No condition. Contracts: the program's words. No condition. Contracts: what a name is. No condition. Words and small laws for contracts: sizes of models, owned rows. No condition. Contracts: names that rise; is a name, a number among some? (the program) No condition. Plain: who is above whom; a search for all that is above. No condition. Plain: which models are well-formed. No condition. Contracts: who is above whom, by the program (worlds). No condition. Contracts: which models are well-formed, by the program (worlds). No condition. Contracts: the worlds of which something holds. No condition. Plain: what is next above each world. No condition. Contracts: what is next above each world, by the program; copies. No condition. Plain: a map as a set; a measure. No condition. Plain law: tidying keeps the order; the parts of a glued model. No condition; no program. Words for contracts: memory that grows. No condition. -/
import Derived.Test.YtljglglbfcgjpaaGreatM5
import Derived.Test.YtljglglbfcgjpaaGreatPV0
import Derived.Test.YtljglglbfcgjpaaGreatPV1

set_option linter.unusedVariables false
set_option linter.unusedSimpArgs false

namespace Go.Proofs.YtljglglbfcgjpaaGreat
open Go Go.Sym Go.Proofs.Tryz

variable {K : AVal → Heap → Prop} {h : Heap}

theorem ints_loop {a b : AVal} {la lb : List Int} (ha : Ints a la) (hb : Ints b lb) (hl : la.length = lb.length) (hm : la.length ≤ 1073741824) : ∀ d i : Nat, i + d = la.length →
    K (.bool (decide (la.drop i = lb.drop i))) h → s18l1 K (d + 1) a b (i : Int) h
  | 0, i, hd, hk => by
    unfold s18l1
    rw [ha.len]
    refine ifT_neg (by simp; omega) (retG_of ?_)
    rw [List.drop_eq_nil_of_le (by omega), List.drop_eq_nil_of_le (by omega)] at hk
    simpa using hk
  | d + 1, i, hd, hk => by
    have hi : i < la.length := by omega
    have hi' : i < lb.length := by omega
    unfold s18l1
    rw [ha.len]
    refine ifT_pos (by simp; omega) ?_
    rw [ha.ix hi, ld1_lptr, tInt_int, hb.ix hi', ld1_lptr, tInt_int]
    rw [drop_eq_step hi hi'] at hk
    by_cases he : la[i] = lb[i]
    · refine ifT_neg (by simp [he]) (rg_of (by omega) (by omega) ?_)
      exact s18l1_go (ints_loop ha hb hl hm d (i + 1) (by omega) (by simpa [he] using hk))
    · refine ifT_pos (by simp [he]) (retG_of ?_)
      simpa [he] using hk

theorem ints_ok {a b : AVal} {la lb : List Int} (ha : Ints a la) (hb : Ints b lb) (hm : la.length ≤ 1073741824) (hk : K (.bool (decide (la = lb))) h) :
    ACalls prog 18 [a, b] h K := by
  refine s18_ok ?_
  unfold s18
  rw [ha.len, hb.len]
  by_cases hl : la.length = lb.length
  · refine ifT_neg (by simp [hl]) (s18l1_in (la.length + 1) ?_)
    exact ints_loop ha hb hl hm la.length 0 (by omega) (by simpa using hk)
  · refine ifT_pos (by simp; omega) (retG_of ?_)
    rwa [show decide (la = lb) = false by simp; intro e; exact hl (by rw [e])] at hk
end Go.Proofs.YtljglglbfcgjpaaGreat

namespace Go.Proofs.YtljglglbfcgjpaaGreat
open Go Go.Sym Go.Proofs.Tryz

variable {K : AVal → Heap → Prop} {h : Heap}

theorem names_loop {a b : AVal} {la lb : List ByteArray} (ha : Strs a la) (hb : Strs b lb) (hl : la.length = lb.length) (hm : la.length ≤ 1073741824) : ∀ d i : Nat, i + d = la.length →
    K (.bool (decide (la.drop i = lb.drop i))) h → s42l1 K (d + 1) a b (i : Int) h
  | 0, i, hd, hk => by
    unfold s42l1
    rw [ha.len]
    refine ifT_neg (by simp; omega) (retG_of ?_)
    rw [List.drop_eq_nil_of_le (by omega), List.drop_eq_nil_of_le (by omega)] at hk
    simpa using hk
  | d + 1, i, hd, hk => by
    have hi : i < la.length := by omega
    have hi' : i < lb.length := by omega
    unfold s42l1
    rw [ha.len]
    refine ifT_pos (by simp; omega) ?_
    rw [ha.ix hi, ld1_lptr, tStr_str, hb.ix hi', ld1_lptr, tStr_str, strEq_dec]
    rw [drop_eq_step hi hi'] at hk
    by_cases he : la[i] = lb[i]
    · refine ifT_neg (by simp [he]) (rg_of (by omega) (by omega) ?_)
      exact s42l1_go (names_loop ha hb hl hm d (i + 1) (by omega) (by simpa [he] using hk))
    · refine ifT_pos (by simp [he]) (retG_of ?_)
      simpa [he] using hk

theorem names_ok {a b : AVal} {la lb : List ByteArray} (ha : Strs a la) (hb : Strs b lb) (hm : la.length ≤ 1073741824) (hk : K (.bool (decide (la = lb))) h) :
    ACalls prog 42 [a, b] h K := by
  refine s42_ok ?_
  unfold s42
  rw [ha.len, hb.len]
  by_cases hl : la.length = lb.length
  · refine ifT_neg (by simp [hl]) (s42l1_in (la.length + 1) ?_)
    exact names_loop ha hb hl hm la.length 0 (by omega) (by simpa using hk)
  · refine ifT_pos (by simp; omega) (retG_of ?_)
    rwa [show decide (la = lb) = false by simp; intro e; exact hl (by rw [e])] at hk
end Go.Proofs.YtljglglbfcgjpaaGreat

namespace Go.Proofs.YtljglglbfcgjpaaGreat
open Go Go.Sym Go.Proofs.Tryz

variable {K : AVal → Heap → Prop} {h : Heap}

def ltB (c : Int) : Bool := (decide (97 ≤ c) && decide (c ≤ 122)) || (decide (65 ≤ c) && decide (c ≤ 90))
def dgB (c : Int) : Bool := (decide (48 ≤ c) && decide (c ≤ 57)) || (c == 95 || c == 39)
def goodB (s : ByteArray) (i : Nat) : Bool := ltB (btA s i) || (i != 0 && dgB (btA s i))
def resL : List ByteArray := [ByteArray.mk #[97, 98, 111, 114, 116], ByteArray.mk #[99, 97, 115, 101], ByteArray.mk #[102, 97, 108, 115, 101], ByteArray.mk #[102, 115, 116], ByteArray.mk #[102, 117, 110], ByteArray.mk #[105, 110], ByteArray.mk #[105, 110, 108], ByteArray.mk #[105, 110, 114], ByteArray.mk #[108, 101, 116], ByteArray.mk #[111, 102], ByteArray.mk #[115, 110, 100], ByteArray.mk #[116, 114, 117, 101]]
/-- is it a name? -/
def wordB (s : ByteArray) : Bool := decide (s.size ≠ 0) && (decide (s.size ≤ 31) && ((List.range' 0 s.size).all (goodB s) && resL.all fun r => !strEq r s))

theorem strEq_comm (a b : ByteArray) : strEq a b = strEq b a := by rw [strEq_dec, strEq_dec, Bool.eq_iff_iff]; simp [eq_comm]
theorem btA_range (s : ByteArray) (i : Int) : 0 ≤ btA s i ∧ btA s i ≤ 255 := by
  unfold btA
  have := UInt8.toNat_lt (s[i.toNat]?.getD 0)
  omega
theorem or32 : ∀ c : Fin 256, (decide (97 ≤ bitsI .or .u8 (c.val : Int) 32) && decide (bitsI .or .u8 (c.val : Int) 32 ≤ 122)) = ltB c.val := by decide +kernel
theorem or32_bt (s : ByteArray) (i : Int) : (decide (97 ≤ bitsI .or .u8 (btA s i) 32) && decide (bitsI .or .u8 (btA s i) 32 ≤ 122)) = ltB (btA s i) := by
  obtain ⟨h1, h2⟩ := btA_range s i
  have := or32 ⟨(btA s i).toNat, by omega⟩
  simp only [Int.toNat_of_nonneg h1] at this
  exact this

theorem reserved_ok (s : ByteArray) (hk : K (.bool (resL.any fun r => strEq r s)) h) : ACalls prog 159 [.str s] h K := by
  refine s159_ok ?_
  unfold s159
  simp only [resL, List.any_cons, List.any_nil, Bool.or_false] at hk
  simp only [strEq_comm _ s] at hk
  unfold s159c1
  generalize strEq s (ByteArray.mk #[97, 98, 111, 114, 116]) = b0 at hk ⊢
  generalize strEq s (ByteArray.mk #[99, 97, 115, 101]) = b1 at hk ⊢
  generalize strEq s (ByteArray.mk #[102, 97, 108, 115, 101]) = b2 at hk ⊢
  generalize strEq s (ByteArray.mk #[102, 115, 116]) = b3 at hk ⊢
  generalize strEq s (ByteArray.mk #[102, 117, 110]) = b4 at hk ⊢
  generalize strEq s (ByteArray.mk #[105, 110]) = b5 at hk ⊢
  generalize strEq s (ByteArray.mk #[105, 110, 108]) = b6 at hk ⊢
  generalize strEq s (ByteArray.mk #[105, 110, 114]) = b7 at hk ⊢
  generalize strEq s (ByteArray.mk #[108, 101, 116]) = b8 at hk ⊢
  generalize strEq s (ByteArray.mk #[111, 102]) = b9 at hk ⊢
  generalize strEq s (ByteArray.mk #[115, 110, 100]) = b10 at hk ⊢
  generalize strEq s (ByteArray.mk #[116, 114, 117, 101]) = b11 at hk ⊢
  cases b0 with
  | true => exact ifT_pos rfl (ifT_pos rfl (retG_of (by simpa using hk)))
  | false =>
  refine ifT_neg rfl ?_
  cases b1 with
  | true => exact ifT_pos rfl (ifT_pos rfl (retG_of (by simpa using hk)))
  | false =>
  refine ifT_neg rfl ?_
  cases b2 with
  | true => exact ifT_pos rfl (ifT_pos rfl (retG_of (by simpa using hk)))
  | false =>
  refine ifT_neg rfl ?_
  cases b3 with
  | true => exact ifT_pos rfl (ifT_pos rfl (retG_of (by simpa using hk)))
  | false =>
  refine ifT_neg rfl ?_
  cases b4 with
  | true => exact ifT_pos rfl (ifT_pos rfl (retG_of (by simpa using hk)))
  | false =>
  refine ifT_neg rfl ?_
  cases b5 with
  | true => exact ifT_pos rfl (ifT_pos rfl (retG_of (by simpa using hk)))
  | false =>
  refine ifT_neg rfl ?_
  cases b6 with
  | true => exact ifT_pos rfl (ifT_pos rfl (retG_of (by simpa using hk)))
  | false =>
  refine ifT_neg rfl ?_
  cases b7 with
  | true => exact ifT_pos rfl (ifT_pos rfl (retG_of (by simpa using hk)))
  | false =>
  refine ifT_neg rfl ?_
  cases b8 with
  | true => exact ifT_pos rfl (ifT_pos rfl (retG_of (by simpa using hk)))
  | false =>
  refine ifT_neg rfl ?_
  cases b9 with
  | true => exact ifT_pos rfl (ifT_pos rfl (retG_of (by simpa using hk)))
  | false =>
  refine ifT_neg rfl ?_
  cases b10 with
  | true => exact ifT_pos rfl (ifT_pos rfl (retG_of (by simpa using hk)))
  | false =>
  refine ifT_neg rfl ?_
  cases b11 with
  | true => exact ifT_pos rfl (retG_of (by simpa using hk))
  | false => exact ifT_neg rfl (retG_of (by simpa using hk))

theorem word_loop {s : ByteArray} (hm : s.size ≤ 1073741824) : ∀ d i : Nat, i + d = s.size →
    K (.bool ((List.range' i d).all (goodB s) && (decide (s.size ≠ 0) && (decide (s.size ≤ 31) && resL.all fun r => !strEq r s)))) h → s143l1 K (d + 1) s (s.size : Int) (i : Int) h
  | 0, i, hd, hk => by
    unfold s143l1
    refine ifT_neg (by simp; omega) ?_
    have he : strEq s (ByteArray.mk #[]) = decide (s.size = 0) := by
      rw [strEq_dec, Bool.eq_iff_iff]
      simp only [decide_eq_true_eq]
      constructor
      · intro e; rw [e]; rfl
      · intro e
        obtain ⟨⟨l⟩⟩ := s
        have : l.length = 0 := e
        rw [List.eq_nil_of_length_eq_zero this]
    rw [he]
    simp only [List.range'_zero, List.all_nil, Bool.true_and] at hk
    by_cases h0 : s.size = 0
    · refine ifT_neg (by simp [h0]) (retG_of ?_)
      simpa [h0] using hk
    · refine ifT_pos (by simp [h0]) ?_
      by_cases h31 : s.size ≤ 31
      · refine ifT_pos (by simp; omega) (callG_of (reserved_ok s ?_))
        rw [tBool_bool]
        refine retG_of ?_
        rw [show (!resL.any fun r => strEq r s) = resL.all fun r => !strEq r s by rw [List.all_eq_not_any_not]; simp]
        simpa [h0, h31] using hk
      · refine ifT_neg (by simp; omega) (retG_of ?_)
        simpa [h0, h31] using hk
  | d + 1, i, hd, hk => by
    unfold s143l1
    refine ifT_pos (by simp; omega) ⟨by omega, ?_⟩
    rw [List.range'_succ, List.all_cons] at hk
    have rest : goodB s i = true → s143c3 K (s143l1_G (s143l1 K (d + 1))) s s.size i false h := by
      intro hg
      rw [hg] at hk
      exact ifT_neg rfl (rg_of (by omega) (by omega) (s143l1_go (word_loop hm d (i + 1) (by omega) (by simpa using hk))))
    have stop : goodB s i = false → s143c3 K (s143l1_G (s143l1 K (d + 1))) s s.size i true h := by
      intro hg
      rw [hg] at hk
      exact ifT_pos rfl (retG_of (by simpa using hk))
    have key : s143c2 K (s143l1_G (s143l1 K (d + 1))) s i (btA s i) (ltB (btA s i)) s.size i h := by
      unfold s143c2
      unfold goodB dgB at rest stop
      cases hl : ltB (btA s i) with
      | true => exact ifT_neg rfl (rest (by rw [hl]; rfl))
      | false =>
        rw [hl] at rest stop
        simp only [Bool.false_or] at rest stop
        refine ifT_pos rfl ?_
        by_cases h0 : i = 0
        · refine ifT_pos (by simp [h0]) (stop (by simp [h0]))
        · refine ifT_neg (by simpa using h0) ?_
          rw [show (i != 0) = true by simpa using h0] at rest stop
          simp only [Bool.true_and] at rest stop
          generalize btA s i = c at *
          by_cases h95 : c = 95
          · exact ifT_neg (by simp [h95]) (rest (by simp [h95]))
          · refine ifT_pos (by simpa using h95) ?_
            by_cases h39 : c = 39
            · exact ifT_neg (by simp [h39]) (rest (by simp [h39]))
            · refine ifT_pos (by simpa using h39) ?_
              by_cases h48 : c < 48
              · exact ifT_pos (by simpa using h48) (stop (by simp [h95, h39]; omega))
              · refine ifT_neg (by simpa using h48) ?_
                by_cases h57 : 57 < c
                · rw [show decide (57 < c) = true by simpa using h57]; exact stop (by simp [h95, h39]; omega)
                · rw [show decide (57 < c) = false by simpa using h57]; exact rest (by simp; omega)
    have ho := or32_bt s i
    cases h97 : decide (97 ≤ bitsI .or .u8 (btA s i) 32) with
    | true => rw [h97, Bool.true_and] at ho; rw [ho]; exact ifT_pos rfl key
    | false => rw [h97, Bool.false_and] at ho; rw [← ho] at key; exact ifT_neg rfl key

theorem word_ok (s : ByteArray) (hm : s.size ≤ 1073741824) (hk : K (.bool (wordB s)) h) : ACalls prog 143 [.str s] h K := by
  refine s143_ok (s143l1_in (s.size + 1) (word_loop hm s.size 0 (by omega) ?_))
  unfold wordB at hk
  rwa [show ((List.range' 0 s.size).all (goodB s) && (decide (s.size ≠ 0) && (decide (s.size ≤ 31) && resL.all fun r => !strEq r s))) =
    (decide (s.size ≠ 0) && (decide (s.size ≤ 31) && ((List.range' 0 s.size).all (goodB s) && resL.all fun r => !strEq r s))) by
      cases (List.range' 0 s.size).all (goodB s) <;> cases decide (s.size ≠ 0) <;> cases decide (s.size ≤ 31) <;> rfl]
end Go.Proofs.YtljglglbfcgjpaaGreat

namespace Go.Proofs.YtljglglbfcgjpaaGreat
open Go Go.Sym Go.Proofs.Tryz

variable {K : AVal → Heap → Prop} {h : Heap}

theorem letter_ok (c : Int) (hk : K (.bool (ltB c)) h) : ACalls prog 131 [.int .u8 c] h K := by
  refine s131_ok ?_
  unfold s131
  unfold ltB at hk
  by_cases h1 : 97 ≤ c <;> by_cases h2 : c ≤ 122 <;> by_cases h3 : 65 ≤ c <;> simp [h1, h2, h3, ifT_eq] at hk ⊢ <;> exact retG_of (by simpa using hk)

theorem reserved3_ok (hk : ∀ v, Strs v resL → K v h) : ACalls prog 132 [] h K := by
  refine s132_ok ?_
  unfold s132
  exact retG_of (hk _ (.inl rfl))

theorem word3_res {v : AVal} {s : ByteArray} {l : List ByteArray} (hv : Strs v l) (hm : l.length ≤ 1073741824) : ∀ d i : Nat, i + d = l.length → K (.bool ((l.drop i).all fun r => !strEq r s)) h → s103l4 K (d + 1) s v (i : Int) h
  | 0, i, hd, hk => by
    unfold s103l4
    rw [hv.len]
    refine ifT_neg (by simp; omega) (retG_of ?_)
    rw [List.drop_eq_nil_of_le (by omega)] at hk
    simpa using hk
  | d + 1, i, hd, hk => by
    have hi : i < l.length := by omega
    unfold s103l4
    rw [hv.len]
    refine ifT_pos (by simp; omega) ?_
    rw [hv.ix hi, ld1_lptr, tStr_str]
    rw [List.drop_eq_getElem_cons hi, List.all_cons] at hk
    cases he : strEq l[i] s with
    | true => rw [he] at hk; exact ifT_pos rfl (retG_of (by simpa using hk))
    | false =>
      rw [he] at hk
      refine ifT_neg rfl (rg_of (by omega) (by omega) ?_)
      exact s103l4_go (word3_res hv hm d (i + 1) (by omega) (by simpa using hk))

theorem word3_loop {s : ByteArray} (hm : s.size ≤ 31) : ∀ d i : Nat, 1 ≤ i → i + d = s.size → K (.bool ((List.range' i d).all (goodB s) && resL.all fun r => !strEq r s)) h → s103l2 K (d + 1) s (i : Int) h
  | 0, i, h1, hd, hk => by
    unfold s103l2
    refine ifT_neg (by simp; omega) (callG_of (reserved3_ok fun v hv => s103l4_in 13 ?_))
    exact word3_res hv (by decide) 12 0 rfl (by simpa using hk)
  | d + 1, i, h1, hd, hk => by
    unfold s103l2
    refine ifT_pos (by simp; omega) ⟨by omega, callG_of (letter_ok _ ?_)⟩
    rw [tBool_bool]
    rw [List.range'_succ, List.all_cons] at hk
    have rest : goodB s i = true → s103c3 K (s103l2_G (s103l2 K (d + 1))) s i false h := by
      intro hg
      rw [hg] at hk
      exact ifT_neg rfl (rg_of (by omega) (by omega) (s103l2_go (word3_loop hm d (i + 1) (by omega) (by omega) (by simpa using hk))))
    have stop : goodB s i = false → s103c3 K (s103l2_G (s103l2 K (d + 1))) s i true h := by
      intro hg
      rw [hg] at hk
      exact ifT_pos rfl (retG_of (by simpa using hk))
    have hi0 : (i != 0) = true := by simp; omega
    have hgood : goodB s i = (ltB (btA s i) || dgB (btA s i)) := by simp [goodB, hi0]
    cases hl : ltB (btA s i) with
    | true => exact ifT_neg rfl (rest (by rw [hgood, hl]; rfl))
    | false =>
      rw [hl, Bool.false_or] at hgood
      unfold dgB at hgood
      generalize btA s i = c at *
      refine ifT_pos rfl ⟨by omega, ?_⟩
      by_cases h48 : 48 ≤ c
      · refine ifT_pos (by simpa using h48) ⟨by omega, ?_⟩
        by_cases h57 : c ≤ 57
        · refine ifT_neg (by simpa using h57) (rest (by rw [hgood]; simp [h48, h57]))
        · refine ifT_pos (by simpa using h57) ⟨by omega, ?_⟩
          by_cases h95 : c = 95
          · exact ifT_neg (by simp [h95]) (rest (by rw [hgood]; simp [h95]))
          · refine ifT_pos (by simpa using h95) ⟨by omega, ?_⟩
            by_cases h39 : c = 39
            · rw [show (c != 39) = false by simp [h39]]; exact rest (by rw [hgood]; simp [h39])
            · rw [show (c != 39) = true by simpa using h39]; exact stop (by rw [hgood]; simp [h57, h95, h39])
      · refine ifT_neg (by simpa using h48) ⟨by omega, ?_⟩
        by_cases h95 : c = 95
        · exact ifT_neg (by simp [h95]) (rest (by rw [hgood]; simp [h95]))
        · refine ifT_pos (by simpa using h95) ⟨by omega, ?_⟩
          by_cases h39 : c = 39
          · rw [show (c != 39) = false by simp [h39]]; exact rest (by rw [hgood]; simp [h39])
          · rw [show (c != 39) = true by simpa using h39]; exact stop (by rw [hgood]; simp [h48, h95, h39])

theorem word3_ok (s : ByteArray) (hk : K (.bool (wordB s)) h) : ACalls prog 103 [.str s] h K := by
  refine s103_ok ?_
  unfold s103
  unfold wordB at hk
  by_cases h1 : s.size < 1
  · refine ifT_pos (by simp; omega) (ifT_pos rfl (retG_of ?_))
    rw [decide_eq_false (by omega : ¬ s.size ≠ 0)] at hk
    exact hk
  · refine ifT_neg (by simp; omega) ?_
    rw [decide_eq_true (by omega : s.size ≠ 0), Bool.true_and] at hk
    by_cases h2 : 31 < s.size
    · refine ifT_pos (by simp; omega) (ifT_pos rfl (retG_of ?_))
      rw [show decide (s.size ≤ 31) = false by simp; omega] at hk
      exact hk
    · refine ifT_neg (by simp; omega) ⟨by omega, callG_of (letter_ok _ ?_)⟩
      rw [tBool_bool]
      rw [show decide (s.size ≤ 31) = true by simp; omega, Bool.true_and] at hk
      obtain ⟨m, hm⟩ : ∃ m, s.size = m + 1 := ⟨s.size - 1, by omega⟩
      rw [hm, List.range'_succ, List.all_cons, show goodB s 0 = ltB (btA s 0) by simp [goodB]] at hk
      cases hl : ltB (btA s 0) with
      | true =>
        rw [hl] at hk
        exact ifT_neg rfl (s103l2_in (m + 1) (word3_loop (by omega) m 1 (by omega) (by omega) (by simpa using hk)))
      | false =>
        rw [hl] at hk
        exact ifT_pos rfl (retG_of (by simpa using hk))

end Go.Proofs.YtljglglbfcgjpaaGreat

namespace Go.Proofs.YtljglglbfcgjpaaGreat
open Go Go.Sym Go.Proofs.Tryz

/-- no name is longer than a machine's number -/
def SB (l : List ByteArray) : Prop := l.length ≤ 1073741824 ∧ ∀ s ∈ l, s.size ≤ 1073741824

/-- nothing is longer than a machine bears -/
structure Small (up : List (List Int)) (val : List (List ByteArray)) : Prop where
  ups : up.length ≤ 1048576
  vals : val.length ≤ 1048576
  row : ∀ r ∈ up, r.length ≤ 1048576
  names : ∀ l ∈ val, SB l ∧ l.length ≤ 1048576

def natI (l : List Nat) : List Int := l.map fun (x : Nat) => (x : Int)
theorem map_set {α : Type} (g : Nat → α) (n w : Nat) (y : α) : ((List.range n).map g).set w y = (List.range n).map fun x => if x = w then y else g x := by
  refine List.ext_getElem (by simp) fun i h1 h2 => ?_
  rw [List.getElem_set]
  by_cases e : w = i
  · subst e; simp
  · rw [if_neg e]
    simp [Ne.symm e]
theorem range_get {α : Type} (g : Nat → α) {n i : Nat} (hi : i < n) : ((List.range n).map g)[i]? = some (g i) := by simp [hi]

/- ---------------- the texts of the names ---------------- -/
theorem Own.toBase {hb h : Heap} {os : List Ow} (W : Own hb os h) (S : Nat → Prop) (hS : ∀ n, S n → hb n = none) : Go.Sym.GStep h hb S :=
  ⟨fun _ _ => trivial, fun q o hq => ⟨o, W.old q o hq, (fun hs => by rw [hS q hs] at hq; cases hq), .refl o⟩⟩
def rowsO (q : Nat) (f : Nat → AVal) (g : Nat → List Nat) : List Ow := (List.range q).map fun k => .slc 1 (f k) ((natI (g k)).map (.int .i64))
def upd {α : Type} (f : Nat → α) (k : Nat) (y : α) : Nat → α := fun x => if x = k then y else f x
theorem rowsO_get {q k : Nat} {f : Nat → AVal} {g : Nat → List Nat} (hk : k < q) (a b d : Ow) : ([a, b, d] ++ rowsO q f g)[k + 3]? = some (.slc 1 (f k) ((natI (g k)).map (.int .i64))) := by
  show (rowsO q f g)[k]? = _
  unfold rowsO
  exact range_get _ hk
theorem rowsO_set {q k x : Nat} {f : Nat → AVal} {g : Nat → List Nat} {v : AVal} (a b d : Ow) : ([a, b, d] ++ rowsO q f g).set (k + 3) (.slc 1 v ((natI (g k)).map (.int .i64) ++ [.int .i64 (x : Int)])) = [a, b, d] ++ rowsO q (upd f k v) (upd g k (g k ++ [x])) := by
  show a :: b :: d :: (rowsO q f g).set k _ = a :: b :: d :: rowsO q _ _
  unfold rowsO
  rw [map_set]
  congr 3
  refine List.map_congr_left fun y _ => ?_
  unfold upd
  split
  · simp [natI]
  · rfl
theorem lits_rows {hb h : Heap} {os : List Ow} (W : Own hb os h) {S : Nat → Prop} {f : Nat → AVal} {g : Nat → List Nat} : ∀ (ks : List Nat), (∀ k ∈ ks, ∃ i : Nat, os[i]? = some (.slc 1 (f k) ((natI (g k)).map (.int .i64)))) → (∀ k ∈ ks, ∀ n, nameOf (f k) n → S n) →
    ∃ l', Lits h S (ks.map f) l' ∧ All2 Ints l' (ks.map fun k => natI (g k))
  | [], _, _ => ⟨[], .nil, .nil⟩
  | k :: ks, ho, hS => by
    obtain ⟨l', h1, h2⟩ := lits_rows W ks (fun k hk => ho k (List.mem_cons_of_mem _ hk)) (fun k hk => hS k (List.mem_cons_of_mem _ hk))
    obtain ⟨i, hi⟩ := ho k List.mem_cons_self
    obtain ⟨v', hv, hs⟩ := W.lit hi (S := S) (hS k List.mem_cons_self) (Lits.refl _)
    exact ⟨v' :: l', .cons hv h1, .cons hs h2⟩
theorem newNs {hb h : Heap} {os : List Ow} (W : Own hb os h) : ∀ q : Nat, Own hb (os ++ (List.range q).map fun _ => .slc 1 .nilsl []) h
  | 0 => by simpa using W
  | q + 1 => by
    have := (newNs W q).newN 1
    rw [List.append_assoc] at this
    rw [List.range_succ, List.map_append]
    exact this
theorem range_filter_succ (p : Nat → Bool) (n : Nat) : (List.range (n + 1)).filter p = (List.range n).filter p ++ if p n then [n] else [] := by
  rw [List.range_succ, List.filter_append]
  congr 1
  rw [List.filter_cons]
  rfl
theorem mem_natI {l : List Nat} {x : Int} : x ∈ natI l ↔ ∃ c ∈ l, x = (c : Int) := by
  unfold natI
  rw [List.mem_map]
  exact ⟨fun ⟨c, h1, h2⟩ => ⟨c, h1, h2.symm⟩, fun ⟨c, h1, h2⟩ => ⟨c, h1, h2.symm⟩⟩

end Go.Proofs.YtljglglbfcgjpaaGreat

namespace Go.Proofs.YtljglglbfcgjpaaGreat
open Go Go.Sym Go.Proofs.Tryz

variable {K : AVal → Heap → Prop} {h : Heap}


def fine1 (l : List ByteArray) (i : Nat) : Bool := wordB (l.getD i ByteArray.empty) && (i == 0 || strLt (l.getD (i - 1) ByteArray.empty) (l.getD i ByteArray.empty))
/-- names that rise -/
def fineB (l : List ByteArray) : Bool := (List.range' 0 l.length).all (fine1 l)

def inS (l : List ByteArray) (s : ByteArray) : Bool := l.any fun x => decide (x = s)
theorem inS_iff {l : List ByteArray} {s : ByteArray} : inS l s = true ↔ s ∈ l := by
  unfold inS
  rw [List.any_eq_true]
  constructor
  · rintro ⟨x, hx, he⟩; rwa [← of_decide_eq_true he]
  · exact fun hx => ⟨s, hx, decide_eq_true rfl⟩

theorem idxS_loop {v : AVal} {l : List ByteArray} {s : ByteArray} (hv : Strs v l) (hm : l.length ≤ 1073741824) (hk : ∀ n : Int, (0 ≤ n ↔ s ∈ l) → K (.int .i64 n) h) : ∀ d i : Nat, i + d = l.length → s ∉ l.take i →
    s122l1 K (d + 1) v s (l.length : Int) (i : Int) h
  | 0, i, hd, hn => by
    unfold s122l1
    refine ifT_neg (by simp; omega) (retG_of (hk _ ?_))
    rw [List.take_of_length_le (by omega)] at hn
    simp [hn]
  | d + 1, i, hd, hn => by
    have hi : i < l.length := by omega
    unfold s122l1
    refine ifT_pos (by simp; omega) ?_
    rw [hv.ix hi, ld1_lptr, tStr_str, strEq_dec]
    by_cases he : s = l[i]
    · exact ifT_pos (by simpa using he) (retG_of (hk _ ⟨fun _ => he ▸ List.getElem_mem hi, fun _ => by omega⟩))
    · refine ifT_neg (by simpa using he) (rg_of (by omega) (by omega) (s122l1_go (idxS_loop hv hm hk d (i + 1) (by omega) ?_)))
      rw [List.take_succ_eq_append_getElem hi]
      intro hx
      rcases List.mem_append.1 hx with hx | hx
      · exact hn hx
      · exact he (List.mem_singleton.1 hx)
theorem containsS_ok {v : AVal} {l : List ByteArray} {s : ByteArray} (hv : Strs v l) (hm : l.length ≤ 1073741824) (hk : K (.bool (inS l s)) h) : ACalls prog 99 [v, .str s] h K := by
  refine s99_ok (callG_of (s122_ok ?_))
  unfold s122
  rw [hv.len]
  refine s122l1_in (l.length + 1) (idxS_loop hv hm (fun n hn => ?_) l.length 0 (by omega) (by simp))
  rw [tInt_int]
  refine retG_of ?_
  rwa [show decide (0 ≤ n) = inS l s by rw [Bool.eq_iff_iff, inS_iff]; simpa using hn]

theorem idxFS_loop {v f : AVal} {l : List ByteArray} {p : ByteArray → Bool} (hv : Strs v l) (hm : l.length ≤ 1073741824)
    (hf : ∀ s ∈ l, ∀ K : AVal → Heap → Prop, K (.bool (p s)) h → callV prog f [.str s] h K) (hk : ∀ n : Int, (0 ≤ n ↔ ∃ s ∈ l, p s = true) → K (.int .i64 n) h) : ∀ d i : Nat, i + d = l.length → (∀ s ∈ l.take i, p s = false) →
    s158l1 K (d + 1) v f (l.length : Int) (i : Int) h
  | 0, i, hd, hn => by
    unfold s158l1
    refine ifT_neg (by simp; omega) (retG_of (hk _ ?_))
    rw [List.take_of_length_le (by omega)] at hn
    constructor
    · intro h0; omega
    · rintro ⟨s, hs, hp⟩; rw [hn s hs] at hp; cases hp
  | d + 1, i, hd, hn => by
    have hi : i < l.length := by omega
    unfold s158l1
    refine ifT_pos (by simp; omega) ?_
    rw [hv.ix hi, ld1_lptr, tStr_str]
    refine hf _ (List.getElem_mem hi) _ ?_
    rw [tBool_bool]
    cases he : p l[i] with
    | true => exact ifT_pos rfl (retG_of (hk _ ⟨fun _ => ⟨_, List.getElem_mem hi, he⟩, fun _ => by omega⟩))
    | false =>
      refine ifT_neg rfl (rg_of (by omega) (by omega) (s158l1_go (idxFS_loop hv hm hf hk d (i + 1) (by omega) ?_)))
      rw [List.take_succ_eq_append_getElem hi]
      intro s hs
      rcases List.mem_append.1 hs with hs | hs
      · exact hn s hs
      · simp at hs; rw [hs, he]
theorem containsFS_ok {v f : AVal} {l : List ByteArray} {p : ByteArray → Bool} (hv : Strs v l) (hm : l.length ≤ 1073741824)
    (hf : ∀ s ∈ l, ∀ K : AVal → Heap → Prop, K (.bool (p s)) h → callV prog f [.str s] h K) (hk : K (.bool (l.any p)) h) : ACalls prog 141 [v, f] h K := by
  refine s141_ok (callG_of (s158_ok ?_))
  unfold s158
  rw [hv.len]
  refine s158l1_in (l.length + 1) (idxFS_loop hv hm hf (fun n hn => ?_) l.length 0 (by omega) (by simp))
  rw [tInt_int]
  refine retG_of ?_
  rwa [show decide (0 ≤ n) = l.any p by rw [Bool.eq_iff_iff]; simpa using hn]

theorem idxFI_loop {v f : AVal} {l : List Int} {p : Int → Bool} (hv : Ints v l) (hm : l.length ≤ 1073741824)
    (hf : ∀ s ∈ l, ∀ K : AVal → Heap → Prop, K (.bool (p s)) h → callV prog f [.int .i64 s] h K) (hk : ∀ n : Int, (0 ≤ n ↔ ∃ s ∈ l, p s = true) → K (.int .i64 n) h) : ∀ d i : Nat, i + d = l.length → (∀ s ∈ l.take i, p s = false) →
    s117l1 K (d + 1) v f (l.length : Int) (i : Int) h
  | 0, i, hd, hn => by
    unfold s117l1
    refine ifT_neg (by simp; omega) (retG_of (hk _ ?_))
    rw [List.take_of_length_le (by omega)] at hn
    constructor
    · intro h0; omega
    · rintro ⟨s, hs, hp⟩; rw [hn s hs] at hp; cases hp
  | d + 1, i, hd, hn => by
    have hi : i < l.length := by omega
    unfold s117l1
    refine ifT_pos (by simp; omega) ?_
    rw [hv.ix hi, ld1_lptr, tInt_int]
    refine hf _ (List.getElem_mem hi) _ ?_
    rw [tBool_bool]
    cases he : p l[i] with
    | true => exact ifT_pos rfl (retG_of (hk _ ⟨fun _ => ⟨_, List.getElem_mem hi, he⟩, fun _ => by omega⟩))
    | false =>
      refine ifT_neg rfl (rg_of (by omega) (by omega) (s117l1_go (idxFI_loop hv hm hf hk d (i + 1) (by omega) ?_)))
      rw [List.take_succ_eq_append_getElem hi]
      intro s hs
      rcases List.mem_append.1 hs with hs | hs
      · exact hn s hs
      · simp at hs; rw [hs, he]
theorem containsFI_ok {v f : AVal} {l : List Int} {p : Int → Bool} (hv : Ints v l) (hm : l.length ≤ 1073741824)
    (hf : ∀ s ∈ l, ∀ K : AVal → Heap → Prop, K (.bool (p s)) h → callV prog f [.int .i64 s] h K) (hk : K (.bool (l.any p)) h) : ACalls prog 83 [v, f] h K := by
  refine s83_ok (callG_of (s117_ok ?_))
  unfold s117
  rw [hv.len]
  refine s117l1_in (l.length + 1) (idxFI_loop hv hm hf (fun n hn => ?_) l.length 0 (by omega) (by simp))
  rw [tInt_int]
  refine retG_of ?_
  rwa [show decide (0 ≤ n) = l.any p by rw [Bool.eq_iff_iff]; simpa using hn]

theorem getD_of {l : List ByteArray} {i : Nat} (hi : i < l.length) : l.getD i ByteArray.empty = l[i] := by simp [List.getD, hi]

theorem rising_loop {v : AVal} {l : List ByteArray} (hv : Strs v l) (hm : SB l) : ∀ d i : Nat, i + d = l.length → K (.bool ((List.range' i d).all (fine1 l))) h → s140l1 K (d + 1) v v (l.length : Int) (i : Int) h
  | 0, i, hd, hk => by
    unfold s140l1
    exact ifT_neg (by simp; omega) (retG_of (by simpa using hk))
  | d + 1, i, hd, hk => by
    have hi : i < l.length := by omega
    have hl := hm.1
    unfold s140l1
    refine ifT_pos (by simp; omega) ?_
    rw [hv.ix hi, ld1_lptr, tStr_str]
    refine callG_of (word_ok _ (hm.2 _ (List.getElem_mem hi)) ?_)
    rw [tBool_bool]
    rw [List.range'_succ, List.all_cons] at hk
    have rest : fine1 l i = true → s140c2 K (s140l1_G (s140l1 K (d + 1))) v v l.length i false h := by
      intro hg
      rw [hg] at hk
      exact ifT_neg rfl (rg_of (by omega) (by omega) (s140l1_go (rising_loop hv hm d (i + 1) (by omega) (by simpa using hk))))
    have stop : fine1 l i = false → s140c2 K (s140l1_G (s140l1 K (d + 1))) v v l.length i true h := by
      intro hg
      rw [hg] at hk
      exact ifT_pos rfl (retG_of (by simpa using hk))
    unfold fine1 at rest stop
    rw [getD_of hi] at rest stop
    cases hw : wordB l[i] with
    | false => exact ifT_pos rfl (stop (by rw [hw]; rfl))
    | true =>
      rw [hw, Bool.true_and] at rest stop
      refine ifT_neg rfl ?_
      by_cases h0 : 0 < i
      · refine ifT_pos (by simp; omega) (rg_of (by omega) (by omega) ?_)
        have hi1 : i - 1 < l.length := by omega
        rw [show (i : Int) - 1 = ((i - 1 : Nat) : Int) by omega, hv.ix hi1, ld1_lptr, tStr_str]
        rw [getD_of hi1, show (i == 0) = false by simp; omega, Bool.false_or] at rest stop
        cases hs : strLt l[i - 1] l[i] with
        | true => exact rest hs
        | false => exact stop hs
      · obtain rfl : i = 0 := by omega
        exact ifT_neg (by simp) (rest (by simp))
theorem rising_ok {v : AVal} {l : List ByteArray} (hv : Strs v l) (hm : SB l) (hk : K (.bool (fineB l)) h) : ACalls prog 140 [v] h K := by
  refine s140_ok ?_
  unfold s140
  rw [hv.len]
  exact s140l1_in (l.length + 1) (rising_loop hv hm l.length 0 (by omega) hk)
end Go.Proofs.YtljglglbfcgjpaaGreat

namespace Go.Proofs.YtljglglbfcgjpaaGreat
open Go Go.Sym Go.Proofs.Tryz

variable {K : AVal → Heap → Prop}

def Step (up : List (List Int)) (a b : Nat) : Prop := ∃ r, up[a]? = some r ∧ (b : Int) ∈ r
/-- b is above a -/
inductive Reach (up : List (List Int)) (a : Nat) : Nat → Prop
  | refl : Reach up a a
  | tail {b c : Nat} (h : Reach up a b) (hs : Step up b c) : Reach up a c
theorem Reach.trans {up : List (List Int)} {a b c : Nat} (h : Reach up a b) (h' : Reach up b c) : Reach up a c := by
  induction h' with
  | refl => exact h
  | tail _ hs ih => exact .tail ih hs
/-- all numbers are worlds -/
def InR (up : List (List Int)) : Prop := ∀ r ∈ up, ∀ b ∈ r, 0 ≤ b ∧ b < up.length
theorem Reach.lt {up : List (List Int)} (hi : InR up) {a b : Nat} (h : Reach up a b) (ha : a < up.length) : b < up.length := by
  cases h with
  | refl => exact ha
  | tail _ hs =>
    obtain ⟨r, hr, hb⟩ := hs
    have := hi r (List.mem_of_getElem? hr) _ hb
    omega
open Classical in
noncomputable def rb (up : List (List Int)) (a b : Nat) : Bool := decide (Reach up a b)
theorem rb_iff {up : List (List Int)} {a b : Nat} : rb up a b = true ↔ Reach up a b := by unfold rb; simp
noncomputable def rowB (up : List (List Int)) (a : Nat) : List Bool := (List.range up.length).map (rb up a)
/-- a table of the order -/
def OTab (v : AVal) (up : List (List Int)) : Prop := ∃ rows, SlOf 1 v rows ∧ rows.length = up.length ∧ ∀ a, a < up.length → ∃ e, rows[a]? = some e ∧ e.isAgg = false ∧ SlOf 1 e ((rowB up a).map .bool)
theorem OTab.len {v : AVal} {up : List (List Int)} (h : OTab v up) (K : Int → Prop) : lenN v K = K up.length := by
  obtain ⟨rows, h1, h2, _⟩ := h
  rw [lenN_of h1, h2]
theorem cells_of_notAgg {e : AVal} (h : e.isAgg = false) : cellsOf e = [e] := by cases e <;> first | rfl | cases h
theorem OTab.row {v : AVal} {up : List (List Int)} (h : OTab v up) {a : Nat} (ha : a < up.length) {h' : Heap} : ∃ e, (∀ K : AVal → Prop, (ixS 1 v (a : Int) fun p => ld1 h' p K) = K e) ∧
    (∀ K : Int → Prop, lenN e K = K up.length) ∧ ∀ b, b < up.length → ∀ K : AVal → Prop, (ixS 1 e (b : Int) fun p => ld1 h' p K) = K (.bool (rb up a b)) := by
  obtain ⟨rows, h1, h2, h3⟩ := h
  obtain ⟨e, he, hn, hr⟩ := h3 a ha
  refine ⟨e, fun K => ?_, fun K => ?_, fun b hb K => ?_⟩
  · rw [ixS_nat h1 he, cells_of_notAgg hn, ld1_lptr]
  · rw [lenN_of hr]; simp [rowB]
  · rw [ixS_nat hr (e := .bool (rb up a b)) (by simp [rowB, hb])]; rfl

/- ---------------- a search for all that is above ---------------- -/
structure BF (up : List (List Int)) (a : Nat) (marks : List Bool) (W : List Nat) : Prop where
  len : marks.length = up.length
  cnt : W.length + marks.count false = up.length
  reach : ∀ x ∈ W, x < up.length ∧ Reach up a x
  mkd : ∀ x, marks[x]? = some true ↔ x ∈ W

theorem BF.add {up : List (List Int)} {a b : Nat} {marks : List Bool} {W : List Nat} (B : BF up a marks W) (hb : marks[b]? = some false) (hr : Reach up a b) : BF up a (marks.set b true) (W ++ [b]) := by
  have hlt : b < marks.length := (List.getElem?_eq_some_iff.1 hb).1
  have hget : marks[b] = false := (List.getElem?_eq_some_iff.1 hb).2
  have hpos : 0 < marks.count false := List.count_pos_iff.2 (hget ▸ List.getElem_mem hlt)
  refine ⟨by simp [B.len], ?_, fun x hx => ?_, fun x => ?_⟩
  · have := List.count_set (a := true) (b := false) hlt
    rw [hget] at this
    simp only [List.length_append, List.length_singleton]
    have h2 := B.cnt
    rw [this]
    simp
    omega
  · rcases List.mem_append.1 hx with hx | hx
    · exact B.reach x hx
    · rw [List.mem_singleton.1 hx]; exact ⟨by rw [← B.len]; exact hlt, hr⟩
  · rw [List.getElem?_set]
    by_cases e : b = x
    · subst e; simp [hlt]
    · simp [e, B.mkd x, Ne.symm e]

theorem BF.start {up : List (List Int)} {a : Nat} (ha : a < up.length) : BF up a ((List.replicate up.length false).set a true) [a] := by
  have hr : (List.replicate up.length false)[a]? = some false := by simp [ha]
  have hlt : a < (List.replicate up.length false).length := by simpa using ha
  refine ⟨by simp, ?_, fun x hx => ?_, fun x => ?_⟩
  · rw [List.count_set hlt]; simp; omega
  · rw [List.mem_singleton.1 hx]; exact ⟨ha, .refl⟩
  · rw [List.getElem?_set]
    by_cases e : a = x
    · subst e; simp [ha]
    · simp only [if_neg e, List.mem_singleton]
      constructor
      · intro h; simp [List.getElem?_replicate] at h
      · intro h; exact absurd h.symm e

/-- when all are looked at, the marks are the order's row -/
theorem BF.done {up : List (List Int)} {a : Nat} {marks : List Bool} {W : List Nat} (B : BF up a marks W) (ha : a ∈ W) (hcl : ∀ x ∈ W, ∀ c, Step up x c → marks[c]? = some true) : marks = rowB up a := by
  have hall : ∀ c, Reach up a c → c ∈ W := by
    intro c hc
    induction hc with
    | refl => exact ha
    | tail _ hs ih => exact (B.mkd _).1 (hcl _ ih _ hs)
  apply List.ext_getElem?
  intro b
  unfold rowB
  rw [List.getElem?_map]
  by_cases hb : b < up.length
  · rw [List.getElem?_range hb, Option.map_some]
    have hlt : b < marks.length := by rw [B.len]; exact hb
    rw [List.getElem?_eq_getElem hlt]
    congr 1
    have h1 := B.mkd b
    rw [List.getElem?_eq_getElem hlt] at h1
    rw [Bool.eq_iff_iff, rb_iff]
    constructor
    · intro e; exact (B.reach b (h1.1 (by rw [e]))).2
    · intro hr; simpa using h1.2 (hall b hr)
  · rw [List.getElem?_eq_none (by have := B.len; omega), List.getElem?_eq_none (by simpa using hb)]; rfl

def natV (W : List Nat) : List AVal := W.map fun (x : Nat) => .int .i64 (x : Int)

/-- the memory of the search: the table, the row, around what waits -/
structure OM (h0 : Heap) (ro ra a n : Nat) (R : List AVal) (marks : List Bool) (hb : Heap) : Prop where
  ho : h0 ro = none
  ha : h0 ra = none
  ne : ra ≠ ro
  hb : hb = (h0.set ro (.row 1 R)).set ra (.row 1 (marks.map .bool))
  at_ : R[a]? = some (.sl ra 1 0 n)
  len : R.length = n
theorem OM.get_o {h0 hb : Heap} {ro ra a n : Nat} {R : List AVal} {marks : List Bool} (M : OM h0 ro ra a n R marks hb) : hb ro = some (.row 1 R) := by
  rw [M.hb, Heap.set_ne _ _ M.ne.symm, Heap.set_same]
theorem OM.get_a {h0 hb : Heap} {ro ra a n : Nat} {R : List AVal} {marks : List Bool} (M : OM h0 ro ra a n R marks hb) : hb ra = some (.row 1 (marks.map .bool)) := by
  rw [M.hb, Heap.set_same]
theorem OM.old {h0 hb : Heap} {ro ra a n : Nat} {R : List AVal} {marks : List Bool} (M : OM h0 ro ra a n R marks hb) {q : Nat} {o : AObj} (hq : h0 q = some o) : hb q = some o := by
  rw [M.hb, Heap.set_ne _ _ (fun e => by subst e; rw [M.ha] at hq; cases hq), Heap.set_ne _ _ (fun e => by subst e; rw [M.ho] at hq; cases hq)]
  exact hq
theorem OM.put {h0 hb : Heap} {ro ra a n : Nat} {R : List AVal} {marks marks' : List Bool} (M : OM h0 ro ra a n R marks hb) : OM h0 ro ra a n R marks' (hb.set ra (.row 1 (marks'.map .bool))) :=
  ⟨M.ho, M.ha, M.ne, by rw [M.hb, Heap.set_set], M.at_, M.len⟩

theorem natV_len (W : List Nat) : (natV W).length = W.length := by simp [natV]
theorem natV_get {W : List Nat} {i x : Nat} (h : W[i]? = some x) : (natV W)[i]? = some (.int .i64 (x : Int)) := by simp [natV, h]
theorem natV_app (W : List Nat) (b : Nat) : natV (W ++ [b]) = natV W ++ [.int .i64 (b : Int)] := by simp [natV]

structure TU (up : List (List Int)) (a : Nat) (R : List AVal) : Prop where
  len : R.length = up.length
  done : ∀ a', a' < a → ∃ e, R[a']? = some e ∧ e.isAgg = false ∧ SlOf 1 e ((rowB up a').map .bool)
  rest : ∀ a', a' < up.length → ∃ e, R[a']? = some e ∧ e.isAgg = false

end Go.Proofs.YtljglglbfcgjpaaGreat

namespace Go.Proofs.YtljglglbfcgjpaaGreat
open Go Go.Sym Go.Proofs.Tryz

variable {K : AVal → Heap → Prop} {h : Heap} {up : List (List Int)} {val : List (List ByteArray)} {mU mV : AVal}

/-- what is asked of a world and one above it -/
def Cond (up : List (List Int)) (val : List (List ByteArray)) (a b : Nat) : Prop := Reach up a b → a ≠ b → ¬ Reach up b a ∧ ∀ s ∈ val.getD a [], s ∈ val.getD b []
/-- a well-formed model -/
structure WF (up : List (List Int)) (val : List (List ByteArray)) : Prop where
  pos : 1 ≤ up.length
  max : up.length ≤ 512
  len : val.length = up.length
  inR : InR up
  fine : ∀ l ∈ val, fineB l = true
  cond : ∀ a b, a < up.length → b < up.length → Cond up val a b
theorem getD_val {a : Nat} (ha : a < val.length) : val.getD a [] = val[a] := by simp [List.getD, ha]

end Go.Proofs.YtljglglbfcgjpaaGreat

namespace Go.Proofs.YtljglglbfcgjpaaGreat
open Go Go.Sym Go.Proofs.Tryz

variable {K : AVal → Heap → Prop}

/-- the function value that tells the order -/
def LeqF (f : AVal) (up : List (List Int)) : Prop := ∃ o, f = .func (.func 157) [] [.lptr [o]] ∧ OTab o up
theorem leq_call {f : AVal} {up : List (List Int)} {h : Heap} (hf : LeqF f up) {a b : Nat} (ha : a < up.length) (hb : b < up.length) (hk : K (.bool (rb up a b)) h) : callV prog f [.int .i64 a, .int .i64 b] h K := by
  obtain ⟨o, rfl, hO⟩ := hf
  show callG prog 157 ([] ++ [.int .i64 a, .int .i64 b] ++ [.lptr [o]]) h K
  refine callG_of (s157_ok ?_)
  unfold s157
  obtain ⟨e, hrow, _, hix⟩ := hO.row (h' := h) ha
  rw [ld1_lptr, hrow, hix b hb, tBool_bool]
  exact retG_of hk

theorem BF.perm {up : List (List Int)} {a : Nat} {marks : List Bool} {W W' : List Nat} (B : BF up a marks W) (hl : W'.length = W.length) (hm : ∀ x, x ∈ W' ↔ x ∈ W) : BF up a marks W' :=
  ⟨B.len, by rw [hl]; exact B.cnt, fun x hx => B.reach x ((hm x).1 hx), fun x => (B.mkd x).trans (hm x).symm⟩

section
variable {h0 h00 : Heap} {up : List (List Int)} {ro ra a : Nat} {R : List AVal}

theorem reckon_l3 (hn : up.length ≤ 1073741824) (bad : ¬ InR up → K (.tuple [.nilfunc, .bool false]) h00) (hsub : ∀ q o, h00 q = some o → h0 q = some o)
    {L1 : AVal → Int → AVal → Int → Int → Heap → Prop} {L2 : AVal → Int → AVal → AVal → AVal → Int → Int → Heap → Prop} {m row abv : AVal} {r : List Int} {x : Nat} {t18 t19 : Int} (hrow : Ints row r) (hr : r.length ≤ 1073741824)
    (hx : up[x]? = some r) (hax : Reach up a x) {marks0 : List Bool} {D : List Nat}
    (hL : ∀ marks S st hb h, BF up a marks (D ++ S) → OM h0 ro ra a up.length R marks hb → Stk 1 hb st (natV S) h → (∀ y : Nat, marks0[y]? = some true → marks[y]? = some true) →
      (∀ b ∈ r, 0 ≤ b ∧ b < up.length ∧ marks[b.toNat]? = some true) → L2 m up.length abv (.sl ra 1 0 up.length) st t18 t19 h) :
    ∀ d k : Nat, k + d = r.length → ∀ marks S st hb h, BF up a marks (D ++ S) → OM h0 ro ra a up.length R marks hb → Stk 1 hb st (natV S) h → (∀ y : Nat, marks0[y]? = some true → marks[y]? = some true) →
      (∀ b ∈ r.take k, 0 ≤ b ∧ b < up.length ∧ marks[b.toNat]? = some true) → s139l3 K L1 L2 (d + 1) m up.length abv (.sl ra 1 0 up.length) st t18 t19 row r.length (k : Int) h
  | 0, k, hd, marks, S, st, hb, h, B, M, g, hmono, hdone => by
    unfold s139l3
    refine ifT_neg (by simp; omega) (hL marks S st hb h B M g hmono ?_)
    rwa [List.take_of_length_le (by omega)] at hdone
  | d + 1, k, hd, marks, S, st, hb, h, B, M, g, hmono, hdone => by
    have hk : k < r.length := by omega
    unfold s139l3
    refine ifT_pos (by simp; omega) ?_
    rw [hrow.ix hk, ld1_lptr, tInt_int]
    have key : s139c5 K L1 L2 (s139l3_G (s139l3 K L1 L2 (d + 1))) m up.length abv (.sl ra 1 0 up.length) st r[k] t18 t19 row r.length k (decide (r[k] < 0) || decide ((up.length : Int) ≤ r[k])) h := by
      by_cases hbad : r[k] < 0 ∨ (up.length : Int) ≤ r[k]
      · refine ifT_pos (by simpa using hbad) (retG_drop (fun q o hq => g.old (M.old (hsub q o hq))) (bad fun hI => ?_))
        have := hI r (List.mem_of_getElem? hx) r[k] (List.getElem_mem hk)
        omega
      · refine ifT_neg (by simpa using hbad) ?_
        obtain ⟨b, hbk⟩ : ∃ b : Nat, r[k] = (b : Int) := ⟨r[k].toNat, by omega⟩
        have hbn : b < up.length := by omega
        rw [hbk]
        have hbm : b < marks.length := by rw [B.len]; exact hbn
        refine ixS_sl0 hbn ?_
        rw [ld1_ptr (g.old M.get_a) (e := .bool marks[b]) (by simp [hbm]) rfl, tBool_bool]
        have hstep : Reach up a b := .tail hax ⟨r, hx, by rw [← hbk]; exact List.getElem_mem hk⟩
        have next : ∀ marks' S' st' hb' h', BF up a marks' (D ++ S') → OM h0 ro ra a up.length R marks' hb' → Stk 1 hb' st' (natV S') h' → (∀ y : Nat, marks[y]? = some true → marks'[y]? = some true) → marks'[b]? = some true →
            s139c4 K L1 L2 (s139l3_G (s139l3 K L1 L2 (d + 1))) m up.length abv (.sl ra 1 0 up.length) st' t18 t19 row r.length k h' := by
          intro marks' S' st' hb' h' B' M' g' hm' hmb
          refine rg_of (by omega) (by omega) (s139l3_go (reckon_l3 hn bad hsub hrow hr hx hax hL d (k + 1) (by omega) marks' S' st' hb' h' B' M' g' (fun y hy => hm' y (hmono y hy)) ?_))
          rw [List.take_succ_eq_append_getElem hk]
          intro c hc
          rcases List.mem_append.1 hc with hc | hc
          · obtain ⟨h1, h2, h3⟩ := hdone c hc
            exact ⟨h1, h2, hm' _ h3⟩
          · rw [List.mem_singleton.1 hc, hbk]
            exact ⟨by omega, by omega, by simpa using hmb⟩
        cases hmk : marks[b] with
        | true => exact ifT_neg rfl (next marks S st hb h B M g (fun _ hy => hy) (by rw [List.getElem?_eq_getElem hbm, hmk]))
        | false =>
          refine ifT_pos rfl (ixS_sl0 hbn (st_elem (g.old M.get_a) (e := .bool marks[b]) (by simp [hbm]) rfl ?_))
          rw [show (marks.map AVal.bool).set b (.bool true) = (marks.set b true).map .bool by rw [List.map_set]]
          have B' := B.add (b := b) (by rw [List.getElem?_eq_getElem hbm, hmk]) hstep
          have g' := g.upd (x := .row 1 ((marks.set b true).map .bool)) M.get_a
          have hcnt := B'.cnt
          rw [List.append_assoc] at B' hcnt
          have hlen : (D ++ S).length + 1 ≤ up.length := by simp only [List.length_append, List.length_singleton] at hcnt ⊢; omega
          have hlen2 : S.length + 1 ≤ up.length := by simp only [List.length_append] at hlen; omega
          refine appC_stk g' (by rw [natV_len]; omega) (by rw [natV_len]; omega) fun v' h' g2 => ?_
          rw [← natV_app] at g2
          refine next _ (S ++ [b]) v' _ h' B' M.put g2 (fun y hy => ?_) (by simp [hbm])
          rw [List.getElem?_set]
          by_cases e : b = y
          · subst e; simp [hbm]
          · rw [if_neg e]; exact hy
    by_cases h0' : r[k] < 0
    · refine ifT_pos (by simpa using h0') ?_
      rwa [show (decide (r[k] < 0) || decide ((up.length : Int) ≤ r[k])) = true by simp [h0']] at key
    · refine ifT_neg (by simpa using h0') ?_
      rwa [show (decide (r[k] < 0) || decide ((up.length : Int) ≤ r[k])) = decide ((up.length : Int) ≤ r[k]) by simp [h0']] at key

theorem reckon_l2 (hn : up.length ≤ 1073741824) (hrl : ∀ r ∈ up, r.length ≤ 1073741824) (bad : ¬ InR up → K (.tuple [.nilfunc, .bool false]) h00) (hsub : ∀ q o, h00 q = some o → h0 q = some o)
    {L1 : AVal → Int → AVal → Int → Int → Heap → Prop} {mU mV abv : AVal} {t18 : Int} (hU : Intss mU up) (han : a < up.length)
    (hL : ∀ st hb h, OM h0 ro ra a up.length R (rowB up a) hb → Stk 1 hb st [] h → (∀ b ∈ up[a], 0 ≤ b ∧ b < up.length) → L1 (.lptr [mU, mV]) up.length abv t18 (a + 1) h) :
    ∀ d : Nat, ∀ marks D S st hb h, D.length + d = up.length → (a ∈ D ++ S) → BF up a marks (D ++ S) → OM h0 ro ra a up.length R marks hb → Stk 1 hb st (natV S) h →
      (∀ y ∈ D, ∀ r, up[y]? = some r → ∀ b ∈ r, 0 ≤ b ∧ b < up.length ∧ marks[b.toNat]? = some true) →
      s139l2 K L1 (d + 1) (.lptr [mU, mV]) up.length abv (.sl ra 1 0 up.length) st t18 (a : Int) h := by
  intro d
  have fin : ∀ marks D st hb h d, a ∈ D → BF up a marks D → OM h0 ro ra a up.length R marks hb → Stk 1 hb st (natV []) h →
      (∀ y ∈ D, ∀ r, up[y]? = some r → ∀ b ∈ r, 0 ≤ b ∧ b < up.length ∧ marks[b.toNat]? = some true) →
      s139l2 K L1 (d + 1) (.lptr [mU, mV]) up.length abv (.sl ra 1 0 up.length) st t18 (a : Int) h := by
    intro marks D st hb h d haD B M g hcl
    unfold s139l2
    rw [g.len]
    refine ifT_neg (by simp [natV]) (rg_of (by omega) (by omega) ?_)
    have hm := B.done haD fun y hy c ⟨r, hr, hc⟩ => by
      have := (hcl y hy r hr _ hc).2.2
      simpa using this
    rw [hm] at M
    exact hL st hb h M g fun b hb => by
      have h1 := hcl a haD _ (List.getElem?_eq_getElem han) b hb
      exact ⟨h1.1, h1.2.1⟩
  induction d with
  | zero =>
    intro marks D S st hb h hd haD B M g hcl
    have hS : S = [] := by
      have := B.cnt
      simp only [List.length_append] at this
      exact List.eq_nil_of_length_eq_zero (by omega)
    subst hS
    rw [List.append_nil] at B haD
    exact fin marks D st hb h 0 haD B M g hcl
  | succ d ih =>
    intro marks D S st hb h hd haD B M g hcl
    rcases List.eq_nil_or_concat S with rfl | ⟨S', x, rfl⟩
    · rw [List.append_nil] at B haD
      exact fin marks D st hb h (d + 1) haD B M g hcl
    · have hcnt := B.cnt
      simp only [List.length_append, List.length_singleton, List.concat_eq_append] at hcnt
      rw [List.concat_eq_append] at B g haD
      unfold s139l2
      rw [g.len, natV_len]
      refine ifT_pos (by simp) ?_
      rw [g.len, natV_len]
      refine rg_of (by simp only [List.length_append, List.length_singleton]; omega) (by simp only [List.length_append, List.length_singleton]; omega) ?_
      have hlen1 : (((S' ++ [x]).length : Nat) : Int) - 1 = (S'.length : Nat) := by simp
      rw [hlen1]
      refine g.ix (e := .int .i64 (x : Int)) (by rw [natV_app, List.getElem?_append_right (by rw [natV_len]; omega), natV_len]; simp) rfl ?_
      rw [tInt_int, g.len, natV_len, hlen1]
      refine rg_of (by omega) (by omega) ?_
      rw [natV_app] at g
      refine g.pop (by rw [natV_len]) fun st' g' => ?_
      rw [addOff_lptr]
      simp only [List.drop_zero, ld1_lptr]
      obtain ⟨hxn, hxr⟩ := B.reach x (by simp)
      obtain ⟨e, he, hix⟩ := hU.ix hxn
      rw [hix, ld1_lptr, he.len]
      have hup : up[x]? = some up[x] := List.getElem?_eq_getElem hxn
      refine s139l3_in (up[x].length + 1) ?_
      have B1 : BF up a marks ((D ++ [x]) ++ S') := B.perm (by simp only [List.length_append, List.length_singleton]; omega) (by intro y; simp; constructor <;> (rintro (h | h | h) <;> simp [h]))
      refine reckon_l3 (D := D ++ [x]) (marks0 := marks) hn bad hsub he (hrl _ (List.getElem_mem hxn)) hup hxr (fun marks' S2 st2 hb2 h2 B2 M2 g2 hmono hr' => ?_) _ 0 (by omega) marks S' st' hb h B1 M g' (fun _ hy => hy) (by simp)
      refine s139l2_go (ih marks' (D ++ [x]) S2 st2 hb2 h2 (by simp; omega) ?_ B2 M2 g2 ?_)
      · exact (B2.mkd a).1 (hmono a ((B.mkd a).2 haD))
      · intro y hy r hr b hb
        rcases List.mem_append.1 hy with hy | hy
        · obtain ⟨h1, h2, h3⟩ := hcl y hy r hr b hb
          exact ⟨h1, h2, hmono _ h3⟩
        · rw [List.mem_singleton.1 hy, hup] at hr
          cases hr
          exact hr' b hb
end

section
variable {h00 : Heap} {up : List (List Int)} {ro rbx : Nat}

theorem reckon_l1 (hn : up.length ≤ 1073741824) (hrl : ∀ r ∈ up, r.length ≤ 1073741824) (bad : ¬ InR up → K (.tuple [.nilfunc, .bool false]) h00) (good : InR up → ∀ f, LeqF f up → K (.tuple [f, .bool true]) h00)
    {mU mV : AVal} (hU : Intss mU up) (ho : h00 ro = none) (hx : h00 rbx = none) (hne : rbx ≠ ro) : ∀ d a : Nat, a + d = up.length → ∀ R, TU up a R → (∀ a' r, a' < a → up[a']? = some r → ∀ b ∈ r, 0 ≤ b ∧ b < up.length) →
      s139l1 K (d + 1) (.lptr [mU, mV]) up.length (.ptr rbx 0 0) up.length (a : Int) ((h00.set rbx (.row 1 [.sl ro 1 0 up.length])).set ro (.row 1 R))
  | 0, a, hd, R, T, hr => by
    unfold s139l1
    refine ifT_neg (by simp; omega) ?_
    have hbx : ((h00.set rbx (.row 1 [.sl ro 1 0 up.length])).set ro (.row 1 R)) rbx = some (.row 1 [.sl ro 1 0 up.length]) := by rw [Heap.set_ne _ _ hne, Heap.set_same]
    refine ⟨fun q => q = ro ∨ q = rbx, .tuple [.func (.func 157) [] [.lptr [.lsl 1 R]], .bool true], h00,
      .tuple (.cons (.func .nil (.cons (.ptr (.inr rfl) hbx rfl (.cons (.whole (.inl rfl) (Heap.set_same _ _ _) T.len.symm) .nil)) .nil)) (.cons (.refl _) .nil)),
      ⟨fun _ _ => trivial, fun q o hq => ⟨o, ?_, ?_, .refl o⟩⟩, ?_⟩
    · have h1 : q ≠ rbx := fun e => by rw [e, hx] at hq; cases hq
      have h2 : q ≠ ro := fun e => by rw [e, ho] at hq; cases hq
      rw [Heap.set_ne _ _ h2, Heap.set_ne _ _ h1]; exact hq
    · rintro (e | e)
      · rw [e, ho] at hq; cases hq
      · rw [e, hx] at hq; cases hq
    · refine good (fun r hrm b hb => ?_) _ ⟨.lsl 1 R, rfl, R, .lsl 1 R, T.len, fun a' ha' => T.done a' (by omega)⟩
      obtain ⟨j, hj, rfl⟩ := List.mem_iff_getElem.1 hrm
      exact hr j _ (by omega) (List.getElem?_eq_getElem hj) b hb
  | d + 1, a, hd, R, T, hr => by
    have han : a < up.length := by omega
    have ho1 : (h00.set rbx (.row 1 [.sl ro 1 0 up.length])) ro = none := by rw [Heap.set_ne _ _ hne.symm]; exact ho
    unfold s139l1
    refine ifT_pos (by simp; omega) (mkS_own (by omega) (by omega) fun ra hra => ?_)
    have hne2 : ra ≠ ro := fun e => by rw [e, Heap.set_same] at hra; cases hra
    have hne3 : ra ≠ rbx := fun e => by rw [e, Heap.set_ne _ _ hne, Heap.set_same] at hra; cases hra
    have ha0 : (h00.set rbx (.row 1 [.sl ro 1 0 up.length])) ra = none := by rwa [Heap.set_ne _ _ hne2] at hra
    obtain ⟨e0, he0, hagg0⟩ := T.rest a han
    rw [ld1_one (es := 1) (e := .sl ro 1 0 up.length) (by rw [Heap.set_ne _ _ hne3.symm, Heap.set_ne _ _ hne, Heap.set_same]) rfl]
    refine ixS_sl0 han (chk_iff.2 ⟨rfl, ?_⟩)
    refine st_elem (es := 1) (elems := R) (by rw [Heap.set_ne _ _ hne2.symm, Heap.set_same]) he0 hagg0 ?_
    refine ixS_sl0 han ?_
    have hRa : (R.set a (.sl ra 1 0 up.length))[a]? = some (.sl ra 1 0 up.length) := by rw [List.getElem?_set_self]; rw [T.len]; exact han
    refine st_elem (es := 1) (elems := List.replicate up.length (.bool false)) (e := .bool false) (by rw [Heap.set_ne _ _ hne2, Heap.set_same]) (by simp [han]) rfl ?_
    rw [show (List.replicate up.length (AVal.bool false)).set a (.bool true) = ((List.replicate up.length false).set a true).map .bool by rw [List.map_set, List.map_replicate]]
    refine newRow_in fun r hrn => ?_
    have M : OM (h00.set rbx (.row 1 [.sl ro 1 0 up.length])) ro ra a up.length (R.set a (.sl ra 1 0 up.length)) ((List.replicate up.length false).set a true)
        (((((h00.set rbx (.row 1 [.sl ro 1 0 up.length])).set ro (.row 1 R)).set ra (.row 1 (List.replicate up.length (.bool false)))).set ro (.row 1 (R.set a (.sl ra 1 0 up.length)))).set ra (.row 1 (((List.replicate up.length false).set a true).map .bool))) := by
      refine ⟨ho1, ha0, hne2, ?_, hRa, by simp [T.len]⟩
      funext q
      by_cases h1 : q = ra
      · simp [Heap.set, h1]
      · by_cases h2 : q = ro
        · subst h2; simp [Heap.set, h1]
        · simp [Heap.set, h1, h2]
    refine s139l2_in (up.length + 1) ?_
    refine reckon_l2 (ra := ra) (R := R.set a (.sl ra 1 0 up.length)) hn hrl bad (Heap.set_sub hx) hU han (fun st hb h M' g hra' => ?_) up.length _ [] [a] _ _ _ (by simp) (by simp) (by simpa using BF.start han) M
      (by have := Stk.own (es := 1) (l := natV [a]) (junk := []) hrn; simpa [natV] using this) (by simp)
    refine ⟨fun q => q = ra, _, (h00.set rbx (.row 1 [.sl ro 1 0 up.length])).set ro (.row 1 ((R.set a (.sl ra 1 0 up.length)).set a (.lsl 1 ((rowB up a).map .bool)))), Lits.refl _, GStep.row (g.old M'.get_o) hne2 ha0 (fun q o hq => g.old (M'.old hq)) hRa
      (.whole rfl (g.old M'.get_a) (by simp [rowB])), rfl, ?_⟩
    rw [List.set_set]
    have := reckon_l1 (mV := mV) hn hrl bad good hU ho hx hne d (a + 1) (by omega) (R.set a (.lsl 1 ((rowB up a).map .bool))) ⟨by simp [T.len], fun a' ha' => ?_, fun a' ha' => ?_⟩ (fun a' r ha' hr' => ?_)
    · exact this
    · by_cases e : a' = a
      · subst e
        exact ⟨_, List.getElem?_set_self (by rw [T.len]; exact han), rfl, .lsl 1 _⟩
      · rw [List.getElem?_set_ne (Ne.symm e)]
        exact T.done a' (by omega)
    · by_cases e : a' = a
      · subst e
        exact ⟨_, List.getElem?_set_self (by rw [T.len]; exact han), rfl⟩
      · rw [List.getElem?_set_ne (Ne.symm e)]
        exact T.rest a' ha'
    · by_cases e : a' = a
      · subst e
        rw [List.getElem?_eq_getElem han] at hr'
        cases hr'
        exact hra'
      · exact hr a' r (by omega) hr'

theorem reckon_ok {mU mV : AVal} {h : Heap} (hn : up.length ≤ 1048576) (hrl : ∀ r ∈ up, r.length ≤ 1073741824) (hU : Intss mU up) (bad : ¬ InR up → K (.tuple [.nilfunc, .bool false]) h) (good : InR up → ∀ f, LeqF f up → K (.tuple [f, .bool true]) h) :
    ACalls prog 139 [.agg [mU, mV]] h K := by
  refine s139_ok ?_
  unfold s139
  rw [hU.len]
  refine mkS_own (by omega) (by omega) fun ro hro => newRow_in fun rbx hrbx => chk_iff.2 ⟨rfl, ?_⟩
  have hne : rbx ≠ ro := fun e => by rw [e, Heap.set_same] at hrbx; cases hrbx
  have hx : h rbx = none := by rwa [Heap.set_ne _ _ hne] at hrbx
  refine st_elem (Heap.set_same _ _ _) rfl rfl ?_
  rw [show [AVal.nilsl].set 0 (.sl ro 1 0 up.length) = [.sl ro 1 0 up.length] from rfl, ld1_one (Heap.set_same _ _ _) rfl, lenN_sl]
  refine s139l1_in (up.length + 1) ?_
  have he : (((h.set ro (.row 1 (List.replicate up.length .nilsl))).set rbx (.row 1 [.nilsl])).set rbx (.row 1 [.sl ro 1 0 up.length])) =
      (h.set rbx (.row 1 [.sl ro 1 0 up.length])).set ro (.row 1 (List.replicate up.length .nilsl)) := by
    rw [Heap.set_set, Heap.set_comm _ _ _ hne]
  rw [he]
  exact reckon_l1 (by omega) hrl bad good hU hro hx hne up.length 0 (by omega) _ ⟨by simp, by intro a' ha'; omega, fun a' ha' => ⟨.nilsl, by simp [ha'], rfl⟩⟩ (by intro a' r ha'; omega)
end
end Go.Proofs.YtljglglbfcgjpaaGreat

namespace Go.Proofs.YtljglglbfcgjpaaGreat
open Go Go.Sym Go.Proofs.Tryz

variable {K : AVal → Heap → Prop} {h : Heap} {up : List (List Int)} {val : List (List ByteArray)} {mU mV : AVal}

/-- the names of a world lack one -/
theorem lacks_call {l : List ByteArray} {e : AVal} {r b : Nat} (hV : Strss mV val) (S : Small up val) (hb : b < val.length) {h : Heap} (hr : h r = some (.row 1 [.int .i64 (b : Int)])) (s : ByteArray) (K : AVal → Heap → Prop)
    (hk : K (.bool (!inS val[b] s)) h) : callV prog (.func (.func 142) [] [.lptr [mU, mV], .ptr r 0 0]) [.str s] h K := by
  show callG prog 142 ([] ++ [.str s] ++ [.lptr [mU, mV], .ptr r 0 0]) h K
  refine callG_of (s142_ok ?_)
  unfold s142
  obtain ⟨eb, heb, hix⟩ := hV.ix hb
  rw [addOff_lptr]
  simp only [List.drop_succ_cons, List.drop_zero, ld1_lptr]
  rw [ld1_one hr rfl, tInt_int, hix, ld1_lptr]
  refine callG_of (containsS_ok heb ((S.names _ (List.getElem_mem hb)).1).1 ?_)
  rw [tBool_bool]
  exact retG_of hk

theorem looked_l3 (S : Small up val) (hV : Strss mV val) {f : AVal} (hF : LeqF f up) (hl : val.length = up.length) (hn : up.length ≤ 512) {a : Nat} (ha : a < up.length) {ea : AVal} (hea : Strs ea (val[a]'(by omega)))
    (bad : ¬ WF up val → K (.tuple [.nilfunc, .bool false]) h) {L2 : AVal → Int → AVal → AVal → Int → Int → Heap → Prop} {t34 : AVal} {t35 : Int} (hL : (∀ b, b < up.length → Cond up val a b) → L2 (.lptr [mU, mV]) up.length f t34 t35 (a + 1) h) :
    ∀ d b : Nat, b + d = up.length → (∀ b', b' < b → Cond up val a b') → s116l3 K L2 (d + 1) (.lptr [mU, mV]) up.length f a ea t34 t35 a up.length (b : Int) h := by
  intro d
  induction d with
  | zero =>
    intro b hd hk
    unfold s116l3
    exact ifT_neg (by simp; omega) (rg_of (by omega) (by omega) (hL fun b' hb' => hk b' (by omega)))
  | succ d ih =>
    intro b hd hk
    have hb : b < up.length := by omega
    unfold s116l3
    refine ifT_pos (by simp; omega) (newRow_in fun r hr => ?_)
    refine st_elem (Heap.set_same _ _ _) rfl rfl ?_
    rw [show [AVal.int .i64 0].set 0 (.int .i64 (b : Int)) = [.int .i64 (b : Int)] from rfl, Heap.set_set, ld1_one (Heap.set_same _ _ _) rfl, tInt_int]
    have next : Cond up val a b → s116c4 K L2 (s116l3_G (s116l3 K L2 (d + 1))) (.lptr [mU, mV]) up.length f a ea t34 t35 a up.length b (h.set r (.row 1 [.int .i64 (b : Int)])) := by
      intro hc
      refine rg_of (by omega) (by omega) ⟨_, _, h, Lits.refl _, GStep.drop (Heap.set_sub hr), rfl, ?_⟩
      have := ih (b + 1) (by omega) fun b' hb' => by
        by_cases e : b' = b
        · rw [e]; exact hc
        · exact hk b' (by omega)
      exact this
    have stop : ¬ WF up val → retG (.tuple [.nilfunc, .bool false]) (h.set r (.row 1 [.int .i64 (b : Int)])) K := fun hW => retG_drop (Heap.set_sub hr) (bad hW)
    by_cases hab : a = b
    · refine ifT_pos (by simp [hab]) (ifT_pos rfl (next fun _ hne => absurd hab hne))
    · refine ifT_neg (by simp; omega) ?_
      rw [ld1_one (Heap.set_same _ _ _) rfl, tInt_int]
      refine leq_call hF ha hb ?_
      rw [tBool_bool]
      cases hr1 : rb up a b with
      | false => exact ifT_pos rfl (next fun hR => by rw [rb_iff.2 hR] at hr1; cases hr1)
      | true =>
        refine ifT_neg rfl ?_
        rw [ld1_one (Heap.set_same _ _ _) rfl, tInt_int]
        refine leq_call hF hb ha ?_
        rw [tBool_bool]
        cases hr2 : rb up b a with
        | true => exact ifT_pos rfl (ifT_pos rfl (stop fun W => (W.cond a b ha hb (rb_iff.1 hr1) hab).1 (rb_iff.1 hr2)))
        | false =>
          have hva : a < val.length := by omega
          have hvb : b < val.length := by omega
          refine ifT_neg rfl (callG_of (containsFS_ok (p := fun s => !inS val[b] s) hea ((S.names _ (List.getElem_mem hva)).1).1 (fun s _ K' hk' => lacks_call (l := val[a]) (e := ea) hV S hvb (Heap.set_same _ _ _) s K' hk') ?_))
          rw [tBool_bool]
          cases hany : val[a].any fun s => !inS val[b] s with
          | true =>
            refine ifT_pos rfl (stop fun W => ?_)
            obtain ⟨s, hs, hn'⟩ := List.any_eq_true.1 hany
            have := (W.cond a b ha hb (rb_iff.1 hr1) hab).2
            rw [getD_val hva, getD_val hvb] at this
            rw [inS_iff.2 (this s hs)] at hn'
            cases hn'
          | false =>
            refine ifT_neg rfl (next fun _ _ => ⟨(fun e => by rw [rb_iff.2 e] at hr2; cases hr2), ?_⟩)
            rw [getD_val hva, getD_val hvb]
            intro s hs
            have := List.any_eq_false.1 hany s hs
            exact inS_iff.1 (by simpa using this)

theorem looked_l2 (S : Small up val) (hU : Intss mU up) (hV : Strss mV val) {f : AVal} (hF : LeqF f up) (hl : val.length = up.length) (hn : up.length ≤ 512)
    (bad : ¬ WF up val → K (.tuple [.nilfunc, .bool false]) h) (good : (∀ l ∈ val, fineB l = true) → (∀ a b, a < up.length → b < up.length → Cond up val a b) → K (.tuple [f, .bool true]) h) :
    ∀ d a : Nat, a + d = up.length → (∀ l ∈ val.take a, fineB l = true) → (∀ a' b, a' < a → b < up.length → Cond up val a' b) → s116l2 K (d + 1) (.lptr [mU, mV]) up.length f mV up.length (a : Int) h := by
  intro d
  induction d with
  | zero =>
    intro a hd hk hc
    unfold s116l2
    rw [List.take_of_length_le (by omega)] at hk
    exact ifT_neg (by simp; omega) (retG_of (good hk fun a' b ha' hb' => hc a' b (by omega) hb'))
  | succ d ih =>
    intro a hd hk hc
    have ha : a < val.length := by omega
    obtain ⟨ea, hea, hixa⟩ := hV.ix ha
    unfold s116l2
    refine ifT_pos (by simp; omega) ?_
    rw [hixa, ld1_lptr]
    refine callG_of (rising_ok hea (S.names _ (List.getElem_mem ha)).1 ?_)
    rw [tBool_bool]
    cases hf : fineB val[a] with
    | false =>
      refine ifT_pos rfl (retG_of (bad fun W => ?_))
      have := W.fine _ (List.getElem_mem ha)
      rw [hf] at this; cases this
    | true =>
      refine ifT_neg rfl (s116l3_in (up.length + 1) ?_)
      refine looked_l3 S hV hF hl hn (by omega) hea bad (fun hca => s116l2_go (ih (a + 1) (by omega) ?_ fun a' b ha' hb' => ?_)) up.length 0 (by omega) (by intro b' hb'; omega)
      · rw [List.take_succ_eq_append_getElem ha]
        intro l hl'
        rcases List.mem_append.1 hl' with hl' | hl'
        · exact hk l hl'
        · rw [List.mem_singleton.1 hl']; exact hf
      · by_cases e : a' = a
        · rw [e]; exact hca b hb'
        · exact hc a' b (by omega) hb'

theorem looked_ok (S : Small up val) (hU : Intss mU up) (hV : Strss mV val) (bad : ¬ WF up val → K (.tuple [.nilfunc, .bool false]) h) (good : WF up val → ∀ f, LeqF f up → K (.tuple [f, .bool true]) h) :
    ACalls prog 116 [.agg [mU, mV]] h K := by
  refine s116_ok ?_
  have hup := S.ups
  unfold s116
  rw [hU.len]
  by_cases h1 : up.length < 1
  · exact ifT_pos (by simp; omega) (ifT_pos rfl (retG_of (bad fun W => by have := W.pos; omega)))
  · refine ifT_neg (by simp; omega) ?_
    by_cases h2 : 512 < up.length
    · exact ifT_pos (by simp; omega) (ifT_pos rfl (retG_of (bad fun W => by have := W.max; omega)))
    · refine ifT_neg (by simp; omega) ?_
      rw [hV.len]
      by_cases h3 : val.length = up.length
      · refine ifT_neg (by simp [h3]) ?_
        rw [ldN_agg2, tCons_cons, tCons_cons, tNil_nil]
        refine callG_of (reckon_ok hup (fun r hr => by have := S.row r hr; omega) hU (fun hI => ?_) fun hI f hF => ?_)
        · simp only [tTup_tuple, tCons_cons, tBool_bool, tNil_nil]
          exact ifT_pos rfl (retG_of (bad fun W => hI W.inR))
        · simp only [tTup_tuple, tCons_cons, tBool_bool, tNil_nil]
          refine ifT_neg rfl ?_
          rw [addOff_lptr]
          simp only [List.drop_succ_cons, List.drop_zero, ld1_lptr]
          rw [hV.len, h3]
          exact s116l2_in (up.length + 1) (looked_l2 S hU hV hF h3 (by omega) bad (fun hf hc => good ⟨by omega, by omega, h3, hI, hf, hc⟩ f hF) up.length 0 (by omega) (by simp) (by intro a' b ha'; omega))
      · exact ifT_pos (by simp; omega) (retG_of (bad fun W => h3 W.len))

/-- of a model and some worlds: 0, or why not -/
theorem asked_loop {f ws : AVal} {l : List Int} (hU : Intss mU up) (hn : up.length ≤ 512) (hw : Ints ws l) (hm : l.length ≤ 1048576) (bad : ¬ (∀ w ∈ l, 0 ≤ w ∧ w < up.length) → K (.tuple [.nilfunc, .int .i64 2]) h)
    (good : (∀ w ∈ l, 0 ≤ w ∧ w < up.length) → K (.tuple [f, .int .i64 0]) h) : ∀ d i : Nat, i + d = l.length → (∀ w ∈ l.take i, 0 ≤ w ∧ w < up.length) → s79l1 K (d + 1) (.lptr [mU, mV]) f ws l.length (i : Int) h
  | 0, i, hd, hk => by
    unfold s79l1
    rw [List.take_of_length_le (by omega)] at hk
    exact ifT_neg (by simp; omega) (retG_of (good hk))
  | d + 1, i, hd, hk => by
    have hi : i < l.length := by omega
    unfold s79l1
    refine ifT_pos (by simp; omega) ?_
    rw [hw.ix hi, ld1_lptr, tInt_int]
    by_cases h0 : l[i] < 0
    · exact ifT_pos (by simpa using h0) (ifT_pos rfl (retG_of (bad fun hall => by have := hall _ (List.getElem_mem hi); omega)))
    · refine ifT_neg (by simpa using h0) ?_
      rw [addOff_lptr]
      simp only [List.drop_zero, ld1_lptr]
      rw [hU.len]
      by_cases h1 : (up.length : Int) ≤ l[i]
      · exact ifT_pos (by simpa using h1) (retG_of (bad fun hall => by have := hall _ (List.getElem_mem hi); omega))
      · refine ifT_neg (by simpa using h1) (rg_of (by omega) (by omega) (s79l1_go (asked_loop hU hn hw hm bad good d (i + 1) (by omega) ?_)))
        rw [List.take_succ_eq_append_getElem hi]
        intro w hw'
        rcases List.mem_append.1 hw' with hw' | hw'
        · exact hk w hw'
        · rw [List.mem_singleton.1 hw']; omega

theorem asked_ok {ws : AVal} {l : List Int} (S : Small up val) (hU : Intss mU up) (hV : Strss mV val) (hw : Ints ws l) (hm : l.length ≤ 1048576) (bad : ¬ WF up val → K (.tuple [.nilfunc, .int .i64 170]) h)
    (out : WF up val → ¬ (∀ w ∈ l, 0 ≤ w ∧ w < up.length) → K (.tuple [.nilfunc, .int .i64 2]) h) (good : WF up val → (∀ w ∈ l, 0 ≤ w ∧ w < up.length) → ∀ f, LeqF f up → K (.tuple [f, .int .i64 0]) h) :
    ACalls prog 79 [.agg [mU, mV], ws] h K := by
  refine s79_ok (callG_of (looked_ok S hU hV (fun hW => ?_) fun hW f hF => ?_))
  · simp only [tTup_tuple, tCons_cons, tBool_bool, tNil_nil]
    exact ifT_pos rfl (retG_of (bad hW))
  · simp only [tTup_tuple, tCons_cons, tBool_bool, tNil_nil]
    refine ifT_neg rfl ?_
    rw [hw.len]
    exact s79l1_in (l.length + 1) (asked_loop hU hW.max hw hm (out hW) (fun hall => good hW hall f hF) l.length 0 (by omega) (by simp))

theorem check_ok (S : Small up val) (hU : Intss mU up) (hV : Strss mV val) (bad : ¬ WF up val → K (.int .i64 170) h) (good : WF up val → K (.int .i64 0) h) : ACalls prog 59 [.agg [mU, mV]] h K := by
  refine s59_ok (callG_of (asked_ok (l := []) S hU hV (.inr ⟨rfl, rfl⟩) (by simp) (fun hW => ?_) (fun _ hW => absurd (by simp) hW) fun hW _ f hF => ?_))
  · simp only [tTup_tuple, tCons_cons, tInt_int, tNil_nil]
    exact retG_of (bad hW)
  · simp only [tTup_tuple, tCons_cons, tInt_int, tNil_nil]
    exact retG_of (good hW)
end Go.Proofs.YtljglglbfcgjpaaGreat

namespace Go.Proofs.YtljglglbfcgjpaaGreat
open Go Go.Sym Go.Proofs.Tryz

variable {K : AVal → Heap → Prop} {h : Heap} {up : List (List Int)} {val : List (List ByteArray)} {mU mV : AVal}

theorem natV_eq (l : List Nat) : natV l = (natI l).map (.int .i64) := by simp [natV, natI, List.map_map, Function.comp_def]

theorem all_loop {f : AVal} {p : Nat → Bool} {n : Nat} (hn : n ≤ 1048576) (hf : ∀ b, b < n → ∀ (h' : Heap) (K' : AVal → Heap → Prop), (∀ q o, h q = some o → h' q = some o) → K' (.bool (p b)) h' → callV prog f [.int .i64 (b : Int)] h' K')
    (hk : ∀ v, Ints v (natI ((List.range n).filter p)) → K v h) : ∀ d i : Nat, i + d = n → ∀ l_ h', Grow 1 h l_ (natV ((List.range i).filter p)) h' → s80l1 K (d + 1) f l_ n (i : Int) h'
  | 0, i, hd, l_, h', g => by
    unfold s80l1
    refine ifT_neg (by simp; omega) ?_
    obtain ⟨S, v', h1, h2, h3⟩ := g.freeze
    obtain rfl : i = n := by omega
    exact ⟨S, v', h, h1, h3, hk v' (by unfold Ints; rw [← natV_eq]; exact h2)⟩
  | d + 1, i, hd, l_, h', g => by
    unfold s80l1
    refine ifT_pos (by simp; omega) ?_
    refine hf i (by omega) h' _ (fun q o hq => g.old hq) ?_
    rw [tBool_bool]
    have hle : (natV ((List.range i).filter p)).length ≤ i := by
      rw [natV_len]
      have := List.length_filter_le p (List.range i)
      simpa using this
    have hs := range_filter_succ p i
    cases hp : p i with
    | true =>
      rw [hp] at hs
      refine ifT_pos rfl (appC_one g (by omega) (by omega) fun v' h2 g2 => rg_of (by omega) (by omega) (s80l1_go (all_loop hn hf hk d (i + 1) (by omega) v' h2 ?_)))
      rw [hs, if_pos rfl, natV_app]
      exact g2
    | false =>
      rw [hp] at hs
      refine ifT_neg rfl (rg_of (by omega) (by omega) (s80l1_go (all_loop hn hf hk d (i + 1) (by omega) l_ h' ?_)))
      rw [hs]
      simpa using g
theorem all_ok {f : AVal} {p : Nat → Bool} (hU : Intss mU up) (hn : up.length ≤ 1048576) (hf : ∀ b, b < up.length → ∀ (h' : Heap) (K' : AVal → Heap → Prop), (∀ q o, h q = some o → h' q = some o) → K' (.bool (p b)) h' → callV prog f [.int .i64 (b : Int)] h' K')
    (hk : ∀ v, Ints v (natI ((List.range up.length).filter p)) → K v h) : ACalls prog 80 [.agg [mU, mV], f] h K := by
  refine s80_ok ?_
  unfold s80
  rw [hU.len]
  exact s80l1_in (up.length + 1) (all_loop hn hf hk up.length 0 (by omega) .nilsl h .nil)

end Go.Proofs.YtljglglbfcgjpaaGreat

namespace Go.Proofs.YtljglglbfcgjpaaGreat
open Go Go.Sym Go.Proofs.Tryz

variable {K : AVal → Heap → Prop} {h : Heap} {up : List (List Int)} {val : List (List ByteArray)} {mU mV : AVal}

noncomputable def okc (up : List (List Int)) (a b c : Nat) : Bool := (c == a) || ((c == b) || (!rb up a c || !rb up c b))
noncomputable def startB (up : List (List Int)) (a b : Nat) : Bool := (a != b) && rb up a b
/-- is b next above a? -/
noncomputable def coverB (up : List (List Int)) (a b : Nat) : Bool := startB up a b && (List.range up.length).all (okc up a b)
noncomputable def tidyRow (up : List (List Int)) (a : Nat) : List Nat := (List.range up.length).filter (coverB up a)
noncomputable def tidyUp (up : List (List Int)) : List (List Int) := (List.range up.length).map fun a => natI (tidyRow up a)

theorem tidyUp_get {a : Nat} (ha : a < up.length) : (tidyUp up)[a]? = some (natI (tidyRow up a)) := by simp [tidyUp, ha]

end Go.Proofs.YtljglglbfcgjpaaGreat

namespace Go.Proofs.YtljglglbfcgjpaaGreat
open Go Go.Sym Go.Proofs.Tryz

variable {K : AVal → Heap → Prop} {h : Heap} {up : List (List Int)} {val : List (List ByteArray)} {mU mV : AVal}

theorem cloneS_ok {v : AVal} {l : List ByteArray} (hv : Strs v l) (hm : l.length ≤ 1073741824) (hk : ∀ v', Strs v' l → K v' h) : ACalls prog 85 [v] h K := by
  refine s85_ok ?_
  unfold s85
  refine nilS_of hv (fun he hv' => ?_) fun hv' => ?_
  · exact ifT_pos rfl (retG_of (hk _ (by rw [hv'] at hv; exact hv)))
  · refine ifT_neg rfl (newRow_in fun r hr => appC_copy hr (elemsA_of hv) (by simp; omega) (by simp; omega) fun v' h' g => ?_)
    obtain ⟨S, v2, h1, h2, h3⟩ := g.freeze
    exact ⟨S, v2, h, h1, h3, hk v2 h2⟩
/-- the worlds above, but a itself; what is next among them -/
noncomputable def overL (up : List (List Int)) (a : Nat) : List Nat := (List.range up.length).filter (startB up a)
noncomputable def nextB (up : List (List Int)) (a b : Nat) : Bool := !((natI (overL up a)).any fun c => (c != (b : Int)) && rb up c.toNat b)
theorem cover_next {a b : Nat} : coverB up a b = (startB up a b && nextB up a b) := by
  unfold coverB nextB
  cases startB up a b with
  | false => rfl
  | true =>
    rw [Bool.true_and, Bool.true_and, Bool.eq_iff_iff, List.all_eq_true]
    constructor
    · intro hall
      rw [Bool.not_eq_true', List.any_eq_false]
      intro x hx
      obtain ⟨c, hc, rfl⟩ := mem_natI.1 hx
      obtain ⟨h1, h2⟩ := List.mem_filter.1 hc
      have h3 := hall c h1
      unfold okc at h3
      unfold startB at h2
      simp only [Int.toNat_natCast, Bool.and_eq_true, bne_iff_ne, ne_eq] at h2 ⊢
      rintro ⟨h4, h5⟩
      rw [show (c == a) = false by simp; omega, show (c == b) = false by simp; omega, h2.2, h5] at h3
      cases h3
    · intro hno c hc
      rw [Bool.not_eq_true', List.any_eq_false] at hno
      unfold okc
      cases e1 : (c == a) with
      | true => rfl
      | false =>
        cases e2 : (c == b) with
        | true => rfl
        | false =>
          cases e3 : rb up a c with
          | false => rfl
          | true =>
            cases e4 : rb up c b with
            | false => rfl
            | true =>
              exfalso
              refine hno (c : Int) (mem_natI.2 ⟨c, List.mem_filter.2 ⟨hc, ?_⟩, rfl⟩) ?_
              · unfold startB; simp at e1; simp [e3]; omega
              · simp at e2; simp [e4]; omega
theorem tidyRow_next (a : Nat) : tidyRow up a = (overL up a).filter (nextB up a) := by
  unfold tidyRow overL
  rw [List.filter_filter]
  congr 1
  funext b
  rw [cover_next, Bool.and_comm]

/-- the function values of the tidying -/
theorem over_call {f : AVal} (hF : LeqF f up) {c0 : AVal} {a b : Nat} (ha : a < up.length) (hb : b < up.length) {h : Heap} (h0 : ∀ K : AVal → Prop, ld1 h c0 K = K (.int .i64 (a : Int)))
    {K : AVal → Heap → Prop} (hk : K (.bool (startB up a b)) h) : callV prog (.func (.func 81) [] [c0, .lptr [f]]) [.int .i64 (b : Int)] h K := by
  show callG prog 81 ([] ++ [.int .i64 (b : Int)] ++ [c0, .lptr [f]]) h K
  refine callG_of (s81_ok ?_)
  unfold s81
  unfold startB at hk
  rw [h0, tInt_int]
  by_cases hab : a = b
  · exact ifT_neg (by simp [hab]) (retG_of (by simpa [hab] using hk))
  · refine ifT_pos (by simp; omega) ?_
    rw [ld1_lptr, h0, tInt_int]
    refine leq_call hF ha hb ?_
    rw [tBool_bool]
    exact retG_of (by rwa [show (a != b) = true by simpa using hab, Bool.true_and] at hk)
theorem above_call {f : AVal} (hF : LeqF f up) {b c : Nat} (hb : b < up.length) (hc : c < up.length) {h : Heap} {K : AVal → Heap → Prop} (hk : K (.bool (((c : Int) != (b : Int)) && rb up c b)) h) :
    callV prog (.func (.func 84) [] [.lptr [.int .i64 (b : Int)], .lptr [f]]) [.int .i64 (c : Int)] h K := by
  show callG prog 84 ([] ++ [.int .i64 (c : Int)] ++ [.lptr [.int .i64 (b : Int)], .lptr [f]]) h K
  refine callG_of (s84_ok ?_)
  unfold s84
  rw [ld1_lptr, tInt_int]
  by_cases hab : (c : Int) = (b : Int)
  · exact ifT_neg (by simp [hab]) (retG_of (by simpa [hab] using hk))
  · refine ifT_pos (by simpa using hab) ?_
    rw [ld1_lptr, ld1_lptr, tInt_int]
    refine leq_call hF hc hb ?_
    rw [tBool_bool]
    exact retG_of (by rwa [show ((c : Int) != (b : Int)) = true by simpa using hab, Bool.true_and] at hk)
theorem next_call {f ov : AVal} (hF : LeqF f up) (hn : up.length ≤ 512) {a b : Nat} (hov : Ints ov (natI (overL up a))) (hb : b < up.length) {h : Heap} {K : AVal → Heap → Prop} (hk : K (.bool (nextB up a b)) h) :
    callV prog (.func (.func 82) [] [.lptr [ov], .lptr [f]]) [.int .i64 (b : Int)] h K := by
  show callG prog 82 ([] ++ [.int .i64 (b : Int)] ++ [.lptr [ov], .lptr [f]]) h K
  refine callG_of (s82_ok ?_)
  unfold s82
  rw [ld1_lptr]
  have hle : (natI (overL up a)).length ≤ 512 := by
    have := List.length_filter_le (startB up a) (List.range up.length)
    simp [natI, overL] at this ⊢
    omega
  refine callG_of (containsFI_ok (p := fun c => (c != (b : Int)) && rb up c.toNat b) hov (by omega) (fun x hx K' hk' => ?_) ?_)
  · obtain ⟨c, hc, rfl⟩ := mem_natI.1 hx
    have hcn : c < up.length := List.mem_range.1 (List.mem_filter.1 hc).1
    exact above_call hF hb hcn (by simpa using hk')
  · rw [tBool_bool]
    exact retG_of hk

theorem tidy_l2 (hn : up.length ≤ 512) {f ov : AVal} (hF : LeqF f up) {a : Nat} (ha : a < up.length) (hl : val.length = up.length) (S : Small up val) (hV : Strss mV val) (hov : Ints ov (natI (overL up a)))
    {L1 : AVal → AVal → AVal → AVal → Int → Int → Heap → Prop} {t2 : AVal} {hb : Heap} {ro : Nat} {vU vV : AVal} {LU LV : List AVal} (hLU : LU.length ≤ 512) (hLV : LV.length ≤ 512) {t24 : Int}
    (hL : ∀ vU' vV' row cp h' hb', Grow 1 hb row (natV (tidyRow up a)) hb' → Strs cp (val[a]'(by omega)) → MB hb' ro vU' vV' (LU ++ [row]) (LV ++ [cp]) h' → L1 (.lptr [mU, mV]) t2 (.lptr [f]) (.ptr ro 0 0) t24 (a + 1) h') :
    ∀ d i : Nat, i + d = (overL up a).length → ∀ row h hM, MB hb ro vU vV LU LV hM → Grow 1 hM row (natV (((overL up a).take i).filter (nextB up a))) h →
      s38l2 K L1 (d + 1) (.lptr [mU, mV]) t2 (.lptr [f]) (.ptr ro 0 0) (.lptr [.int .i64 (a : Int)]) (.func (.func 82) [] [.lptr [ov], .lptr [f]]) row t24 a ov (overL up a).length (i : Int) h
  | 0, i, hd, row, h, hM, M, g => by
    have ha' : a < val.length := by omega
    rw [List.take_of_length_le (by omega), ← tidyRow_next] at g
    obtain ⟨hb', g1, M1⟩ := M.swap g
    unfold s38l2
    refine ifT_neg (by simp; omega) ?_
    rw [addOff_ptr, M1.ldU]
    refine chk_iff.2 ⟨g.sc.1, M1.appU (by omega) (by omega) fun v1 h1 M2 => ?_⟩
    rw [addOff_ptr]
    refine chk_iff.2 ⟨M2.sc.1.1, M2.stU fun h2 M3 => ?_⟩
    rw [addOff_ptr, M3.ldV, addOff_lptr]
    simp only [List.drop_succ_cons, List.drop_zero, ld1_lptr, tInt_int]
    obtain ⟨ev, hev, hix⟩ := hV.ix ha'
    rw [hix, ld1_lptr]
    have hSn := S.names _ (List.getElem_mem ha')
    refine callG_of (cloneS_ok hev (by omega) fun cp hcp => ?_)
    refine ⟨by rw [M3.ldV], chk_iff.2 ⟨hcp.notAgg.2, ⟨by rw [M3.ldV], ?_⟩⟩⟩
    refine M3.appV (by omega) (by omega) fun v2 h4 M5 => ?_
    rw [addOff_ptr]
    refine chk_iff.2 ⟨M5.sc.2.1, M5.stV fun h5 M6 => rg_of (by omega) (by omega) ?_⟩
    exact hL v1 v2 row cp h5 hb' g1 hcp M6
  | d + 1, i, hd, row, h, hM, M, g => by
    have hi : i < (overL up a).length := by omega
    have hlen : (overL up a).length ≤ 512 := by
      have := List.length_filter_le (startB up a) (List.range up.length)
      simp [overL] at this ⊢
      omega
    have hbn : (overL up a)[i] < up.length := List.mem_range.1 (List.mem_filter.1 (List.getElem_mem hi)).1
    unfold s38l2
    refine ifT_pos (by simp; omega) ?_
    have hix : (natI (overL up a))[i]'(by simpa [natI] using hi) = ((overL up a)[i] : Int) := by simp [natI]
    rw [hov.ix (i := i) (by simpa [natI] using hi), ld1_lptr, hix, tInt_int]
    refine next_call hF hn hov hbn ?_
    rw [tBool_bool]
    have hs : ((overL up a).take (i + 1)).filter (nextB up a) = ((overL up a).take i).filter (nextB up a) ++ if nextB up a (overL up a)[i] then [(overL up a)[i]] else [] := by
      rw [List.take_succ_eq_append_getElem hi, List.filter_append, List.filter_cons]; rfl
    have hle : (natV (((overL up a).take i).filter (nextB up a))).length ≤ i := by
      rw [natV_len]
      have := List.length_filter_le (nextB up a) ((overL up a).take i)
      simp at this
      omega
    cases hnx : nextB up a (overL up a)[i] with
    | true =>
      rw [hnx, if_pos rfl] at hs
      refine ifT_pos rfl (appC_one g (by omega) (by omega) fun v' h' g' => rg_of (by omega) (by omega) (s38l2_go (tidy_l2 hn hF ha hl S hV hov hLU hLV hL d (i + 1) (by omega) v' h' hM M ?_)))
      rw [hs, natV_app]
      exact g'
    | false =>
      rw [hnx] at hs
      refine ifT_neg rfl (rg_of (by omega) (by omega) (s38l2_go (tidy_l2 hn hF ha hl S hV hov hLU hLV hL d (i + 1) (by omega) row h hM M ?_)))
      rw [hs]
      simpa using g

theorem tidy_l1 (hn : up.length ≤ 512) {f : AVal} (hF : LeqF f up) (hU : Intss mU up) (hl : val.length = up.length) (S : Small up val) (hV : Strss mV val) {hb : Heap} {ro rt : Nat} {X : AVal} (hrt : hb rt = some (.row 2 [.agg [.nilsl, X]])) {h0 : Heap} (hsub : ∀ q o, h0 q = some o → q ≠ rt ∧ hb q = some o)
    (good : ∀ vU vV, Intss vU (tidyUp up) → Strss vV val → K (.tuple [.agg [vU, vV], .int .i64 0]) h0) :
    ∀ d a : Nat, a + d = up.length → ∀ vU vV LU LV h, MB hb ro vU vV LU LV h → All2 Ints LU ((tidyUp up).take a) → All2 Strs LV (val.take a) → s38l1 K (d + 1) (.lptr [mU, mV]) (.ptr rt 0 0) (.lptr [f]) (.ptr ro 0 0) up.length (a : Int) h
  | 0, a, hd, vU, vV, LU, LV, h, M, aU, aV => by
    obtain rfl : a = up.length := by omega
    unfold s38l1
    refine ifT_neg (by simp) ?_
    rw [M.ld, tCons_cons, tCons_cons, tNil_nil]
    have M1 := M.upd (x := .row 2 [.agg [vU, vV]]) hrt
    refine st_all (M.old hrt) rfl ?_
    rw [ldN2 (Heap.set_same _ _ _), tCons_cons, tCons_cons, tNil_nil]
    obtain ⟨Sn, vU', vV', l1, l2, s1, s2, hS, hold⟩ := M1.freeze
    have hlen : (tidyUp up).length = up.length := by simp [tidyUp]
    rw [List.take_of_length_le (by omega)] at aU
    rw [List.take_of_length_le (by omega)] at aV
    refine ⟨Sn, _, h0, .tuple (.cons (.agg (.cons l1 (.cons l2 .nil))) (.cons (.refl _) .nil)), ⟨fun _ _ => trivial, fun q o hq => ⟨o, ?_, ?_, .refl o⟩⟩, good vU' vV' ⟨LU, s1, aU⟩ ⟨LV, s2, aV⟩⟩
    · obtain ⟨h1, h2⟩ := hsub q o hq
      exact hold q o (by rw [Heap.set_ne _ _ h1]; exact h2)
    · intro hs
      have h3 := hS q hs
      obtain ⟨h1, h2⟩ := hsub q o hq
      rw [Heap.set_ne _ _ h1, h2] at h3
      cases h3
  | d + 1, a, hd, vU, vV, LU, LV, h, M, aU, aV => by
    have ha : a < up.length := by omega
    have hlen : (tidyUp up).length = up.length := by simp [tidyUp]
    have hLU : LU.length ≤ 512 := by have := aU.length; simp at this; omega
    have hLV : LV.length ≤ 512 := by have := aV.length; simp at this; omega
    unfold s38l1
    refine ifT_pos (by simp; omega) (newRow_in fun r3 hr3 => st_elem (Heap.set_same _ _ _) rfl rfl ?_)
    rw [show [AVal.int .i64 0].set 0 (.int .i64 (a : Int)) = [.int .i64 (a : Int)] from rfl, Heap.set_set, ldN_agg2, tCons_cons, tCons_cons, tNil_nil]
    refine callG_of (all_ok (p := startB up a) hU (by omega) (fun b hb h' K' hs hk' => over_call hF ha hb (fun K => ld1_one (hs _ _ (Heap.set_same _ _ _)) rfl K) hk') fun ov hov => ?_)
    refine newRow_in fun r4 hr4 => chk_iff.2 ⟨hov.notAgg.2, st_elem (Heap.set_same _ _ _) rfl rfl ?_⟩
    have hova : ov.isAgg = false := by rcases hov with rfl | ⟨rfl, _⟩ <;> rfl
    rw [show [AVal.nilsl].set 0 ov = [ov] from rfl, Heap.set_set, ld1_one (Heap.set_same _ _ _) hova, hov.len]
    have hne : r4 ≠ r3 := fun e => by rw [e, Heap.set_same] at hr4; cases hr4
    have hr4' : h r4 = none := by rwa [Heap.set_ne _ _ hne] at hr4
    have hlo : (natI (overL up a)).length = (overL up a).length := by simp [natI]
    have hlo2 : (natI ((List.range up.length).filter (startB up a))).length = (overL up a).length := hlo
    rw [hlo2]
    refine ⟨fun q => q = r3 ∨ q = r4, [.lptr [mU, mV], .ptr rt 0 0, .lptr [f], .ptr ro 0 0, .lptr [.int .i64 (a : Int)], .func (.func 82) [] [.lptr [ov], .lptr [f]], .nilsl, .int .i64 up.length, .int .i64 (a : Int), ov, .int .i64 (overL up a).length, .int .i64 0], h, ?_, ?_, rfl, (overL up a).length + 1, ?_⟩
    · have h3 : ((h.set r3 (.row 1 [.int .i64 (a : Int)])).set r4 (.row 1 [ov])) r3 = some (.row 1 [.int .i64 (a : Int)]) := by rw [Heap.set_ne _ _ hne.symm, Heap.set_same]
      refine .cons (.refl _) (.cons (.refl _) (.cons (.refl _) (.cons (.refl _) (.cons (.ptr (.inl rfl) h3 rfl (Lits.refl _)) (.cons (.func .nil (.cons (.ptr (.inr rfl) (Heap.set_same _ _ _) rfl ?_) (Lits.refl _))) (Lits.refl _))))))
      rw [List.drop_zero, cells_of_notAgg hova]
      exact Lits.refl _
    · refine ⟨fun _ _ => trivial, fun q o hq => ⟨o, ?_, ?_, .refl o⟩⟩
      · exact Heap.set_sub hr4 q o (Heap.set_sub hr3 q o hq)
      · rintro (e | e)
        · rw [e, hr3] at hq; cases hq
        · rw [e, hr4'] at hq; cases hq
    · have := tidy_l2 hn hF ha hl S hV hov (L1 := s38l1_G (s38l1 K (d + 1))) (t2 := .ptr rt 0 0) (t24 := up.length) (hb := hb) (ro := ro) (mU := mU) (K := K) hLU hLV (fun vU' vV' row cp h' hb' g1 hcp M' => ?_) (overL up a).length 0 (by omega) .nilsl h h M .nil
      · exact this
      · obtain ⟨Sg, h2, row', s1, M2, hg⟩ := M'.settle1 g1
        refine ⟨Sg, _, h2, Lits.refl _, hg, rfl, ?_⟩
        have := tidy_l1 hn hF hU hl S hV hrt hsub good d (a + 1) (by omega) vU' vV' _ _ h2 M2 ?_ ?_
        · exact this
        · rw [List.take_succ_eq_append_getElem (by omega)]
          refine aU.append (.cons ?_ .nil)
          have hga : (tidyUp up)[a]'(by omega) = natI (tidyRow up a) := by simp [tidyUp]
          rw [hga]
          unfold Ints
          rwa [← natV_eq]
        · rw [List.take_succ_eq_append_getElem (by omega)]
          exact aV.append (.cons hcp .nil)

theorem tidy_ok (S : Small up val) (hU : Intss mU up) (hV : Strss mV val) (bad : ¬ WF up val → K (.tuple [.agg [.nilsl, .nilsl], .int .i64 170]) h) (good : WF up val → ∀ vU vV, Intss vU (tidyUp up) → Strss vV val → K (.tuple [.agg [vU, vV], .int .i64 0]) h) :
    ACalls prog 38 [.agg [mU, mV]] h K := by
  refine s38_ok ?_
  unfold s38
  refine newRow_in fun rt hrt => callG_of (asked_ok (l := []) S hU hV (.inr ⟨rfl, rfl⟩) (by simp) (fun hW => ?_) (fun _ hW => absurd (by simp) hW) fun hW _ f hF => ?_)
  · simp only [tTup_tuple, tCons_cons, tInt_int, tNil_nil]
    refine newRow_in fun r hr => chk_iff.2 ⟨rfl, st_elem (Heap.set_same _ _ _) rfl rfl (ifT_pos rfl ?_)⟩
    rw [Heap.set_set]
    have hne : r ≠ rt := fun e => by rw [e, Heap.set_same] at hr; cases hr
    have hr' : h r = none := by rwa [Heap.set_ne _ _ hne] at hr
    refine st_all (cs := [.nilsl, .nilsl]) (es := 2) (by rw [Heap.set_ne _ _ hne.symm, Heap.set_same]) rfl ?_
    rw [ldN2 (Heap.set_same _ _ _), tCons_cons, tCons_cons, tNil_nil]
    refine retG_drop (fun q o hq => ?_) (bad hW)
    have h1 : q ≠ rt := fun e => by rw [e, hrt] at hq; cases hq
    have h2 : q ≠ r := fun e => by rw [e, hr'] at hq; cases hq
    rw [Heap.set_ne _ _ h1, Heap.set_ne _ _ h2, Heap.set_ne _ _ h1]
    exact hq
  · simp only [tTup_tuple, tCons_cons, tInt_int, tNil_nil]
    have hFc : Go.Sym.sc f = true ∧ f.isAgg = false := by obtain ⟨o, rfl, _⟩ := hF; exact ⟨rfl, rfl⟩
    refine newRow_in fun r hr => chk_iff.2 ⟨hFc.1, st_elem (Heap.set_same _ _ _) rfl rfl (ifT_neg rfl (newRow_in fun ro hro => ?_))⟩
    rw [Heap.set_set] at hro ⊢
    rw [hU.len]
    have hne : r ≠ rt := fun e => by rw [e, Heap.set_same] at hr; cases hr
    have hr' : h r = none := by rwa [Heap.set_ne _ _ hne] at hr
    have hne2 : ro ≠ r := fun e => by rw [e, Heap.set_same] at hro; cases hro
    have hro' : (h.set rt (.row 2 [.agg [.nilsl, .nilsl]])) ro = none := by rwa [Heap.set_ne _ _ hne2] at hro
    refine ⟨fun q => q = r, [.lptr [mU, mV], .ptr rt 0 0, .lptr [f], .ptr ro 0 0, .int .i64 up.length, .int .i64 0], (h.set rt (.row 2 [.agg [.nilsl, .nilsl]])).set ro (.row 2 [.agg [.nilsl, .nilsl]]), ?_, ?_, rfl, up.length + 1, ?_⟩
    · refine .cons (.refl _) (.cons (.refl _) (.cons (.ptr rfl (by rw [Heap.set_ne _ _ hne2.symm]; exact Heap.set_same _ _ _) rfl ?_) (Lits.refl _)))
      rw [List.drop_zero]
      show Lits _ _ (cellsOf f) [f]
      rw [cells_of_notAgg hFc.2]
      exact Lits.refl _
    · refine ⟨fun _ _ => trivial, fun q o hq => ?_⟩
      rw [Heap.set_get] at hq
      split at hq
      · rename_i e
        subst e
        cases hq
        exact ⟨_, Heap.set_same _ _ _, hne2, .refl _⟩
      · rename_i e
        refine ⟨o, ?_, (fun e' => by rw [e', hr] at hq; cases hq), .refl _⟩
        rw [Heap.set_ne _ _ e, Heap.set_ne _ _ (fun e' => by rw [e', hr] at hq; cases hq)]
        exact hq
    · have := tidy_l1 hW.max hF hU hW.len S hV (Heap.set_same _ _ _) (fun q o hq => ⟨(fun e => by rw [e, hrt] at hq; cases hq), Heap.set_sub hrt q o hq⟩) (good hW) up.length 0 (by omega) .nilsl .nilsl [] [] _ (MBs.start hro') .nil .nil
      exact this
theorem fail_ok {hb h : Heap} {rt : Nat} {c : Int} {X Y : AVal} (ht : hb rt = some (.row 2 [.agg [X, Y]])) (hsub : ∀ q o, h q = some o → q ≠ rt ∧ hb q = some o) (bad : K (.tuple [.agg [.nilsl, .nilsl], .nilsl, .int .i64 c]) h) :
    st false hb (.ptr rt 0 0) [.nilsl, .nilsl] fun h_2 => ldN 2 h_2 (.ptr rt 0 0) fun l_5 => tCons l_5 fun v4 l_6 => tCons l_6 fun v5 l_7 => tNil l_7 (retG (.tuple [(.agg [v4, v5]), .nilsl, (.int .i64 c)]) h_2 K) := by
  refine st_all ht rfl ?_
  rw [ldN2 (Heap.set_same _ _ _), tCons_cons, tCons_cons, tNil_nil]
  refine retG_drop (fun q o hq => ?_) bad
  rw [Heap.set_ne _ _ (hsub q o hq).1]
  exact (hsub q o hq).2

end Go.Proofs.YtljglglbfcgjpaaGreat

namespace Go.Proofs.YtljglglbfcgjpaaGreat
open Go Go.Sym Go.Proofs.Tryz

/- ---- a map as a set ---- -/
def mapV (V : List Nat) : List (AVal × AVal) := V.map fun (v : Nat) => (.int .i64 (v : Int), .int .i64 1)
theorem find_in {v : Nat} : ∀ (V : List Nat) (i : Nat), v ∈ V → ∃ j, findM (.int .i64 (v : Int)) (mapV V) i = some (some (j, .int .i64 1))
  | [], _, h => by simp at h
  | x :: V, i, h => by
    show ∃ j, findM (.int .i64 (v : Int)) ((.int .i64 (x : Int), .int .i64 1) :: mapV V) i = _
    unfold findM keyEq
    simp only [decide_true]
    by_cases e : v = x
    · subst e
      exact ⟨i, by simp⟩
    · rw [show ((v : Int) == (x : Int)) = false by rw [beq_eq_false_iff_ne]; omega]
      exact find_in V (i + 1) (by simpa [e] using h)
theorem find_out {v : Nat} : ∀ (V : List Nat) (i : Nat), v ∉ V → findM (.int .i64 (v : Int)) (mapV V) i = some none
  | [], _, _ => rfl
  | x :: V, i, h => by
    show findM (.int .i64 (v : Int)) ((.int .i64 (x : Int), .int .i64 1) :: mapV V) i = _
    unfold findM keyEq
    simp only [decide_true]
    have h1 : v ≠ x ∧ v ∉ V := by simpa using h
    rw [show ((v : Int) == (x : Int)) = false by rw [beq_eq_false_iff_ne]; have := h1.1; omega]
    exact find_out V (i + 1) h1.2
theorem mapGet_in {h : Heap} {rm : Nat} {V : List Nat} (hm : h rm = some (.map (mapV V))) {v : Nat} (hv : v ∈ V) {K : AVal → Bool → Prop} (hk : K (.int .i64 1) true) : mapGet (.int .i64 0) h (.mapr rm) (.int .i64 (v : Int)) K := by
  obtain ⟨j, e⟩ := find_in V 0 hv
  unfold mapGet mapGetR entsA
  simp only [hm, e]
  exact hk
theorem mapGet_out {h : Heap} {rm : Nat} {V : List Nat} (hm : h rm = some (.map (mapV V))) {v : Nat} (hv : v ∉ V) {K : AVal → Bool → Prop} (hk : K (.int .i64 0) false) : mapGet (.int .i64 0) h (.mapr rm) (.int .i64 (v : Int)) K := by
  unfold mapGet mapGetR entsA
  simp only [hm, find_out V 0 hv]
  exact hk
theorem mapPut_out {h : Heap} {rm : Nat} {V : List Nat} (hm : h rm = some (.map (mapV V))) {v : Nat} (hv : v ∉ V) {K : Heap → Prop} (hk : K (h.set rm (.map (mapV (V ++ [v]))))) : mapPut h (.mapr rm) (.int .i64 (v : Int)) (.int .i64 1) K := by
  unfold mapPut mapPutR putM
  simp only [hm, find_out V 0 hv]
  simpa [mapV] using hk
theorem Heap.set_self {h : Heap} {r : Nat} {o : AObj} (hr : h r = some o) : h.set r o = h := by
  funext q
  simp only [Heap.set]
  split
  · rename_i e; rw [e, hr]
  · rfl

/- ---- a measure ---- -/
theorem filter_le {α : Type} {p q : α → Bool} : ∀ (l : List α), (∀ x, p x = true → q x = true) → (l.filter p).length ≤ (l.filter q).length
  | [], _ => by simp
  | a :: l, h => by
    have ih := filter_le l h
    by_cases e : p a = true
    · rw [List.filter_cons_of_pos e, List.filter_cons_of_pos (h a e)]
      simp only [List.length_cons]; omega
    · rw [List.filter_cons_of_neg e]
      by_cases e2 : q a = true
      · rw [List.filter_cons_of_pos e2]; simp only [List.length_cons]; omega
      · rw [List.filter_cons_of_neg e2]; exact ih
theorem filter_lt {α : Type} {p q : α → Bool} {x : α} : ∀ (l : List α), (∀ x, p x = true → q x = true) → x ∈ l → q x = true → p x = false → (l.filter p).length < (l.filter q).length
  | [], _, hx, _, _ => by simp at hx
  | a :: l, h, hx, hq, hp => by
    rcases List.mem_cons.1 hx with rfl | hx
    · rw [List.filter_cons_of_neg (by rw [hp]; decide), List.filter_cons_of_pos hq]
      have := filter_le l h
      simp only [List.length_cons]; omega
    · have ih := filter_lt l h hx hq hp
      by_cases e : p a = true
      · rw [List.filter_cons_of_pos e, List.filter_cons_of_pos (h a e)]
        simp only [List.length_cons]; omega
      · rw [List.filter_cons_of_neg e]
        by_cases e2 : q a = true
        · rw [List.filter_cons_of_pos e2]; simp only [List.length_cons]; omega
        · rw [List.filter_cons_of_neg e2]; exact ih
/-- how many are not in yet -/
def outN (n : Nat) (V : List Nat) : Nat := ((List.range n).filter fun x => decide (x ∉ V)).length
theorem outN_le {n : Nat} {V W : List Nat} (h : ∀ x ∈ V, x ∈ W) : outN n W ≤ outN n V := filter_le _ fun x hx => by
  simp only [decide_eq_true_eq] at hx ⊢
  exact fun hv => hx (h x hv)
theorem outN_lt {n : Nat} {V : List Nat} {v : Nat} (hv : v < n) (ho : v ∉ V) : outN n (V ++ [v]) < outN n V :=
  filter_lt (x := v) _ (fun x hx => by
    simp only [decide_eq_true_eq] at hx ⊢
    exact fun h => hx (List.mem_append_left _ h)) (List.mem_range.2 hv) (by simpa using ho) (by simp)

end Go.Proofs.YtljglglbfcgjpaaGreat

namespace Go.Proofs.YtljglglbfcgjpaaGreat
open Go Go.Sym Go.Proofs.Tryz

variable {up : List (List Int)} {val : List (List ByteArray)}

theorem tidyUp_len : (tidyUp up).length = up.length := by simp [tidyUp]
theorem tidy_step (hi : InR up) {a b : Nat} : Step (tidyUp up) a b ↔ a < up.length ∧ b < up.length ∧ coverB up a b = true := by
  unfold Step
  constructor
  · rintro ⟨r, hr, hb⟩
    have ha : a < up.length := by
      have := (List.getElem?_eq_some_iff.1 hr).1
      rwa [tidyUp_len] at this
    rw [tidyUp_get ha] at hr
    cases hr
    obtain ⟨c, hc, e⟩ := mem_natI.1 hb
    obtain rfl : b = c := by omega
    unfold tidyRow at hc
    rw [List.mem_filter, List.mem_range] at hc
    exact ⟨ha, hc.1, hc.2⟩
  · rintro ⟨ha, hb, hc⟩
    refine ⟨_, tidyUp_get ha, mem_natI.2 ⟨b, ?_, rfl⟩⟩
    unfold tidyRow
    rw [List.mem_filter, List.mem_range]
    exact ⟨hb, hc⟩
/-- how many worlds stand between -/
noncomputable def ivl (up : List (List Int)) (a b : Nat) : Nat := ((List.range up.length).filter fun x => rb up a x && rb up x b).length
theorem reach_tidy (W : WF up val) {a b : Nat} (ha : a < up.length) : Reach (tidyUp up) a b ↔ Reach up a b := by
  have iT : InR (tidyUp up) := fun r hr b hb => by
    obtain ⟨i, hi, e⟩ := List.mem_iff_getElem.1 hr
    rw [tidyUp_len] at hi
    have h1 := tidyUp_get hi
    rw [List.getElem?_eq_getElem (by rw [tidyUp_len]; exact hi), e] at h1
    cases h1
    obtain ⟨c, hc, rfl⟩ := mem_natI.1 hb
    unfold tidyRow at hc
    rw [List.mem_filter, List.mem_range] at hc
    rw [tidyUp_len]
    omega
  constructor
  · intro h
    induction h with
    | refl => exact .refl
    | tail _ hs ih =>
      obtain ⟨_, _, hc⟩ := (tidy_step W.inR).1 hs
      unfold coverB startB at hc
      simp only [Bool.and_eq_true] at hc
      exact ih.trans (rb_iff.1 hc.1.2)
  · have main : ∀ n a b, a < up.length → ivl up a b ≤ n → Reach up a b → Reach (tidyUp up) a b := by
      intro n
      induction n with
      | zero =>
        intro a b ha hn h
        have hb := h.lt W.inR ha
        have : (List.range up.length).filter (fun x => rb up a x && rb up x b) = [] := List.eq_nil_of_length_eq_zero (by unfold ivl at hn; omega)
        have hm : a ∈ (List.range up.length).filter (fun x => rb up a x && rb up x b) := by
          rw [List.mem_filter, List.mem_range]
          exact ⟨ha, by rw [rb_iff.2 .refl, rb_iff.2 h]; rfl⟩
        rw [this] at hm
        simp at hm
      | succ n ih =>
        intro a b ha hn h
        have hb := h.lt W.inR ha
        by_cases e : a = b
        · subst e; exact .refl
        · by_cases hc : coverB up a b = true
          · exact Reach.tail .refl ((tidy_step W.inR).2 ⟨ha, hb, hc⟩)
          · have hst : startB up a b = true := by unfold startB; rw [rb_iff.2 h]; simpa using e
            unfold coverB at hc
            rw [hst, Bool.true_and] at hc
            have hc2 : ((List.range up.length).all (okc up a b)) = false := by simpa using hc
            obtain ⟨c, hcm, hco⟩ := List.all_eq_false.1 hc2
            have hcl := List.mem_range.1 hcm
            have hco : okc up a b c = false := by simpa using hco
            unfold okc at hco
            simp only [Bool.or_eq_false_iff, Bool.not_eq_false'] at hco
            obtain ⟨h1, h2, h3, h4⟩ := hco
            have hca : c ≠ a := by simpa using h1
            have hcb : c ≠ b := by simpa using h2
            have r1 := rb_iff.1 h3
            have r2 := rb_iff.1 h4
            have l1 : ivl up a c < ivl up a b := filter_lt (x := b) _ (fun x hx => by
              simp only [Bool.and_eq_true] at hx ⊢
              exact ⟨hx.1, rb_iff.2 ((rb_iff.1 hx.2).trans r2)⟩) (List.mem_range.2 hb) (by rw [rb_iff.2 h, rb_iff.2 .refl]; rfl) (by
              have : rb up b c = false := by
                cases hh : rb up b c with
                | false => rfl
                | true => exact absurd (rb_iff.1 hh) (W.cond c b hcl hb r2 hcb).1
              rw [this, Bool.and_false])
            have l2 : ivl up c b < ivl up a b := filter_lt (x := a) _ (fun x hx => by
              simp only [Bool.and_eq_true] at hx ⊢
              exact ⟨rb_iff.2 (r1.trans (rb_iff.1 hx.1)), hx.2⟩) (List.mem_range.2 ha) (by rw [rb_iff.2 h, rb_iff.2 .refl]; rfl) (by
              have : rb up c a = false := by
                cases hh : rb up c a with
                | false => rfl
                | true => exact absurd (rb_iff.1 hh) (W.cond a c ha hcl r1 (Ne.symm hca)).1
              rw [this, Bool.false_and])
            exact (ih a c ha (by omega) r1).trans (ih c b hcl (by omega) r2)
    exact main _ a b ha (Nat.le_refl _)
theorem wf_tidy (W : WF up val) : WF (tidyUp up) val where
  pos := by rw [tidyUp_len]; exact W.pos
  max := by rw [tidyUp_len]; exact W.max
  len := by rw [tidyUp_len]; exact W.len
  inR := fun r hr b hb => by
    obtain ⟨i, hi, e⟩ := List.mem_iff_getElem.1 hr
    rw [tidyUp_len] at hi
    have h1 := tidyUp_get hi
    rw [List.getElem?_eq_getElem (by rw [tidyUp_len]; exact hi), e] at h1
    cases h1
    obtain ⟨c, hc, rfl⟩ := mem_natI.1 hb
    unfold tidyRow at hc
    rw [List.mem_filter, List.mem_range] at hc
    rw [tidyUp_len]
    omega
  fine := W.fine
  cond a b ha hb := by
    rw [tidyUp_len] at ha hb
    intro h hne
    have := W.cond a b ha hb ((reach_tidy W ha).1 h) hne
    exact ⟨fun h' => this.1 ((reach_tidy W hb).1 h'), this.2⟩
end Go.Proofs.YtljglglbfcgjpaaGreat

namespace Go.Proofs.YtljglglbfcgjpaaGreat
open Go Go.Sym Go.Proofs.Tryz

variable {K : AVal → Heap → Prop} {h : Heap}

/-- there may be new things -/
def Ext (h h' : Heap) : Prop := ∀ q o, h q = some o → h' q = some o
theorem Ext.refl (h : Heap) : Ext h h := fun _ _ e => e
theorem Ext.trans {a b c : Heap} (x : Ext a b) (y : Ext b c) : Ext a c := fun q o e => y q o (x q o e)
theorem Ext.new {h : Heap} {r : Nat} (hr : h r = none) (o : AObj) : Ext h (h.set r o) := fun q o' e => by
  have : q ≠ r := fun e' => by rw [e', hr] at e; cases e
  rw [Heap.set_other _ _ this]
  exact e
theorem Ext.put {h h' : Heap} {r : Nat} (x : Ext h h') (hr : h r = none) (o : AObj) : Ext h (h'.set r o) := fun q o' e => by
  have : q ≠ r := fun e' => by rw [e', hr] at e; cases e
  rw [Heap.set_other _ _ this]
  exact x q o' e
theorem nilP_nil (X : Bool → Prop) : nilP .nilptr X = X true := rfl
theorem nilP_ptr (r i o : Nat) (X : Bool → Prop) : nilP (.ptr r i o) X = X false := rfl
theorem nilCheckA_ptr (r i o : Nat) (X : AVal → Prop) : nilCheckA (.ptr r i o) X = X (.ptr r i o) := rfl
def zRow : List AVal := [.int .i64 0, .str (ByteArray.mk #[]), .int .i64 0, .int .i64 0]
theorem st_z {H : Heap} {r : Nat} (hr : H r = some (.row 4 [.agg zRow])) {a b c d : AVal} {X : Heap → Prop} (hx : X (H.set r (.row 4 [.agg [a, b, c, d]]))) : st false H (.ptr r 0 0) [a, b, c, d] X := by
  simp only [st, hr, List.getElem?_cons_zero]
  exact chk_iff.2 ⟨rfl, hx⟩
end Go.Proofs.YtljglglbfcgjpaaGreat

/- Contracts: lists of names and of numbers, the same models. No condition. Contracts: what a name is. No condition. Contracts: names that rise; is a name, a number among some? No condition. Contracts: who is above whom (the document's order). No condition. Contracts: which models are well-formed (the document's look at one). No condition. Contracts: who is above whom, by the program (worlds). No condition. Contracts: which models are well-formed, by the program (worlds). No condition. Contracts: the worlds of which something holds; the root. No condition. Contracts: what is next above each world (the document's tidying). No condition. Contracts: what is next above each world, by the program; copies. No condition. Contracts: tidied models; a copy; the same models. No condition. Contracts: how a law ends. No condition. Contracts: the program's order (morph): a search that climbs. No condition. Contracts: the program's order (morph), whole. No condition. Contracts: the program's test for a bounded morphism. No condition. Contracts: a search by halves in numbers that rise. No condition. Plain law: tidying keeps the order; the parts of a glued model. No condition; no program. Contracts: the model of some worlds alone (program). No condition. Contracts: the program's part and Above. No condition. -/
import Derived.Test.YtinficcdpggiaaaM5
import Derived.Test.YtinficcdpggiaaaPM0
import Derived.Test.YtinficcdpggiaaaPM1
import Derived.Test.YtinficcdpggiaaaM4

set_option linter.unusedVariables false
set_option linter.unusedSimpArgs false

namespace Go.Proofs.Ytinficcdpggiaaa
open Go Go.Sym Go.Proofs.Try

variable {K : AVal → Heap → Prop} {h : Heap}

theorem names_loop {a b : AVal} {la lb : List ByteArray} (ha : Strs a la) (hb : Strs b lb) (hl : la.length = lb.length) (hm : la.length ≤ 1073741824) : ∀ d i : Nat, i + d = la.length →
    K (.bool (decide (la.drop i = lb.drop i))) h → s23l1 K (d + 1) a b (i : Int) h
  | 0, i, hd, hk => by
    unfold s23l1
    rw [ha.len]
    refine ifT_neg (by simp; omega) (retG_of ?_)
    rw [List.drop_eq_nil_of_le (by omega), List.drop_eq_nil_of_le (by omega)] at hk
    simpa using hk
  | d + 1, i, hd, hk => by
    have hi : i < la.length := by omega
    have hi' : i < lb.length := by omega
    unfold s23l1
    rw [ha.len]
    refine ifT_pos (by simp; omega) ?_
    rw [ha.ix hi, ld1_lptr, tStr_str, hb.ix hi', ld1_lptr, tStr_str, strEq_dec]
    rw [drop_eq_step hi hi'] at hk
    by_cases he : la[i] = lb[i]
    · refine ifT_neg (by simp [he]) (rg_of (by omega) (by omega) ?_)
      exact s23l1_go (names_loop ha hb hl hm d (i + 1) (by omega) (by simpa [he] using hk))
    · refine ifT_pos (by simp [he]) (retG_of ?_)
      simpa [he] using hk

theorem names_ok {a b : AVal} {la lb : List ByteArray} (ha : Strs a la) (hb : Strs b lb) (hm : la.length ≤ 1073741824) (hk : K (.bool (decide (la = lb))) h) :
    ACalls prog 23 [a, b] h K := by
  refine s23_ok ?_
  unfold s23
  rw [ha.len, hb.len]
  by_cases hl : la.length = lb.length
  · refine ifT_neg (by simp [hl]) (s23l1_in (la.length + 1) ?_)
    exact names_loop ha hb hl hm la.length 0 (by omega) (by simpa using hk)
  · refine ifT_pos (by simp; omega) (retG_of ?_)
    rwa [show decide (la = lb) = false by simp; intro e; exact hl (by rw [e])] at hk
theorem ints_loop {a b : AVal} {la lb : List Int} (ha : Ints a la) (hb : Ints b lb) (hl : la.length = lb.length) (hm : la.length ≤ 1073741824) : ∀ d i : Nat, i + d = la.length →
    K (.bool (decide (la.drop i = lb.drop i))) h → s16l1 K (d + 1) a b (i : Int) h
  | 0, i, hd, hk => by
    unfold s16l1
    rw [ha.len]
    refine ifT_neg (by simp; omega) (retG_of ?_)
    rw [List.drop_eq_nil_of_le (by omega), List.drop_eq_nil_of_le (by omega)] at hk
    simpa using hk
  | d + 1, i, hd, hk => by
    have hi : i < la.length := by omega
    have hi' : i < lb.length := by omega
    unfold s16l1
    rw [ha.len]
    refine ifT_pos (by simp; omega) ?_
    rw [ha.ix hi, ld1_lptr, tInt_int, hb.ix hi', ld1_lptr, tInt_int]
    rw [drop_eq_step hi hi'] at hk
    by_cases he : la[i] = lb[i]
    · refine ifT_neg (by simp [he]) (rg_of (by omega) (by omega) ?_)
      exact s16l1_go (ints_loop ha hb hl hm d (i + 1) (by omega) (by simpa [he] using hk))
    · refine ifT_pos (by simp [he]) (retG_of ?_)
      simpa [he] using hk

theorem ints_ok {a b : AVal} {la lb : List Int} (ha : Ints a la) (hb : Ints b lb) (hm : la.length ≤ 1073741824) (hk : K (.bool (decide (la = lb))) h) :
    ACalls prog 16 [a, b] h K := by
  refine s16_ok ?_
  unfold s16
  rw [ha.len, hb.len]
  by_cases hl : la.length = lb.length
  · refine ifT_neg (by simp [hl]) (s16l1_in (la.length + 1) ?_)
    exact ints_loop ha hb hl hm la.length 0 (by omega) (by simpa using hk)
  · refine ifT_pos (by simp; omega) (retG_of ?_)
    rwa [show decide (la = lb) = false by simp; intro e; exact hl (by rw [e])] at hk
end Go.Proofs.Ytinficcdpggiaaa

namespace Go.Proofs.Ytinficcdpggiaaa
open Go Go.Sym Go.Proofs.Try

variable {K : AVal → Heap → Prop} {h : Heap}

def ltB (c : Int) : Bool := (decide (97 ≤ c) && decide (c ≤ 122)) || (decide (65 ≤ c) && decide (c ≤ 90))
def dgB (c : Int) : Bool := (decide (48 ≤ c) && decide (c ≤ 57)) || (c == 95 || c == 39)
def goodB (s : ByteArray) (i : Nat) : Bool := ltB (btA s i) || (i != 0 && dgB (btA s i))
def resL : List ByteArray := [ByteArray.mk #[97, 98, 111, 114, 116], ByteArray.mk #[99, 97, 115, 101], ByteArray.mk #[102, 97, 108, 115, 101], ByteArray.mk #[102, 115, 116], ByteArray.mk #[102, 117, 110], ByteArray.mk #[105, 110], ByteArray.mk #[105, 110, 108], ByteArray.mk #[105, 110, 114], ByteArray.mk #[108, 101, 116], ByteArray.mk #[111, 102], ByteArray.mk #[115, 110, 100], ByteArray.mk #[116, 114, 117, 101]]
/-- is it a name? -/
def wordB (s : ByteArray) : Bool := decide (s.size ≠ 0) && (decide (s.size ≤ 31) && ((List.range' 0 s.size).all (goodB s) && resL.all fun r => !strEq r s))

theorem strEq_comm (a b : ByteArray) : strEq a b = strEq b a := by rw [strEq_dec, strEq_dec, Bool.eq_iff_iff]; simp [eq_comm]
theorem btA_range (s : ByteArray) (i : Int) : 0 ≤ btA s i ∧ btA s i ≤ 255 := by
  unfold btA
  have := UInt8.toNat_lt (s[i.toNat]?.getD 0)
  omega
theorem or32 : ∀ c : Fin 256, (decide (97 ≤ bitsI .or .u8 (c.val : Int) 32) && decide (bitsI .or .u8 (c.val : Int) 32 ≤ 122)) = ltB c.val := by decide +kernel
theorem or32_bt (s : ByteArray) (i : Int) : (decide (97 ≤ bitsI .or .u8 (btA s i) 32) && decide (bitsI .or .u8 (btA s i) 32 ≤ 122)) = ltB (btA s i) := by
  obtain ⟨h1, h2⟩ := btA_range s i
  have := or32 ⟨(btA s i).toNat, by omega⟩
  simp only [Int.toNat_of_nonneg h1] at this
  exact this

theorem letter_ok (c : Int) (hk : K (.bool (ltB c)) h) : ACalls prog 76 [.int .u8 c] h K := by
  refine s76_ok ?_
  unfold s76
  unfold ltB at hk
  by_cases h1 : 97 ≤ c <;> by_cases h2 : c ≤ 122 <;> by_cases h3 : 65 ≤ c <;> simp [h1, h2, h3, ifT_eq] at hk ⊢ <;> exact retG_of (by simpa using hk)

theorem reserved3_ok (hk : ∀ v, Strs v resL → K v h) : ACalls prog 77 [] h K := by
  refine s77_ok ?_
  unfold s77
  exact retG_of (hk _ (.inl rfl))

theorem word3_res {v : AVal} {s : ByteArray} {l : List ByteArray} (hv : Strs v l) (hm : l.length ≤ 1073741824) : ∀ d i : Nat, i + d = l.length → K (.bool ((l.drop i).all fun r => !strEq r s)) h → s48l4 K (d + 1) s v (i : Int) h
  | 0, i, hd, hk => by
    unfold s48l4
    rw [hv.len]
    refine ifT_neg (by simp; omega) (retG_of ?_)
    rw [List.drop_eq_nil_of_le (by omega)] at hk
    simpa using hk
  | d + 1, i, hd, hk => by
    have hi : i < l.length := by omega
    unfold s48l4
    rw [hv.len]
    refine ifT_pos (by simp; omega) ?_
    rw [hv.ix hi, ld1_lptr, tStr_str]
    rw [List.drop_eq_getElem_cons hi, List.all_cons] at hk
    cases he : strEq l[i] s with
    | true => rw [he] at hk; exact ifT_pos rfl (retG_of (by simpa using hk))
    | false =>
      rw [he] at hk
      refine ifT_neg rfl (rg_of (by omega) (by omega) ?_)
      exact s48l4_go (word3_res hv hm d (i + 1) (by omega) (by simpa using hk))

theorem word3_loop {s : ByteArray} (hm : s.size ≤ 31) : ∀ d i : Nat, 1 ≤ i → i + d = s.size → K (.bool ((List.range' i d).all (goodB s) && resL.all fun r => !strEq r s)) h → s48l2 K (d + 1) s (i : Int) h
  | 0, i, h1, hd, hk => by
    unfold s48l2
    refine ifT_neg (by simp; omega) (callG_of (reserved3_ok fun v hv => s48l4_in 13 ?_))
    exact word3_res hv (by decide) 12 0 rfl (by simpa using hk)
  | d + 1, i, h1, hd, hk => by
    unfold s48l2
    refine ifT_pos (by simp; omega) ⟨by omega, callG_of (letter_ok _ ?_)⟩
    rw [tBool_bool]
    rw [List.range'_succ, List.all_cons] at hk
    have rest : goodB s i = true → s48c3 K (s48l2_G (s48l2 K (d + 1))) s i false h := by
      intro hg
      rw [hg] at hk
      exact ifT_neg rfl (rg_of (by omega) (by omega) (s48l2_go (word3_loop hm d (i + 1) (by omega) (by omega) (by simpa using hk))))
    have stop : goodB s i = false → s48c3 K (s48l2_G (s48l2 K (d + 1))) s i true h := by
      intro hg
      rw [hg] at hk
      exact ifT_pos rfl (retG_of (by simpa using hk))
    have hi0 : (i != 0) = true := by simp; omega
    have hgood : goodB s i = (ltB (btA s i) || dgB (btA s i)) := by simp [goodB, hi0]
    cases hl : ltB (btA s i) with
    | true => exact ifT_neg rfl (rest (by rw [hgood, hl]; rfl))
    | false =>
      rw [hl, Bool.false_or] at hgood
      unfold dgB at hgood
      generalize btA s i = c at *
      refine ifT_pos rfl ⟨by omega, ?_⟩
      by_cases h48 : 48 ≤ c
      · refine ifT_pos (by simpa using h48) ⟨by omega, ?_⟩
        by_cases h57 : c ≤ 57
        · refine ifT_neg (by simpa using h57) (rest (by rw [hgood]; simp [h48, h57]))
        · refine ifT_pos (by simpa using h57) ⟨by omega, ?_⟩
          by_cases h95 : c = 95
          · exact ifT_neg (by simp [h95]) (rest (by rw [hgood]; simp [h95]))
          · refine ifT_pos (by simpa using h95) ⟨by omega, ?_⟩
            by_cases h39 : c = 39
            · rw [show (c != 39) = false by simp [h39]]; exact rest (by rw [hgood]; simp [h39])
            · rw [show (c != 39) = true by simpa using h39]; exact stop (by rw [hgood]; simp [h57, h95, h39])
      · refine ifT_neg (by simpa using h48) ⟨by omega, ?_⟩
        by_cases h95 : c = 95
        · exact ifT_neg (by simp [h95]) (rest (by rw [hgood]; simp [h95]))
        · refine ifT_pos (by simpa using h95) ⟨by omega, ?_⟩
          by_cases h39 : c = 39
          · rw [show (c != 39) = false by simp [h39]]; exact rest (by rw [hgood]; simp [h39])
          · rw [show (c != 39) = true by simpa using h39]; exact stop (by rw [hgood]; simp [h48, h95, h39])

theorem word3_ok (s : ByteArray) (hk : K (.bool (wordB s)) h) : ACalls prog 48 [.str s] h K := by
  refine s48_ok ?_
  unfold s48
  unfold wordB at hk
  by_cases h1 : s.size < 1
  · refine ifT_pos (by simp; omega) (ifT_pos rfl (retG_of ?_))
    rw [decide_eq_false (by omega : ¬ s.size ≠ 0)] at hk
    exact hk
  · refine ifT_neg (by simp; omega) ?_
    rw [decide_eq_true (by omega : s.size ≠ 0), Bool.true_and] at hk
    by_cases h2 : 31 < s.size
    · refine ifT_pos (by simp; omega) (ifT_pos rfl (retG_of ?_))
      rw [show decide (s.size ≤ 31) = false by simp; omega] at hk
      exact hk
    · refine ifT_neg (by simp; omega) ⟨by omega, callG_of (letter_ok _ ?_)⟩
      rw [tBool_bool]
      rw [show decide (s.size ≤ 31) = true by simp; omega, Bool.true_and] at hk
      obtain ⟨m, hm⟩ : ∃ m, s.size = m + 1 := ⟨s.size - 1, by omega⟩
      rw [hm, List.range'_succ, List.all_cons, show goodB s 0 = ltB (btA s 0) by simp [goodB]] at hk
      cases hl : ltB (btA s 0) with
      | true =>
        rw [hl] at hk
        exact ifT_neg rfl (s48l2_in (m + 1) (word3_loop (by omega) m 1 (by omega) (by omega) (by simpa using hk)))
      | false =>
        rw [hl] at hk
        exact ifT_pos rfl (retG_of (by simpa using hk))

theorem reserved_ok (s : ByteArray) (hk : K (.bool (resL.any fun r => strEq r s)) h) : ACalls prog 72 [.str s] h K := by
  refine s72_ok ?_
  unfold s72
  simp only [resL, List.any_cons, List.any_nil, Bool.or_false] at hk
  simp only [strEq_comm _ s] at hk
  unfold s72c1
  generalize strEq s (ByteArray.mk #[97, 98, 111, 114, 116]) = b0 at hk ⊢
  generalize strEq s (ByteArray.mk #[99, 97, 115, 101]) = b1 at hk ⊢
  generalize strEq s (ByteArray.mk #[102, 97, 108, 115, 101]) = b2 at hk ⊢
  generalize strEq s (ByteArray.mk #[102, 115, 116]) = b3 at hk ⊢
  generalize strEq s (ByteArray.mk #[102, 117, 110]) = b4 at hk ⊢
  generalize strEq s (ByteArray.mk #[105, 110]) = b5 at hk ⊢
  generalize strEq s (ByteArray.mk #[105, 110, 108]) = b6 at hk ⊢
  generalize strEq s (ByteArray.mk #[105, 110, 114]) = b7 at hk ⊢
  generalize strEq s (ByteArray.mk #[108, 101, 116]) = b8 at hk ⊢
  generalize strEq s (ByteArray.mk #[111, 102]) = b9 at hk ⊢
  generalize strEq s (ByteArray.mk #[115, 110, 100]) = b10 at hk ⊢
  generalize strEq s (ByteArray.mk #[116, 114, 117, 101]) = b11 at hk ⊢
  cases b0 with
  | true => exact ifT_pos rfl (ifT_pos rfl (retG_of (by simpa using hk)))
  | false =>
  refine ifT_neg rfl ?_
  cases b1 with
  | true => exact ifT_pos rfl (ifT_pos rfl (retG_of (by simpa using hk)))
  | false =>
  refine ifT_neg rfl ?_
  cases b2 with
  | true => exact ifT_pos rfl (ifT_pos rfl (retG_of (by simpa using hk)))
  | false =>
  refine ifT_neg rfl ?_
  cases b3 with
  | true => exact ifT_pos rfl (ifT_pos rfl (retG_of (by simpa using hk)))
  | false =>
  refine ifT_neg rfl ?_
  cases b4 with
  | true => exact ifT_pos rfl (ifT_pos rfl (retG_of (by simpa using hk)))
  | false =>
  refine ifT_neg rfl ?_
  cases b5 with
  | true => exact ifT_pos rfl (ifT_pos rfl (retG_of (by simpa using hk)))
  | false =>
  refine ifT_neg rfl ?_
  cases b6 with
  | true => exact ifT_pos rfl (ifT_pos rfl (retG_of (by simpa using hk)))
  | false =>
  refine ifT_neg rfl ?_
  cases b7 with
  | true => exact ifT_pos rfl (ifT_pos rfl (retG_of (by simpa using hk)))
  | false =>
  refine ifT_neg rfl ?_
  cases b8 with
  | true => exact ifT_pos rfl (ifT_pos rfl (retG_of (by simpa using hk)))
  | false =>
  refine ifT_neg rfl ?_
  cases b9 with
  | true => exact ifT_pos rfl (ifT_pos rfl (retG_of (by simpa using hk)))
  | false =>
  refine ifT_neg rfl ?_
  cases b10 with
  | true => exact ifT_pos rfl (ifT_pos rfl (retG_of (by simpa using hk)))
  | false =>
  refine ifT_neg rfl ?_
  cases b11 with
  | true => exact ifT_pos rfl (retG_of (by simpa using hk))
  | false => exact ifT_neg rfl (retG_of (by simpa using hk))

theorem word_loop {s : ByteArray} (hm : s.size ≤ 1073741824) : ∀ d i : Nat, i + d = s.size →
    K (.bool ((List.range' i d).all (goodB s) && (decide (s.size ≠ 0) && (decide (s.size ≤ 31) && resL.all fun r => !strEq r s)))) h → s42l1 K (d + 1) s (s.size : Int) (i : Int) h
  | 0, i, hd, hk => by
    unfold s42l1
    refine ifT_neg (by simp; omega) ?_
    have he : strEq s (ByteArray.mk #[]) = decide (s.size = 0) := by
      rw [strEq_dec, Bool.eq_iff_iff]
      simp only [decide_eq_true_eq]
      constructor
      · intro e; rw [e]; rfl
      · intro e
        obtain ⟨⟨l⟩⟩ := s
        have : l.length = 0 := e
        rw [List.eq_nil_of_length_eq_zero this]
    rw [he]
    simp only [List.range'_zero, List.all_nil, Bool.true_and] at hk
    by_cases h0 : s.size = 0
    · refine ifT_neg (by simp [h0]) (retG_of ?_)
      simpa [h0] using hk
    · refine ifT_pos (by simp [h0]) ?_
      by_cases h31 : s.size ≤ 31
      · refine ifT_pos (by simp; omega) (callG_of (reserved_ok s ?_))
        rw [tBool_bool]
        refine retG_of ?_
        rw [show (!resL.any fun r => strEq r s) = resL.all fun r => !strEq r s by rw [List.all_eq_not_any_not]; simp]
        simpa [h0, h31] using hk
      · refine ifT_neg (by simp; omega) (retG_of ?_)
        simpa [h0, h31] using hk
  | d + 1, i, hd, hk => by
    unfold s42l1
    refine ifT_pos (by simp; omega) ⟨by omega, ?_⟩
    rw [List.range'_succ, List.all_cons] at hk
    have rest : goodB s i = true → s42c3 K (s42l1_G (s42l1 K (d + 1))) s s.size i false h := by
      intro hg
      rw [hg] at hk
      exact ifT_neg rfl (rg_of (by omega) (by omega) (s42l1_go (word_loop hm d (i + 1) (by omega) (by simpa using hk))))
    have stop : goodB s i = false → s42c3 K (s42l1_G (s42l1 K (d + 1))) s s.size i true h := by
      intro hg
      rw [hg] at hk
      exact ifT_pos rfl (retG_of (by simpa using hk))
    have key : s42c2 K (s42l1_G (s42l1 K (d + 1))) s i (btA s i) (ltB (btA s i)) s.size i h := by
      unfold s42c2
      unfold goodB dgB at rest stop
      cases hl : ltB (btA s i) with
      | true => exact ifT_neg rfl (rest (by rw [hl]; rfl))
      | false =>
        rw [hl] at rest stop
        simp only [Bool.false_or] at rest stop
        refine ifT_pos rfl ?_
        by_cases h0 : i = 0
        · refine ifT_pos (by simp [h0]) (stop (by simp [h0]))
        · refine ifT_neg (by simpa using h0) ?_
          rw [show (i != 0) = true by simpa using h0] at rest stop
          simp only [Bool.true_and] at rest stop
          generalize btA s i = c at *
          by_cases h95 : c = 95
          · exact ifT_neg (by simp [h95]) (rest (by simp [h95]))
          · refine ifT_pos (by simpa using h95) ?_
            by_cases h39 : c = 39
            · exact ifT_neg (by simp [h39]) (rest (by simp [h39]))
            · refine ifT_pos (by simpa using h39) ?_
              by_cases h48 : c < 48
              · exact ifT_pos (by simpa using h48) (stop (by simp [h95, h39]; omega))
              · refine ifT_neg (by simpa using h48) ?_
                by_cases h57 : 57 < c
                · rw [show decide (57 < c) = true by simpa using h57]; exact stop (by simp [h95, h39]; omega)
                · rw [show decide (57 < c) = false by simpa using h57]; exact rest (by simp; omega)
    have ho := or32_bt s i
    cases h97 : decide (97 ≤ bitsI .or .u8 (btA s i) 32) with
    | true => rw [h97, Bool.true_and] at ho; rw [ho]; exact ifT_pos rfl key
    | false => rw [h97, Bool.false_and] at ho; rw [← ho] at key; exact ifT_neg rfl key

theorem word_ok (s : ByteArray) (hm : s.size ≤ 1073741824) (hk : K (.bool (wordB s)) h) : ACalls prog 42 [.str s] h K := by
  refine s42_ok (s42l1_in (s.size + 1) (word_loop hm s.size 0 (by omega) ?_))
  unfold wordB at hk
  rwa [show ((List.range' 0 s.size).all (goodB s) && (decide (s.size ≠ 0) && (decide (s.size ≤ 31) && resL.all fun r => !strEq r s))) =
    (decide (s.size ≠ 0) && (decide (s.size ≤ 31) && ((List.range' 0 s.size).all (goodB s) && resL.all fun r => !strEq r s))) by
      cases (List.range' 0 s.size).all (goodB s) <;> cases decide (s.size ≠ 0) <;> cases decide (s.size ≤ 31) <;> rfl]
end Go.Proofs.Ytinficcdpggiaaa

namespace Go.Proofs.Ytinficcdpggiaaa
open Go Go.Sym Go.Proofs.Try

variable {K : AVal → Heap → Prop} {h : Heap}

/-- no name is longer than a machine's number -/
def SB (l : List ByteArray) : Prop := l.length ≤ 1073741824 ∧ ∀ s ∈ l, s.size ≤ 1073741824

def fine1 (l : List ByteArray) (i : Nat) : Bool := wordB (l.getD i ByteArray.empty) && (i == 0 || strLt (l.getD (i - 1) ByteArray.empty) (l.getD i ByteArray.empty))
/-- names that rise -/
def fineB (l : List ByteArray) : Bool := (List.range' 0 l.length).all (fine1 l)

def inS (l : List ByteArray) (s : ByteArray) : Bool := l.any fun x => decide (x = s)
theorem inS_iff {l : List ByteArray} {s : ByteArray} : inS l s = true ↔ s ∈ l := by
  unfold inS
  rw [List.any_eq_true]
  constructor
  · rintro ⟨x, hx, he⟩; rwa [← of_decide_eq_true he]
  · exact fun hx => ⟨s, hx, decide_eq_true rfl⟩

theorem has17_loop {v : AVal} {l : List ByteArray} {s : ByteArray} (hv : Strs v l) (hm : l.length ≤ 1073741824) : ∀ d i : Nat, i + d = l.length → K (.bool (inS (l.drop i) s)) h → s61l1 K (d + 1) v s (i : Int) h
  | 0, i, hd, hk => by
    unfold s61l1
    rw [hv.len]
    refine ifT_neg (by simp; omega) (retG_of ?_)
    rw [List.drop_eq_nil_of_le (by omega)] at hk
    exact hk
  | d + 1, i, hd, hk => by
    have hi : i < l.length := by omega
    unfold s61l1
    rw [hv.len]
    refine ifT_pos (by simp; omega) ?_
    rw [hv.ix hi, ld1_lptr, tStr_str, strEq_dec]
    rw [List.drop_eq_getElem_cons hi] at hk
    simp only [inS, List.any_cons] at hk
    by_cases he : l[i] = s
    · exact ifT_pos (by simpa using he) (retG_of (by simpa [he] using hk))
    · refine ifT_neg (by simpa using he) (rg_of (by omega) (by omega) (s61l1_go (has17_loop hv hm d (i + 1) (by omega) ?_)))
      rwa [decide_eq_false he, Bool.false_or] at hk
theorem has17_ok {v : AVal} {l : List ByteArray} {s : ByteArray} (hv : Strs v l) (hm : l.length ≤ 1073741824) (hk : K (.bool (inS l s)) h) : ACalls prog 61 [v, .str s] h K :=
  s61_ok (s61l1_in (l.length + 1) (has17_loop hv hm l.length 0 (by omega) (by simpa using hk)))

theorem has19_loop {v : AVal} {l : List ByteArray} {s : ByteArray} (hv : Strs v l) (hm : l.length ≤ 1073741824) : ∀ d i : Nat, i + d = l.length → K (.bool (inS (l.drop i) s)) h → s49l1 K (d + 1) v s (i : Int) h
  | 0, i, hd, hk => by
    unfold s49l1
    rw [hv.len]
    refine ifT_neg (by simp; omega) (retG_of ?_)
    rw [List.drop_eq_nil_of_le (by omega)] at hk
    exact hk
  | d + 1, i, hd, hk => by
    have hi : i < l.length := by omega
    unfold s49l1
    rw [hv.len]
    refine ifT_pos (by simp; omega) ?_
    rw [hv.ix hi, ld1_lptr, tStr_str, strEq_dec]
    rw [List.drop_eq_getElem_cons hi] at hk
    simp only [inS, List.any_cons] at hk
    by_cases he : l[i] = s
    · exact ifT_pos (by simpa using he) (retG_of (by simpa [he] using hk))
    · refine ifT_neg (by simpa using he) (rg_of (by omega) (by omega) (s49l1_go (has19_loop hv hm d (i + 1) (by omega) ?_)))
      rwa [decide_eq_false he, Bool.false_or] at hk
theorem has19_ok {v : AVal} {l : List ByteArray} {s : ByteArray} (hv : Strs v l) (hm : l.length ≤ 1073741824) (hk : K (.bool (inS l s)) h) : ACalls prog 49 [v, .str s] h K :=
  s49_ok (s49l1_in (l.length + 1) (has19_loop hv hm l.length 0 (by omega) (by simpa using hk)))

theorem idxS_loop {v : AVal} {l : List ByteArray} {s : ByteArray} (hv : Strs v l) (hm : l.length ≤ 1073741824) (hk : ∀ n : Int, (0 ≤ n ↔ s ∈ l) → K (.int .i64 n) h) : ∀ d i : Nat, i + d = l.length → s ∉ l.take i →
    s75l1 K (d + 1) v s (l.length : Int) (i : Int) h
  | 0, i, hd, hn => by
    unfold s75l1
    refine ifT_neg (by simp; omega) (retG_of (hk _ ?_))
    rw [List.take_of_length_le (by omega)] at hn
    simp [hn]
  | d + 1, i, hd, hn => by
    have hi : i < l.length := by omega
    unfold s75l1
    refine ifT_pos (by simp; omega) ?_
    rw [hv.ix hi, ld1_lptr, tStr_str, strEq_dec]
    by_cases he : s = l[i]
    · exact ifT_pos (by simpa using he) (retG_of (hk _ ⟨fun _ => he ▸ List.getElem_mem hi, fun _ => by omega⟩))
    · refine ifT_neg (by simpa using he) (rg_of (by omega) (by omega) (s75l1_go (idxS_loop hv hm hk d (i + 1) (by omega) ?_)))
      rw [List.take_succ_eq_append_getElem hi]
      intro hx
      rcases List.mem_append.1 hx with hx | hx
      · exact hn hx
      · exact he (List.mem_singleton.1 hx)
theorem containsS_ok {v : AVal} {l : List ByteArray} {s : ByteArray} (hv : Strs v l) (hm : l.length ≤ 1073741824) (hk : K (.bool (inS l s)) h) : ACalls prog 46 [v, .str s] h K := by
  refine s46_ok (callG_of (s75_ok ?_))
  unfold s75
  rw [hv.len]
  refine s75l1_in (l.length + 1) (idxS_loop hv hm (fun n hn => ?_) l.length 0 (by omega) (by simp))
  rw [tInt_int]
  refine retG_of ?_
  rwa [show decide (0 ≤ n) = inS l s by rw [Bool.eq_iff_iff, inS_iff]; simpa using hn]

theorem idxI_loop {v : AVal} {l : List Int} {s : Int} (hv : Ints v l) (hm : l.length ≤ 1073741824) (hk : ∀ n : Int, (0 ≤ n ↔ s ∈ l) → K (.int .i64 n) h) : ∀ d i : Nat, i + d = l.length → s ∉ l.take i →
    s80l1 K (d + 1) v s (l.length : Int) (i : Int) h
  | 0, i, hd, hn => by
    unfold s80l1
    refine ifT_neg (by simp; omega) (retG_of (hk _ ?_))
    rw [List.take_of_length_le (by omega)] at hn
    simp [hn]
  | d + 1, i, hd, hn => by
    have hi : i < l.length := by omega
    unfold s80l1
    refine ifT_pos (by simp; omega) ?_
    rw [hv.ix hi, ld1_lptr, tInt_int]
    by_cases he : s = l[i]
    · exact ifT_pos (by simpa using he) (retG_of (hk _ ⟨fun _ => he ▸ List.getElem_mem hi, fun _ => by omega⟩))
    · refine ifT_neg (by simpa using he) (rg_of (by omega) (by omega) (s80l1_go (idxI_loop hv hm hk d (i + 1) (by omega) ?_)))
      rw [List.take_succ_eq_append_getElem hi]
      intro hx
      rcases List.mem_append.1 hx with hx | hx
      · exact hn hx
      · exact he (List.mem_singleton.1 hx)
theorem containsI_ok {v : AVal} {l : List Int} {s : Int} (hv : Ints v l) (hm : l.length ≤ 1073741824) (hk : K (.bool (decide (s ∈ l))) h) : ACalls prog 54 [v, .int .i64 s] h K := by
  refine s54_ok (callG_of (s80_ok ?_))
  unfold s80
  rw [hv.len]
  refine s80l1_in (l.length + 1) (idxI_loop hv hm (fun n hn => ?_) l.length 0 (by omega) (by simp))
  rw [tInt_int]
  refine retG_of ?_
  rwa [show decide (0 ≤ n) = decide (s ∈ l) by rw [Bool.eq_iff_iff]; simpa using hn]

theorem idxFS_loop {v f : AVal} {l : List ByteArray} {p : ByteArray → Bool} (hv : Strs v l) (hm : l.length ≤ 1073741824)
    (hf : ∀ s ∈ l, ∀ K : AVal → Heap → Prop, K (.bool (p s)) h → callV prog f [.str s] h K) (hk : ∀ n : Int, (0 ≤ n ↔ ∃ s ∈ l, p s = true) → K (.int .i64 n) h) : ∀ d i : Nat, i + d = l.length → (∀ s ∈ l.take i, p s = false) →
    s74l1 K (d + 1) v f (l.length : Int) (i : Int) h
  | 0, i, hd, hn => by
    unfold s74l1
    refine ifT_neg (by simp; omega) (retG_of (hk _ ?_))
    rw [List.take_of_length_le (by omega)] at hn
    constructor
    · intro h0; omega
    · rintro ⟨s, hs, hp⟩; rw [hn s hs] at hp; cases hp
  | d + 1, i, hd, hn => by
    have hi : i < l.length := by omega
    unfold s74l1
    refine ifT_pos (by simp; omega) ?_
    rw [hv.ix hi, ld1_lptr, tStr_str]
    refine hf _ (List.getElem_mem hi) _ ?_
    rw [tBool_bool]
    cases he : p l[i] with
    | true => exact ifT_pos rfl (retG_of (hk _ ⟨fun _ => ⟨_, List.getElem_mem hi, he⟩, fun _ => by omega⟩))
    | false =>
      refine ifT_neg rfl (rg_of (by omega) (by omega) (s74l1_go (idxFS_loop hv hm hf hk d (i + 1) (by omega) ?_)))
      rw [List.take_succ_eq_append_getElem hi]
      intro s hs
      rcases List.mem_append.1 hs with hs | hs
      · exact hn s hs
      · simp at hs; rw [hs, he]
theorem containsFS_ok {v f : AVal} {l : List ByteArray} {p : ByteArray → Bool} (hv : Strs v l) (hm : l.length ≤ 1073741824)
    (hf : ∀ s ∈ l, ∀ K : AVal → Heap → Prop, K (.bool (p s)) h → callV prog f [.str s] h K) (hk : K (.bool (l.any p)) h) : ACalls prog 44 [v, f] h K := by
  refine s44_ok (callG_of (s74_ok ?_))
  unfold s74
  rw [hv.len]
  refine s74l1_in (l.length + 1) (idxFS_loop hv hm hf (fun n hn => ?_) l.length 0 (by omega) (by simp))
  rw [tInt_int]
  refine retG_of ?_
  rwa [show decide (0 ≤ n) = l.any p by rw [Bool.eq_iff_iff]; simpa using hn]

theorem idxFI_loop {v f : AVal} {l : List Int} {p : Int → Bool} (hv : Ints v l) (hm : l.length ≤ 1073741824)
    (hf : ∀ s ∈ l, ∀ K : AVal → Heap → Prop, K (.bool (p s)) h → callV prog f [.int .i64 s] h K) (hk : ∀ n : Int, (0 ≤ n ↔ ∃ s ∈ l, p s = true) → K (.int .i64 n) h) : ∀ d i : Nat, i + d = l.length → (∀ s ∈ l.take i, p s = false) →
    s79l1 K (d + 1) v f (l.length : Int) (i : Int) h
  | 0, i, hd, hn => by
    unfold s79l1
    refine ifT_neg (by simp; omega) (retG_of (hk _ ?_))
    rw [List.take_of_length_le (by omega)] at hn
    constructor
    · intro h0; omega
    · rintro ⟨s, hs, hp⟩; rw [hn s hs] at hp; cases hp
  | d + 1, i, hd, hn => by
    have hi : i < l.length := by omega
    unfold s79l1
    refine ifT_pos (by simp; omega) ?_
    rw [hv.ix hi, ld1_lptr, tInt_int]
    refine hf _ (List.getElem_mem hi) _ ?_
    rw [tBool_bool]
    cases he : p l[i] with
    | true => exact ifT_pos rfl (retG_of (hk _ ⟨fun _ => ⟨_, List.getElem_mem hi, he⟩, fun _ => by omega⟩))
    | false =>
      refine ifT_neg rfl (rg_of (by omega) (by omega) (s79l1_go (idxFI_loop hv hm hf hk d (i + 1) (by omega) ?_)))
      rw [List.take_succ_eq_append_getElem hi]
      intro s hs
      rcases List.mem_append.1 hs with hs | hs
      · exact hn s hs
      · simp at hs; rw [hs, he]
theorem containsFI_ok {v f : AVal} {l : List Int} {p : Int → Bool} (hv : Ints v l) (hm : l.length ≤ 1073741824)
    (hf : ∀ s ∈ l, ∀ K : AVal → Heap → Prop, K (.bool (p s)) h → callV prog f [.int .i64 s] h K) (hk : K (.bool (l.any p)) h) : ACalls prog 51 [v, f] h K := by
  refine s51_ok (callG_of (s79_ok ?_))
  unfold s79
  rw [hv.len]
  refine s79l1_in (l.length + 1) (idxFI_loop hv hm hf (fun n hn => ?_) l.length 0 (by omega) (by simp))
  rw [tInt_int]
  refine retG_of ?_
  rwa [show decide (0 ≤ n) = l.any p by rw [Bool.eq_iff_iff]; simpa using hn]

theorem getD_of {l : List ByteArray} {i : Nat} (hi : i < l.length) : l.getD i ByteArray.empty = l[i] := by simp [List.getD, hi]

theorem fine_loop {v : AVal} {l : List ByteArray} (hv : Strs v l) (hm : SB l) : ∀ d i : Nat, i + d = l.length → K (.bool ((List.range' i d).all (fine1 l))) h → s60l1 K (d + 1) v (i : Int) h
  | 0, i, hd, hk => by
    unfold s60l1
    rw [hv.len]
    exact ifT_neg (by simp; omega) (retG_of (by simpa using hk))
  | d + 1, i, hd, hk => by
    have hi : i < l.length := by omega
    have hl := hm.1
    unfold s60l1
    rw [hv.len]
    refine ifT_pos (by simp; omega) ?_
    rw [hv.ix hi, ld1_lptr, tStr_str]
    refine callG_of (word3_ok _ ?_)
    rw [tBool_bool]
    rw [List.range'_succ, List.all_cons] at hk
    have rest : fine1 l i = true → s60c2 K (s60l1_G (s60l1 K (d + 1))) v i false h := by
      intro hg
      rw [hg] at hk
      exact ifT_neg rfl (rg_of (by omega) (by omega) (s60l1_go (fine_loop hv hm d (i + 1) (by omega) (by simpa using hk))))
    have stop : fine1 l i = false → s60c2 K (s60l1_G (s60l1 K (d + 1))) v i true h := by
      intro hg
      rw [hg] at hk
      exact ifT_pos rfl (retG_of (by simpa using hk))
    unfold fine1 at rest stop
    rw [getD_of hi] at rest stop
    cases hw : wordB l[i] with
    | false => exact ifT_pos rfl (stop (by rw [hw]; rfl))
    | true =>
      rw [hw, Bool.true_and] at rest stop
      refine ifT_neg rfl ?_
      by_cases h0 : 0 < i
      · refine ifT_pos (by simp; omega) (rg_of (by omega) (by omega) ?_)
        have hi1 : i - 1 < l.length := by omega
        rw [show (i : Int) - 1 = ((i - 1 : Nat) : Int) by omega, hv.ix hi1, ld1_lptr, tStr_str, hv.ix hi, ld1_lptr, tStr_str]
        rw [getD_of hi1, show (i == 0) = false by simp; omega, Bool.false_or] at rest stop
        cases hs : strLt l[i - 1] l[i] with
        | true => exact rest hs
        | false => exact stop hs
      · obtain rfl : i = 0 := by omega
        exact ifT_neg (by simp) (rest (by simp))
theorem fine_ok {v : AVal} {l : List ByteArray} (hv : Strs v l) (hm : SB l) (hk : K (.bool (fineB l)) h) : ACalls prog 60 [v] h K :=
  s60_ok (s60l1_in (l.length + 1) (fine_loop hv hm l.length 0 (by omega) hk))

theorem rising_loop {v : AVal} {l : List ByteArray} (hv : Strs v l) (hm : SB l) : ∀ d i : Nat, i + d = l.length → K (.bool ((List.range' i d).all (fine1 l))) h → s88l1 K (d + 1) v v (l.length : Int) (i : Int) h
  | 0, i, hd, hk => by
    unfold s88l1
    exact ifT_neg (by simp; omega) (retG_of (by simpa using hk))
  | d + 1, i, hd, hk => by
    have hi : i < l.length := by omega
    have hl := hm.1
    unfold s88l1
    refine ifT_pos (by simp; omega) ?_
    rw [hv.ix hi, ld1_lptr, tStr_str]
    refine callG_of (word_ok _ (hm.2 _ (List.getElem_mem hi)) ?_)
    rw [tBool_bool]
    rw [List.range'_succ, List.all_cons] at hk
    have rest : fine1 l i = true → s88c2 K (s88l1_G (s88l1 K (d + 1))) v v l.length i false h := by
      intro hg
      rw [hg] at hk
      exact ifT_neg rfl (rg_of (by omega) (by omega) (s88l1_go (rising_loop hv hm d (i + 1) (by omega) (by simpa using hk))))
    have stop : fine1 l i = false → s88c2 K (s88l1_G (s88l1 K (d + 1))) v v l.length i true h := by
      intro hg
      rw [hg] at hk
      exact ifT_pos rfl (retG_of (by simpa using hk))
    unfold fine1 at rest stop
    rw [getD_of hi] at rest stop
    cases hw : wordB l[i] with
    | false => exact ifT_pos rfl (stop (by rw [hw]; rfl))
    | true =>
      rw [hw, Bool.true_and] at rest stop
      refine ifT_neg rfl ?_
      by_cases h0 : 0 < i
      · refine ifT_pos (by simp; omega) (rg_of (by omega) (by omega) ?_)
        have hi1 : i - 1 < l.length := by omega
        rw [show (i : Int) - 1 = ((i - 1 : Nat) : Int) by omega, hv.ix hi1, ld1_lptr, tStr_str]
        rw [getD_of hi1, show (i == 0) = false by simp; omega, Bool.false_or] at rest stop
        cases hs : strLt l[i - 1] l[i] with
        | true => exact rest hs
        | false => exact stop hs
      · obtain rfl : i = 0 := by omega
        exact ifT_neg (by simp) (rest (by simp))
theorem rising_ok {v : AVal} {l : List ByteArray} (hv : Strs v l) (hm : SB l) (hk : K (.bool (fineB l)) h) : ACalls prog 88 [v] h K := by
  refine s88_ok ?_
  unfold s88
  rw [hv.len]
  exact s88l1_in (l.length + 1) (rising_loop hv hm l.length 0 (by omega) hk)
end Go.Proofs.Ytinficcdpggiaaa

namespace Go.Proofs.Ytinficcdpggiaaa
open Go Go.Sym Go.Proofs.Try

variable {K : AVal → Heap → Prop}

def Step (up : List (List Int)) (a b : Nat) : Prop := ∃ r, up[a]? = some r ∧ (b : Int) ∈ r
/-- b is above a -/
inductive Reach (up : List (List Int)) (a : Nat) : Nat → Prop
  | refl : Reach up a a
  | tail {b c : Nat} (h : Reach up a b) (hs : Step up b c) : Reach up a c
theorem Reach.trans {up : List (List Int)} {a b c : Nat} (h : Reach up a b) (h' : Reach up b c) : Reach up a c := by
  induction h' with
  | refl => exact h
  | tail _ hs ih => exact .tail ih hs
/-- all numbers are worlds -/
def InR (up : List (List Int)) : Prop := ∀ r ∈ up, ∀ b ∈ r, 0 ≤ b ∧ b < up.length
theorem Reach.lt {up : List (List Int)} (hi : InR up) {a b : Nat} (h : Reach up a b) (ha : a < up.length) : b < up.length := by
  cases h with
  | refl => exact ha
  | tail _ hs =>
    obtain ⟨r, hr, hb⟩ := hs
    have := hi r (List.mem_of_getElem? hr) _ hb
    omega
open Classical in
noncomputable def rb (up : List (List Int)) (a b : Nat) : Bool := decide (Reach up a b)
theorem rb_iff {up : List (List Int)} {a b : Nat} : rb up a b = true ↔ Reach up a b := by unfold rb; simp
noncomputable def rowB (up : List (List Int)) (a : Nat) : List Bool := (List.range up.length).map (rb up a)
/-- a table of the order -/
def OTab (v : AVal) (up : List (List Int)) : Prop := ∃ rows, SlOf 1 v rows ∧ rows.length = up.length ∧ ∀ a, a < up.length → ∃ e, rows[a]? = some e ∧ e.isAgg = false ∧ SlOf 1 e ((rowB up a).map .bool)
theorem OTab.len {v : AVal} {up : List (List Int)} (h : OTab v up) (K : Int → Prop) : lenN v K = K up.length := by
  obtain ⟨rows, h1, h2, _⟩ := h
  rw [lenN_of h1, h2]
theorem cells_of_notAgg {e : AVal} (h : e.isAgg = false) : cellsOf e = [e] := by cases e <;> first | rfl | cases h
theorem OTab.row {v : AVal} {up : List (List Int)} (h : OTab v up) {a : Nat} (ha : a < up.length) {h' : Heap} : ∃ e, (∀ K : AVal → Prop, (ixS 1 v (a : Int) fun p => ld1 h' p K) = K e) ∧
    (∀ K : Int → Prop, lenN e K = K up.length) ∧ ∀ b, b < up.length → ∀ K : AVal → Prop, (ixS 1 e (b : Int) fun p => ld1 h' p K) = K (.bool (rb up a b)) := by
  obtain ⟨rows, h1, h2, h3⟩ := h
  obtain ⟨e, he, hn, hr⟩ := h3 a ha
  refine ⟨e, fun K => ?_, fun K => ?_, fun b hb K => ?_⟩
  · rw [ixS_nat h1 he, cells_of_notAgg hn, ld1_lptr]
  · rw [lenN_of hr]; simp [rowB]
  · rw [ixS_nat hr (e := .bool (rb up a b)) (by simp [rowB, hb])]; rfl

/- ---------------- a search for all that is above ---------------- -/
structure BF (up : List (List Int)) (a : Nat) (marks : List Bool) (W : List Nat) : Prop where
  len : marks.length = up.length
  cnt : W.length + marks.count false = up.length
  reach : ∀ x ∈ W, x < up.length ∧ Reach up a x
  mkd : ∀ x, marks[x]? = some true ↔ x ∈ W

theorem BF.add {up : List (List Int)} {a b : Nat} {marks : List Bool} {W : List Nat} (B : BF up a marks W) (hb : marks[b]? = some false) (hr : Reach up a b) : BF up a (marks.set b true) (W ++ [b]) := by
  have hlt : b < marks.length := (List.getElem?_eq_some_iff.1 hb).1
  have hget : marks[b] = false := (List.getElem?_eq_some_iff.1 hb).2
  have hpos : 0 < marks.count false := List.count_pos_iff.2 (hget ▸ List.getElem_mem hlt)
  refine ⟨by simp [B.len], ?_, fun x hx => ?_, fun x => ?_⟩
  · have := List.count_set (a := true) (b := false) hlt
    rw [hget] at this
    simp only [List.length_append, List.length_singleton]
    have h2 := B.cnt
    rw [this]
    simp
    omega
  · rcases List.mem_append.1 hx with hx | hx
    · exact B.reach x hx
    · rw [List.mem_singleton.1 hx]; exact ⟨by rw [← B.len]; exact hlt, hr⟩
  · rw [List.getElem?_set]
    by_cases e : b = x
    · subst e; simp [hlt]
    · simp [e, B.mkd x, Ne.symm e]

theorem BF.start {up : List (List Int)} {a : Nat} (ha : a < up.length) : BF up a ((List.replicate up.length false).set a true) [a] := by
  have hr : (List.replicate up.length false)[a]? = some false := by simp [ha]
  have hlt : a < (List.replicate up.length false).length := by simpa using ha
  refine ⟨by simp, ?_, fun x hx => ?_, fun x => ?_⟩
  · rw [List.count_set hlt]; simp; omega
  · rw [List.mem_singleton.1 hx]; exact ⟨ha, .refl⟩
  · rw [List.getElem?_set]
    by_cases e : a = x
    · subst e; simp [ha]
    · simp only [if_neg e, List.mem_singleton]
      constructor
      · intro h; simp [List.getElem?_replicate] at h
      · intro h; exact absurd h.symm e

/-- when all are looked at, the marks are the order's row -/
theorem BF.done {up : List (List Int)} {a : Nat} {marks : List Bool} {W : List Nat} (B : BF up a marks W) (ha : a ∈ W) (hcl : ∀ x ∈ W, ∀ c, Step up x c → marks[c]? = some true) : marks = rowB up a := by
  have hall : ∀ c, Reach up a c → c ∈ W := by
    intro c hc
    induction hc with
    | refl => exact ha
    | tail _ hs ih => exact (B.mkd _).1 (hcl _ ih _ hs)
  apply List.ext_getElem?
  intro b
  unfold rowB
  rw [List.getElem?_map]
  by_cases hb : b < up.length
  · rw [List.getElem?_range hb, Option.map_some]
    have hlt : b < marks.length := by rw [B.len]; exact hb
    rw [List.getElem?_eq_getElem hlt]
    congr 1
    have h1 := B.mkd b
    rw [List.getElem?_eq_getElem hlt] at h1
    rw [Bool.eq_iff_iff, rb_iff]
    constructor
    · intro e; exact (B.reach b (h1.1 (by rw [e]))).2
    · intro hr; simpa using h1.2 (hall b hr)
  · rw [List.getElem?_eq_none (by have := B.len; omega), List.getElem?_eq_none (by simpa using hb)]; rfl

def natV (W : List Nat) : List AVal := W.map fun (x : Nat) => .int .i64 (x : Int)

/-- the memory of the search: the table, the row, around what waits -/
structure OM (h0 : Heap) (ro ra a n : Nat) (R : List AVal) (marks : List Bool) (hb : Heap) : Prop where
  ho : h0 ro = none
  ha : h0 ra = none
  ne : ra ≠ ro
  hb : hb = (h0.set ro (.row 1 R)).set ra (.row 1 (marks.map .bool))
  at_ : R[a]? = some (.sl ra 1 0 n)
  len : R.length = n
theorem OM.get_o {h0 hb : Heap} {ro ra a n : Nat} {R : List AVal} {marks : List Bool} (M : OM h0 ro ra a n R marks hb) : hb ro = some (.row 1 R) := by
  rw [M.hb, Heap.set_ne _ _ M.ne.symm, Heap.set_same]
theorem OM.get_a {h0 hb : Heap} {ro ra a n : Nat} {R : List AVal} {marks : List Bool} (M : OM h0 ro ra a n R marks hb) : hb ra = some (.row 1 (marks.map .bool)) := by
  rw [M.hb, Heap.set_same]
theorem OM.old {h0 hb : Heap} {ro ra a n : Nat} {R : List AVal} {marks : List Bool} (M : OM h0 ro ra a n R marks hb) {q : Nat} {o : AObj} (hq : h0 q = some o) : hb q = some o := by
  rw [M.hb, Heap.set_ne _ _ (fun e => by subst e; rw [M.ha] at hq; cases hq), Heap.set_ne _ _ (fun e => by subst e; rw [M.ho] at hq; cases hq)]
  exact hq
theorem OM.put {h0 hb : Heap} {ro ra a n : Nat} {R : List AVal} {marks marks' : List Bool} (M : OM h0 ro ra a n R marks hb) : OM h0 ro ra a n R marks' (hb.set ra (.row 1 (marks'.map .bool))) :=
  ⟨M.ho, M.ha, M.ne, by rw [M.hb, Heap.set_set], M.at_, M.len⟩

theorem natV_len (W : List Nat) : (natV W).length = W.length := by simp [natV]
theorem natV_get {W : List Nat} {i x : Nat} (h : W[i]? = some x) : (natV W)[i]? = some (.int .i64 (x : Int)) := by simp [natV, h]
theorem natV_app (W : List Nat) (b : Nat) : natV (W ++ [b]) = natV W ++ [.int .i64 (b : Int)] := by simp [natV]

section
variable {h0 : Heap} {up : List (List Int)} {ro ra a : Nat} {R : List AVal}

theorem order_l3 (hn : up.length ≤ 1073741824) (bad : ¬ InR up → K (.tuple [.nilsl, .bool false]) h0)
    {L1 : AVal → Int → AVal → Int → Heap → Prop} {L2 : AVal → Int → AVal → Int → AVal → Int → Heap → Prop} {m row : AVal} {r : List Int} {x : Nat} {i : Int} (hrow : Ints row r) (hr : r.length ≤ 1073741824)
    (hx : up[x]? = some r) (hax : Reach up a x) (han : a < up.length) (hi : -1 ≤ i ∧ i ≤ 1073741824) {marks0 : List Bool} {W : List Nat}
    (hL : ∀ marks t wait hb h, BF up a marks (W ++ t) → OM h0 ro ra a up.length R marks hb → Grow 1 hb wait (natV (W ++ t)) h → (∀ y : Nat, marks0[y]? = some true → marks[y]? = some true) →
      (∀ b ∈ r, 0 ≤ b ∧ b < up.length ∧ marks[b.toNat]? = some true) → L2 m up.length (.sl ro 1 0 up.length) a wait (i + 1) h) :
    ∀ d k : Nat, k + d = r.length → ∀ marks t wait hb h, BF up a marks (W ++ t) → OM h0 ro ra a up.length R marks hb → Grow 1 hb wait (natV (W ++ t)) h → (∀ y : Nat, marks0[y]? = some true → marks[y]? = some true) →
      (∀ b ∈ r.take k, 0 ≤ b ∧ b < up.length ∧ marks[b.toNat]? = some true) → s59l3 K L1 L2 (d + 1) m up.length (.sl ro 1 0 up.length) a wait i row (k : Int) h
  | 0, k, hd, marks, t, wait, hb, h, B, M, g, hmono, hdone => by
    unfold s59l3
    rw [hrow.len]
    refine ifT_neg (by simp; omega) (rg_of (by omega) (by omega) (hL marks t wait hb h B M g hmono ?_))
    rwa [List.take_of_length_le (by omega)] at hdone
  | d + 1, k, hd, marks, t, wait, hb, h, B, M, g, hmono, hdone => by
    have hk : k < r.length := by omega
    unfold s59l3
    rw [hrow.len]
    refine ifT_pos (by simp; omega) ?_
    rw [hrow.ix hk, ld1_lptr, tInt_int]
    have key : s59c5 K L1 L2 (s59l3_G (s59l3 K L1 L2 (d + 1))) m up.length (.sl ro 1 0 up.length) a wait i row k r[k] (decide (r[k] < 0) || decide ((up.length : Int) ≤ r[k])) h := by
      by_cases hbad : r[k] < 0 ∨ (up.length : Int) ≤ r[k]
      · refine ifT_pos (by simpa using hbad) (retG_drop (fun q o hq => g.old (M.old hq)) (bad fun hI => ?_))
        have := hI r (List.mem_of_getElem? hx) r[k] (List.getElem_mem hk)
        omega
      · refine ifT_neg (by simpa using hbad) ?_
        obtain ⟨b, hbk⟩ : ∃ b : Nat, r[k] = (b : Int) := ⟨r[k].toNat, by omega⟩
        have hbn : b < up.length := by omega
        rw [hbk]
        have hbm : b < marks.length := by rw [B.len]; exact hbn
        refine ixS_sl0 han ?_
        rw [ld1_ptr (g.old M.get_o) M.at_ rfl]
        refine ixS_sl0 hbn ?_
        rw [ld1_ptr (g.old M.get_a) (e := .bool marks[b]) (by simp [hbm]) rfl, tBool_bool]
        have hstep : Reach up a b := .tail hax ⟨r, hx, by rw [← hbk]; exact List.getElem_mem hk⟩
        have next : ∀ marks' t' wait' hb' h', BF up a marks' (W ++ t') → OM h0 ro ra a up.length R marks' hb' → Grow 1 hb' wait' (natV (W ++ t')) h' → (∀ y : Nat, marks[y]? = some true → marks'[y]? = some true) → marks'[b]? = some true →
            s59c4 K L1 L2 (s59l3_G (s59l3 K L1 L2 (d + 1))) m up.length (.sl ro 1 0 up.length) a wait' i row k h' := by
          intro marks' t' wait' hb' h' B' M' g' hm' hmb
          refine rg_of (by omega) (by omega) (s59l3_go (order_l3 hn bad hrow hr hx hax han hi hL d (k + 1) (by omega) marks' t' wait' hb' h' B' M' g' (fun y hy => hm' y (hmono y hy)) ?_))
          rw [List.take_succ_eq_append_getElem hk]
          intro c hc
          rcases List.mem_append.1 hc with hc | hc
          · obtain ⟨h1, h2, h3⟩ := hdone c hc
            exact ⟨h1, h2, hm' _ h3⟩
          · rw [List.mem_singleton.1 hc, hbk]
            exact ⟨by omega, by omega, by simpa using hmb⟩
        cases hmk : marks[b] with
        | true => exact ifT_neg rfl (next marks t wait hb h B M g (fun _ hy => hy) (by rw [List.getElem?_eq_getElem hbm, hmk]))
        | false =>
          refine ifT_pos rfl (ixS_sl0 han ?_)
          rw [ld1_ptr (g.old M.get_o) M.at_ rfl]
          refine ixS_sl0 hbn (st_elem (g.old M.get_a) (e := .bool marks[b]) (by simp [hbm]) rfl ?_)
          have hset : (marks.map AVal.bool).set b (.bool true) = (marks.set b true).map .bool := by rw [List.map_set]
          rw [hset]
          have B' := B.add (b := b) (by rw [List.getElem?_eq_getElem hbm, hmk]) hstep
          have g' := g.upd (x := .row 1 ((marks.set b true).map .bool)) M.get_a
          have hcnt := B'.cnt
          rw [List.append_assoc] at B' hcnt
          have hlen : (W ++ t).length + 1 ≤ up.length := by simp only [List.length_append, List.length_singleton] at hcnt ⊢; omega
          refine appC_one g' (by rw [natV_len]; omega) (by rw [natV_len]; omega) fun v' h' g2 => ?_
          rw [← natV_app, List.append_assoc] at g2
          refine next _ (t ++ [b]) v' _ h' B' M.put g2 (fun y hy => ?_) (by simp [hbm])
          rw [List.getElem?_set]
          by_cases e : b = y
          · subst e; simp [hbm]
          · rw [if_neg e]; exact hy
    by_cases h0' : r[k] < 0
    · refine ifT_pos (by simpa using h0') ?_
      rwa [show (decide (r[k] < 0) || decide ((up.length : Int) ≤ r[k])) = true by simp [h0']] at key
    · refine ifT_neg (by simpa using h0') ?_
      rwa [show (decide (r[k] < 0) || decide ((up.length : Int) ≤ r[k])) = decide ((up.length : Int) ≤ r[k]) by simp [h0']] at key

theorem order_l2 (hn : up.length ≤ 1073741824) (hrl : ∀ r ∈ up, r.length ≤ 1073741824) (bad : ¬ InR up → K (.tuple [.nilsl, .bool false]) h0)
    {L1 : AVal → Int → AVal → Int → Heap → Prop} {mU mV : AVal} (hU : Intss mU up) (han : a < up.length)
    (hL : ∀ wait hb h marks W, OM h0 ro ra a up.length R (rowB up a) hb → Grow 1 hb wait (natV W) h → marks = rowB up a → (∀ b ∈ up[a], 0 ≤ b ∧ b < up.length) → L1 (.lptr [mU, mV]) up.length (.sl ro 1 0 up.length) (a + 1) h) :
    ∀ d i : Nat, i + d = up.length → ∀ marks W wait hb h, W.length ≤ i + d → i ≤ W.length → W[0]? = some a → BF up a marks W → OM h0 ro ra a up.length R marks hb → Grow 1 hb wait (natV W) h →
      (∀ j y r, j < i → W[j]? = some y → up[y]? = some r → ∀ b ∈ r, 0 ≤ b ∧ b < up.length ∧ marks[b.toNat]? = some true) →
      s59l2 K L1 (d + 1) (.lptr [mU, mV]) up.length (.sl ro 1 0 up.length) a wait (i : Int) h := by
  intro d
  induction d with
  | zero =>
    intro i hd marks W wait hb h hWi hiW h0W B M g hcl
    unfold s59l2
    rw [g.len, natV_len]
    refine ifT_neg (by simp; omega) (rg_of (by omega) (by omega) ?_)
    have hW : W.length = i := by omega
    have hm := B.done (List.mem_of_getElem? h0W) fun y hy c ⟨r, hr, hc⟩ => by
      obtain ⟨j, hj, hjy⟩ := List.mem_iff_getElem.1 hy
      have := (hcl j y r (by omega) (by rw [← hjy]; exact List.getElem?_eq_getElem hj) hr _ hc).2.2
      simpa using this
    rw [hm] at M
    exact hL wait hb h marks W M g hm fun b hb => by
      have h1 := hcl 0 a _ (by have := (List.getElem?_eq_some_iff.1 h0W).1; omega) h0W (List.getElem?_eq_getElem han) b hb
      exact ⟨h1.1, h1.2.1⟩
  | succ d ih =>
    intro i hd marks W wait hb h hWi hiW h0W B M g hcl
    unfold s59l2
    rw [g.len, natV_len]
    by_cases hlt : i < W.length
    · refine ifT_pos (by simp; omega) ?_
      rw [addOff_lptr]
      simp only [List.drop_zero, ld1_lptr]
      have hWx : W[i]? = some W[i] := List.getElem?_eq_getElem hlt
      obtain ⟨hxn, hxr⟩ := B.reach _ (List.getElem_mem hlt)
      refine g.ix (natV_get hWx) rfl ?_
      rw [tInt_int]
      obtain ⟨e, he, hix⟩ := hU.ix hxn
      rw [hix, ld1_lptr]
      have hup : up[W[i]]? = some up[W[i]] := List.getElem?_eq_getElem hxn
      refine s59l3_in (up[W[i]].length + 1) ?_
      have hWn : W.length ≤ up.length := by have := B.cnt; omega
      refine order_l3 (W := W) (marks0 := marks) hn bad he (hrl _ (List.getElem_mem hxn)) hup hxr han (by omega) (fun marks' t wait' hb' h' B' M' g' hmono hr' => ?_) _ 0 (by omega) marks [] wait hb h (by simpa using B) M (by simpa using g) (fun _ hy => hy) (by simp)
      refine s59l2_go ?_
      have hcnt := B'.cnt
      rw [show (i : Int) + 1 = ((i + 1 : Nat) : Int) by omega]
      refine ih (i + 1) (by omega) marks' (W ++ t) wait' hb' h' (by omega) (by simp; omega) ?_ B' M' g' ?_
      · rw [List.getElem?_append_left (by omega)]; exact h0W
      · intro j y r hj hy hr b hb
        rw [List.getElem?_append_left (by omega)] at hy
        by_cases hji : j = i
        · subst hji
          rw [hWx] at hy
          cases hy
          rw [hup] at hr
          cases hr
          exact hr' b hb
        · obtain ⟨h1, h2, h3⟩ := hcl j y r (by omega) hy hr b hb
          exact ⟨h1, h2, hmono _ h3⟩
    · refine ifT_neg (by simp; omega) (rg_of (by omega) (by omega) ?_)
      have hm := B.done (List.mem_of_getElem? h0W) fun y hy c ⟨r, hr, hc⟩ => by
        obtain ⟨j, hj, hjy⟩ := List.mem_iff_getElem.1 hy
        have := (hcl j y r (by omega) (by rw [← hjy]; exact List.getElem?_eq_getElem hj) hr _ hc).2.2
        simpa using this
      rw [hm] at M
      exact hL wait hb h marks W M g hm fun b hb => by
        have h1 := hcl 0 a _ (by have := (List.getElem?_eq_some_iff.1 h0W).1; omega) h0W (List.getElem?_eq_getElem han) b hb
        exact ⟨h1.1, h1.2.1⟩

structure TU (up : List (List Int)) (a : Nat) (R : List AVal) : Prop where
  len : R.length = up.length
  done : ∀ a', a' < a → ∃ e, R[a']? = some e ∧ e.isAgg = false ∧ SlOf 1 e ((rowB up a').map .bool)
  rest : ∀ a', a' < up.length → ∃ e, R[a']? = some e ∧ e.isAgg = false

theorem order_l1 (hn : up.length ≤ 1073741824) (hrl : ∀ r ∈ up, r.length ≤ 1073741824) (bad : ¬ InR up → K (.tuple [.nilsl, .bool false]) h0) (good : InR up → ∀ o, OTab o up → K (.tuple [o, .bool true]) h0)
    {mU mV : AVal} (hU : Intss mU up) (ho : h0 ro = none) : ∀ d a : Nat, a + d = up.length → ∀ R, TU up a R → (∀ a' r, a' < a → up[a']? = some r → ∀ b ∈ r, 0 ≤ b ∧ b < up.length) →
      s59l1 K (d + 1) (.lptr [mU, mV]) up.length (.sl ro 1 0 up.length) (a : Int) (h0.set ro (.row 1 R))
  | 0, a, hd, R, T, hr => by
    unfold s59l1
    refine ifT_neg (by simp; omega) ?_
    refine ⟨fun q => q = ro, .tuple [.lsl 1 R, .bool true], h0, .tuple (.cons (.whole rfl (Heap.set_same _ _ _) T.len.symm) (.cons (.refl _) .nil)), ⟨fun _ _ => trivial, fun q o hq => ⟨o, Heap.set_sub ho q o hq, (fun e => by rw [e, ho] at hq; cases hq), .refl o⟩⟩, ?_⟩
    refine good (fun r hrm b hb => ?_) _ ⟨R, .lsl 1 R, T.len, fun a' ha' => T.done a' (by omega)⟩
    obtain ⟨j, hj, rfl⟩ := List.mem_iff_getElem.1 hrm
    exact hr j _ (by omega) (List.getElem?_eq_getElem hj) b hb
  | d + 1, a, hd, R, T, hr => by
    have han : a < up.length := by omega
    unfold s59l1
    refine ifT_pos (by simp; omega) (mkS_own (by omega) (by omega) fun ra hra => ?_)
    have hne : ra ≠ ro := fun e => by rw [e, Heap.set_same] at hra; cases hra
    have ha0 : h0 ra = none := by rwa [Heap.set_ne _ _ hne] at hra
    obtain ⟨e0, he0, hagg0⟩ := T.rest a han
    refine ixS_sl0 han (chk_iff.2 ⟨rfl, ?_⟩)
    refine st_elem (es := 1) (elems := R) (by rw [Heap.set_ne _ _ hne.symm, Heap.set_same]) he0 hagg0 ?_
    refine ixS_sl0 han ?_
    have hRa : (R.set a (.sl ra 1 0 up.length))[a]? = some (.sl ra 1 0 up.length) := by rw [List.getElem?_set_self]; rw [T.len]; exact han
    rw [ld1_ptr (Heap.set_same _ _ _) hRa rfl]
    refine ixS_sl0 han (st_elem (es := 1) (elems := List.replicate up.length (.bool false)) (e := .bool false) (by rw [Heap.set_ne _ _ hne, Heap.set_same]) (by simp [han]) rfl ?_)
    have hmarks : (List.replicate up.length (AVal.bool false)).set a (.bool true) = ((List.replicate up.length false).set a true).map .bool := by rw [List.map_set, List.map_replicate]
    rw [hmarks]
    refine newRow_in fun r hrn => ?_
    have M : OM h0 ro ra a up.length (R.set a (.sl ra 1 0 up.length)) ((List.replicate up.length false).set a true)
        ((((h0.set ro (.row 1 R)).set ra (.row 1 (List.replicate up.length (.bool false)))).set ro (.row 1 (R.set a (.sl ra 1 0 up.length)))).set ra (.row 1 (((List.replicate up.length false).set a true).map .bool))) := by
      refine ⟨ho, ha0, hne, ?_, hRa, by simp [T.len]⟩
      funext q
      by_cases h1 : q = ra
      · simp [Heap.set, h1]
      · by_cases h2 : q = ro
        · subst h2; simp [Heap.set, h1]
        · simp [Heap.set, h1, h2]
    refine s59l2_in (up.length + 1) ?_
    refine order_l2 (ra := ra) (R := R.set a (.sl ra 1 0 up.length)) hn hrl bad hU han (fun wait hb h marks W M' g hm hra' => ?_) up.length 0 (by omega) _ [a] _ _ _ (by simp; omega) (by simp) rfl (BF.start han) M (Grow.own (l := natV [a]) hrn) (by intro j y r hj; omega)
    refine ⟨fun q => q = ra, _, h0.set ro (.row 1 ((R.set a (.sl ra 1 0 up.length)).set a (.lsl 1 ((rowB up a).map .bool)))), Lits.refl _, GStep.row (g.old M'.get_o) hne ha0 (fun q o hq => g.old (M'.old hq)) hRa
      (.whole rfl (g.old M'.get_a) (by simp [rowB])), rfl, ?_⟩
    rw [List.set_set]
    have := order_l1 (mV := mV) hn hrl bad good hU ho d (a + 1) (by omega) (R.set a (.lsl 1 ((rowB up a).map .bool))) ⟨by simp [T.len], fun a' ha' => ?_, fun a' ha' => ?_⟩ (fun a' r ha' hr' => ?_)
    · exact this
    · by_cases e : a' = a
      · subst e
        exact ⟨_, List.getElem?_set_self (by rw [T.len]; exact han), rfl, .lsl 1 _⟩
      · rw [List.getElem?_set_ne (Ne.symm e)]
        exact T.done a' (by omega)
    · by_cases e : a' = a
      · subst e
        exact ⟨_, List.getElem?_set_self (by rw [T.len]; exact han), rfl⟩
      · rw [List.getElem?_set_ne (Ne.symm e)]
        exact T.rest a' ha'
    · by_cases e : a' = a
      · subst e
        rw [List.getElem?_eq_getElem han] at hr'
        cases hr'
        exact hra'
      · exact hr a' r (by omega) hr'

theorem order_ok {mU mV : AVal} {h : Heap} (hn : up.length ≤ 1048576) (hrl : ∀ r ∈ up, r.length ≤ 1073741824) (hU : Intss mU up) (bad : ¬ InR up → K (.tuple [.nilsl, .bool false]) h) (good : InR up → ∀ o, OTab o up → K (.tuple [o, .bool true]) h) :
    ACalls prog 59 [.agg [mU, mV]] h K := by
  refine s59_ok ?_
  unfold s59
  rw [hU.len]
  refine mkS_own (by omega) (by omega) fun ro hro => s59l1_in (up.length + 1) ?_
  exact order_l1 (by omega) hrl bad good hU hro up.length 0 (by omega) _ ⟨by simp, by intro a' ha'; omega, fun a' ha' => ⟨.nilsl, by simp [ha'], rfl⟩⟩ (by intro a' r ha'; omega)
end
end Go.Proofs.Ytinficcdpggiaaa

namespace Go.Proofs.Ytinficcdpggiaaa
open Go Go.Sym Go.Proofs.Try

variable {K : AVal → Heap → Prop} {h : Heap} {up : List (List Int)} {val : List (List ByteArray)} {mU mV : AVal}

/-- what is asked of a world and one above it -/
def Cond (up : List (List Int)) (val : List (List ByteArray)) (a b : Nat) : Prop := Reach up a b → a ≠ b → ¬ Reach up b a ∧ ∀ s ∈ val.getD a [], s ∈ val.getD b []
/-- a well-formed model -/
structure WF (up : List (List Int)) (val : List (List ByteArray)) : Prop where
  pos : 1 ≤ up.length
  max : up.length ≤ 512
  len : val.length = up.length
  inR : InR up
  fine : ∀ l ∈ val, fineB l = true
  cond : ∀ a b, a < up.length → b < up.length → Cond up val a b
/-- nothing is longer than a machine bears -/
structure Small (up : List (List Int)) (val : List (List ByteArray)) : Prop where
  ups : up.length ≤ 1048576
  vals : val.length ≤ 1048576
  row : ∀ r ∈ up, r.length ≤ 1048576
  names : ∀ l ∈ val, SB l ∧ l.length ≤ 1048576

theorem getD_val {a : Nat} (ha : a < val.length) : val.getD a [] = val[a] := by simp [List.getD, ha]

theorem right_l7 (S : Small up val) (hU : Intss mU up) (hV : Strss mV val) {o : AVal} {a b : Nat} (ha : a < val.length) (hb : b < val.length) (hn : up.length ≤ 512)
    {L3 : AVal → Int → AVal → Int → Heap → Prop} {L4 : AVal → Int → AVal → Int → Int → Heap → Prop}
    (bad : ¬ (∀ s ∈ val[a], s ∈ val[b]) → K (.tuple [.nilsl, .bool false]) h) (hL : (∀ s ∈ val[a], s ∈ val[b]) → s31c5 K L3 L4 (.lptr [mU, mV]) up.length o a b h) :
    ∀ d k : Nat, k + d = val[a].length → (∀ s ∈ val[a].take k, s ∈ val[b]) → s31l7 K L3 L4 (d + 1) (.lptr [mU, mV]) up.length o a b (k : Int) h := by
  intro d
  have hSa := (S.names _ (List.getElem_mem ha)).1
  have hSb := (S.names _ (List.getElem_mem hb)).1
  obtain ⟨ea, hea, hixa⟩ := hV.ix ha
  obtain ⟨eb, heb, hixb⟩ := hV.ix hb
  induction d with
  | zero =>
    intro k hd hk
    unfold s31l7
    simp only [addOff_lptr, List.drop_succ_cons, List.drop_zero, ld1_lptr, hixa, hea.len]
    refine ifT_neg (by simp; omega) (hL ?_)
    rwa [List.take_of_length_le (by omega)] at hk
  | succ d ih =>
    intro k hd hk
    have hlt : k < val[a].length := by omega
    unfold s31l7
    simp only [addOff_lptr, List.drop_succ_cons, List.drop_zero, ld1_lptr, hixa, hixb, hea.len, hea.ix hlt, tStr_str]
    refine ifT_pos (by simp; omega) (callG_of (has17_ok heb hSb.1 ?_))
    rw [tBool_bool]
    have hla := hSa.1
    cases hin : inS val[b] val[a][k] with
    | true =>
      refine ifT_neg rfl (rg_of (by omega) (by omega) (s31l7_go (ih (k + 1) (by omega) ?_)))
      rw [List.take_succ_eq_append_getElem hlt]
      intro s hs
      rcases List.mem_append.1 hs with hs | hs
      · exact hk s hs
      · rw [List.mem_singleton.1 hs]; exact inS_iff.1 hin
    | false =>
      refine ifT_pos rfl (retG_of (bad fun hall => ?_))
      have := inS_iff.2 (hall _ (List.getElem_mem hlt))
      rw [hin] at this
      cases this

theorem right_l4 (S : Small up val) (hU : Intss mU up) (hV : Strss mV val) {o : AVal} (hO : OTab o up) (hl : val.length = up.length) (hn : up.length ≤ 512) {a : Nat} (ha : a < up.length)
    (bad : ¬ WF up val → K (.tuple [.nilsl, .bool false]) h) {L3 : AVal → Int → AVal → Int → Heap → Prop} (hL : (∀ b, b < up.length → Cond up val a b) → L3 (.lptr [mU, mV]) up.length o (a + 1) h) :
    ∀ d b : Nat, b + d = up.length → (∀ b', b' < b → Cond up val a b') → s31l4 K L3 (d + 1) (.lptr [mU, mV]) up.length o a (b : Int) h := by
  intro d
  induction d with
  | zero =>
    intro b hd hk
    unfold s31l4
    exact ifT_neg (by simp; omega) (rg_of (by omega) (by omega) (hL fun b' hb' => hk b' (by omega)))
  | succ d ih =>
    intro b hd hk
    have hb : b < up.length := by omega
    obtain ⟨ea, hrow, _, hixa⟩ := hO.row (h' := h) ha
    obtain ⟨eb, hrowb, _, hixb⟩ := hO.row (h' := h) hb
    have next : Cond up val a b → s31c5 K L3 (s31l4_G (s31l4 K L3 (d + 1))) (.lptr [mU, mV]) up.length o a b h := by
      intro hc
      refine rg_of (by omega) (by omega) (s31l4_go (ih (b + 1) (by omega) fun b' hb' => ?_))
      by_cases e : b' = b
      · rw [e]; exact hc
      · exact hk b' (by omega)
    unfold s31l4
    refine ifT_pos (by simp; omega) ?_
    rw [hrow, hixa b hb, tBool_bool]
    cases hr : rb up a b with
    | false =>
      refine ifT_pos rfl (ifT_pos rfl (next fun hR => ?_))
      rw [rb_iff.2 hR] at hr; cases hr
    | true =>
      refine ifT_neg rfl ?_
      by_cases hab : a = b
      · refine ifT_pos (by simp [hab]) (next fun _ hne => absurd hab hne)
      · refine ifT_neg (by simp; omega) ?_
        rw [hrowb, hixb a ha, tBool_bool]
        cases hr2 : rb up b a with
        | true =>
          refine ifT_pos rfl (retG_of (bad fun W => ?_))
          exact (W.cond a b ha hb (rb_iff.1 hr) hab).1 (rb_iff.1 hr2)
        | false =>
          refine ifT_neg rfl (s31l7_in (val[a].length + 1) ?_)
          have hgo : (∀ s ∈ val[a], s ∈ val[b]) → Cond up val a b := fun hall _ _ => ⟨(fun e => by rw [rb_iff.2 e] at hr2; cases hr2), by rw [getD_val, getD_val]; exact hall⟩
          refine right_l7 S hU hV (by omega) (by omega) hn (fun hno => bad fun W => hno ?_) (fun hall => next (hgo hall)) _ 0 (by omega) (by simp)
          have := (W.cond a b ha hb (rb_iff.1 hr) hab).2
          rwa [getD_val, getD_val] at this

theorem right_l3 (S : Small up val) (hU : Intss mU up) (hV : Strss mV val) {o : AVal} (hO : OTab o up) (hl : val.length = up.length) (hn : up.length ≤ 512)
    (bad : ¬ WF up val → K (.tuple [.nilsl, .bool false]) h) (good : (∀ a b, a < up.length → b < up.length → Cond up val a b) → K (.tuple [o, .bool true]) h) :
    ∀ d a : Nat, a + d = up.length → (∀ a' b, a' < a → b < up.length → Cond up val a' b) → s31l3 K (d + 1) (.lptr [mU, mV]) up.length o (a : Int) h := by
  intro d
  induction d with
  | zero =>
    intro a hd hk
    unfold s31l3
    exact ifT_neg (by simp; omega) (retG_of (good fun a' b ha' hb' => hk a' b (by omega) hb'))
  | succ d ih =>
    intro a hd hk
    unfold s31l3
    refine ifT_pos (by simp; omega) (s31l4_in (up.length + 1) ?_)
    refine right_l4 S hU hV hO hl hn (by omega) bad (fun hc => s31l3_go (ih (a + 1) (by omega) fun a' b ha' hb' => ?_)) up.length 0 (by omega) (by intro b' hb'; omega)
    by_cases e : a' = a
    · rw [e]; exact hc b hb'
    · exact hk a' b (by omega) hb'

theorem right_l2 (S : Small up val) (hU : Intss mU up) (hV : Strss mV val) {o : AVal} (hO : OTab o up) (hl : val.length = up.length) (hn : up.length ≤ 512)
    (bad : ¬ WF up val → K (.tuple [.nilsl, .bool false]) h) (good : (∀ l ∈ val, fineB l = true) → (∀ a b, a < up.length → b < up.length → Cond up val a b) → K (.tuple [o, .bool true]) h) :
    ∀ d a : Nat, a + d = up.length → (∀ l ∈ val.take a, fineB l = true) → s31l2 K (d + 1) (.lptr [mU, mV]) up.length o (a : Int) h := by
  intro d
  induction d with
  | zero =>
    intro a hd hk
    unfold s31l2
    rw [List.take_of_length_le (by omega)] at hk
    refine ifT_neg (by simp; omega) (s31l3_in (up.length + 1) (right_l3 S hU hV hO hl hn bad (good hk) up.length 0 (by omega) (by intro a' b ha'; omega)))
  | succ d ih =>
    intro a hd hk
    have ha : a < val.length := by omega
    obtain ⟨ea, hea, hixa⟩ := hV.ix ha
    unfold s31l2
    refine ifT_pos (by simp; omega) ?_
    simp only [addOff_lptr, List.drop_succ_cons, List.drop_zero, ld1_lptr, hixa]
    refine callG_of (fine_ok hea (S.names _ (List.getElem_mem ha)).1 ?_)
    rw [tBool_bool]
    cases hf : fineB val[a] with
    | false =>
      refine ifT_pos rfl (retG_of (bad fun W => ?_))
      have := W.fine _ (List.getElem_mem ha)
      rw [hf] at this; cases this
    | true =>
      refine ifT_neg rfl (rg_of (by omega) (by omega) (s31l2_go (ih (a + 1) (by omega) ?_)))
      rw [List.take_succ_eq_append_getElem ha]
      intro l hl'
      rcases List.mem_append.1 hl' with hl' | hl'
      · exact hk l hl'
      · rw [List.mem_singleton.1 hl']; exact hf

theorem right_ok (S : Small up val) (hU : Intss mU up) (hV : Strss mV val) (bad : ¬ WF up val → K (.tuple [.nilsl, .bool false]) h) (good : WF up val → ∀ o, OTab o up → K (.tuple [o, .bool true]) h) :
    ACalls prog 31 [.agg [mU, mV]] h K := by
  refine s31_ok ?_
  have hup := S.ups
  unfold s31
  rw [hU.len]
  by_cases h1 : up.length < 1
  · exact ifT_pos (by simp; omega) (ifT_pos rfl (retG_of (bad fun W => by have := W.pos; omega)))
  · refine ifT_neg (by simp; omega) ?_
    by_cases h2 : 512 < up.length
    · exact ifT_pos (by simp; omega) (ifT_pos rfl (retG_of (bad fun W => by have := W.max; omega)))
    · refine ifT_neg (by simp; omega) ?_
      rw [hV.len]
      by_cases h3 : val.length = up.length
      · refine ifT_neg (by simp [h3]) ?_
        rw [ldN_agg2, tCons_cons, tCons_cons, tNil_nil]
        refine callG_of (order_ok hup (fun r hr => by have := S.row r hr; omega) hU (fun hI => ?_) fun hI o hO => ?_)
        · simp only [tTup_tuple, tCons_cons, tBool_bool, tNil_nil]
          exact ifT_pos rfl (retG_of (bad fun W => hI W.inR))
        · simp only [tTup_tuple, tCons_cons, tBool_bool, tNil_nil]
          refine ifT_neg rfl (s31l2_in (up.length + 1) (right_l2 S hU hV hO h3 (by omega) bad (fun hf hc => good ⟨by omega, by omega, h3, hI, hf, hc⟩ o hO) up.length 0 (by omega) (by simp)))
      · exact ifT_pos (by simp; omega) (retG_of (bad fun W => h3 W.len))

theorem check17_ok (S : Small up val) (hU : Intss mU up) (hV : Strss mV val) (bad : ¬ WF up val → K (.int .i64 170) h) (good : WF up val → K (.int .i64 0) h) : ACalls prog 47 [.agg [mU, mV]] h K := by
  refine s47_ok (callG_of (right_ok S hU hV (fun hW => ?_) fun hW o hO => ?_))
  · simp only [tTup_tuple, tCons_cons, tBool_bool, tNil_nil]
    exact ifT_pos rfl (retG_of (bad hW))
  · simp only [tTup_tuple, tCons_cons, tBool_bool, tNil_nil]
    exact ifT_neg rfl (retG_of (good hW))
end Go.Proofs.Ytinficcdpggiaaa

namespace Go.Proofs.Ytinficcdpggiaaa
open Go Go.Sym Go.Proofs.Try

variable {K : AVal → Heap → Prop}

/-- the function value that tells the order -/
def LeqF (f : AVal) (up : List (List Int)) : Prop := ∃ o, f = .func (.func 90) [] [.lptr [o]] ∧ OTab o up
theorem leq_call {f : AVal} {up : List (List Int)} {h : Heap} (hf : LeqF f up) {a b : Nat} (ha : a < up.length) (hb : b < up.length) (hk : K (.bool (rb up a b)) h) : callV prog f [.int .i64 a, .int .i64 b] h K := by
  obtain ⟨o, rfl, hO⟩ := hf
  show callG prog 90 ([] ++ [.int .i64 a, .int .i64 b] ++ [.lptr [o]]) h K
  refine callG_of (s90_ok ?_)
  unfold s90
  obtain ⟨e, hrow, _, hix⟩ := hO.row (h' := h) ha
  rw [ld1_lptr, hrow, hix b hb, tBool_bool]
  exact retG_of hk

theorem BF.perm {up : List (List Int)} {a : Nat} {marks : List Bool} {W W' : List Nat} (B : BF up a marks W) (hl : W'.length = W.length) (hm : ∀ x, x ∈ W' ↔ x ∈ W) : BF up a marks W' :=
  ⟨B.len, by rw [hl]; exact B.cnt, fun x hx => B.reach x ((hm x).1 hx), fun x => (B.mkd x).trans (hm x).symm⟩

section
variable {h0 h00 : Heap} {up : List (List Int)} {ro ra a : Nat} {R : List AVal}

theorem reckon_l3 (hn : up.length ≤ 1073741824) (bad : ¬ InR up → K (.tuple [.nilfunc, .bool false]) h00) (hsub : ∀ q o, h00 q = some o → h0 q = some o)
    {L1 : AVal → Int → AVal → Int → Int → Heap → Prop} {L2 : AVal → Int → AVal → AVal → AVal → Int → Int → Heap → Prop} {m row abv : AVal} {r : List Int} {x : Nat} {t18 t19 : Int} (hrow : Ints row r) (hr : r.length ≤ 1073741824)
    (hx : up[x]? = some r) (hax : Reach up a x) {marks0 : List Bool} {D : List Nat}
    (hL : ∀ marks S st hb h, BF up a marks (D ++ S) → OM h0 ro ra a up.length R marks hb → Stk 1 hb st (natV S) h → (∀ y : Nat, marks0[y]? = some true → marks[y]? = some true) →
      (∀ b ∈ r, 0 ≤ b ∧ b < up.length ∧ marks[b.toNat]? = some true) → L2 m up.length abv (.sl ra 1 0 up.length) st t18 t19 h) :
    ∀ d k : Nat, k + d = r.length → ∀ marks S st hb h, BF up a marks (D ++ S) → OM h0 ro ra a up.length R marks hb → Stk 1 hb st (natV S) h → (∀ y : Nat, marks0[y]? = some true → marks[y]? = some true) →
      (∀ b ∈ r.take k, 0 ≤ b ∧ b < up.length ∧ marks[b.toNat]? = some true) → s87l3 K L1 L2 (d + 1) m up.length abv (.sl ra 1 0 up.length) st t18 t19 row r.length (k : Int) h
  | 0, k, hd, marks, S, st, hb, h, B, M, g, hmono, hdone => by
    unfold s87l3
    refine ifT_neg (by simp; omega) (hL marks S st hb h B M g hmono ?_)
    rwa [List.take_of_length_le (by omega)] at hdone
  | d + 1, k, hd, marks, S, st, hb, h, B, M, g, hmono, hdone => by
    have hk : k < r.length := by omega
    unfold s87l3
    refine ifT_pos (by simp; omega) ?_
    rw [hrow.ix hk, ld1_lptr, tInt_int]
    have key : s87c5 K L1 L2 (s87l3_G (s87l3 K L1 L2 (d + 1))) m up.length abv (.sl ra 1 0 up.length) st r[k] t18 t19 row r.length k (decide (r[k] < 0) || decide ((up.length : Int) ≤ r[k])) h := by
      by_cases hbad : r[k] < 0 ∨ (up.length : Int) ≤ r[k]
      · refine ifT_pos (by simpa using hbad) (retG_drop (fun q o hq => g.old (M.old (hsub q o hq))) (bad fun hI => ?_))
        have := hI r (List.mem_of_getElem? hx) r[k] (List.getElem_mem hk)
        omega
      · refine ifT_neg (by simpa using hbad) ?_
        obtain ⟨b, hbk⟩ : ∃ b : Nat, r[k] = (b : Int) := ⟨r[k].toNat, by omega⟩
        have hbn : b < up.length := by omega
        rw [hbk]
        have hbm : b < marks.length := by rw [B.len]; exact hbn
        refine ixS_sl0 hbn ?_
        rw [ld1_ptr (g.old M.get_a) (e := .bool marks[b]) (by simp [hbm]) rfl, tBool_bool]
        have hstep : Reach up a b := .tail hax ⟨r, hx, by rw [← hbk]; exact List.getElem_mem hk⟩
        have next : ∀ marks' S' st' hb' h', BF up a marks' (D ++ S') → OM h0 ro ra a up.length R marks' hb' → Stk 1 hb' st' (natV S') h' → (∀ y : Nat, marks[y]? = some true → marks'[y]? = some true) → marks'[b]? = some true →
            s87c4 K L1 L2 (s87l3_G (s87l3 K L1 L2 (d + 1))) m up.length abv (.sl ra 1 0 up.length) st' t18 t19 row r.length k h' := by
          intro marks' S' st' hb' h' B' M' g' hm' hmb
          refine rg_of (by omega) (by omega) (s87l3_go (reckon_l3 hn bad hsub hrow hr hx hax hL d (k + 1) (by omega) marks' S' st' hb' h' B' M' g' (fun y hy => hm' y (hmono y hy)) ?_))
          rw [List.take_succ_eq_append_getElem hk]
          intro c hc
          rcases List.mem_append.1 hc with hc | hc
          · obtain ⟨h1, h2, h3⟩ := hdone c hc
            exact ⟨h1, h2, hm' _ h3⟩
          · rw [List.mem_singleton.1 hc, hbk]
            exact ⟨by omega, by omega, by simpa using hmb⟩
        cases hmk : marks[b] with
        | true => exact ifT_neg rfl (next marks S st hb h B M g (fun _ hy => hy) (by rw [List.getElem?_eq_getElem hbm, hmk]))
        | false =>
          refine ifT_pos rfl (ixS_sl0 hbn (st_elem (g.old M.get_a) (e := .bool marks[b]) (by simp [hbm]) rfl ?_))
          rw [show (marks.map AVal.bool).set b (.bool true) = (marks.set b true).map .bool by rw [List.map_set]]
          have B' := B.add (b := b) (by rw [List.getElem?_eq_getElem hbm, hmk]) hstep
          have g' := g.upd (x := .row 1 ((marks.set b true).map .bool)) M.get_a
          have hcnt := B'.cnt
          rw [List.append_assoc] at B' hcnt
          have hlen : (D ++ S).length + 1 ≤ up.length := by simp only [List.length_append, List.length_singleton] at hcnt ⊢; omega
          have hlen2 : S.length + 1 ≤ up.length := by simp only [List.length_append] at hlen; omega
          refine appC_stk g' (by rw [natV_len]; omega) (by rw [natV_len]; omega) fun v' h' g2 => ?_
          rw [← natV_app] at g2
          refine next _ (S ++ [b]) v' _ h' B' M.put g2 (fun y hy => ?_) (by simp [hbm])
          rw [List.getElem?_set]
          by_cases e : b = y
          · subst e; simp [hbm]
          · rw [if_neg e]; exact hy
    by_cases h0' : r[k] < 0
    · refine ifT_pos (by simpa using h0') ?_
      rwa [show (decide (r[k] < 0) || decide ((up.length : Int) ≤ r[k])) = true by simp [h0']] at key
    · refine ifT_neg (by simpa using h0') ?_
      rwa [show (decide (r[k] < 0) || decide ((up.length : Int) ≤ r[k])) = decide ((up.length : Int) ≤ r[k]) by simp [h0']] at key

theorem reckon_l2 (hn : up.length ≤ 1073741824) (hrl : ∀ r ∈ up, r.length ≤ 1073741824) (bad : ¬ InR up → K (.tuple [.nilfunc, .bool false]) h00) (hsub : ∀ q o, h00 q = some o → h0 q = some o)
    {L1 : AVal → Int → AVal → Int → Int → Heap → Prop} {mU mV abv : AVal} {t18 : Int} (hU : Intss mU up) (han : a < up.length)
    (hL : ∀ st hb h, OM h0 ro ra a up.length R (rowB up a) hb → Stk 1 hb st [] h → (∀ b ∈ up[a], 0 ≤ b ∧ b < up.length) → L1 (.lptr [mU, mV]) up.length abv t18 (a + 1) h) :
    ∀ d : Nat, ∀ marks D S st hb h, D.length + d = up.length → (a ∈ D ++ S) → BF up a marks (D ++ S) → OM h0 ro ra a up.length R marks hb → Stk 1 hb st (natV S) h →
      (∀ y ∈ D, ∀ r, up[y]? = some r → ∀ b ∈ r, 0 ≤ b ∧ b < up.length ∧ marks[b.toNat]? = some true) →
      s87l2 K L1 (d + 1) (.lptr [mU, mV]) up.length abv (.sl ra 1 0 up.length) st t18 (a : Int) h := by
  intro d
  have fin : ∀ marks D st hb h d, a ∈ D → BF up a marks D → OM h0 ro ra a up.length R marks hb → Stk 1 hb st (natV []) h →
      (∀ y ∈ D, ∀ r, up[y]? = some r → ∀ b ∈ r, 0 ≤ b ∧ b < up.length ∧ marks[b.toNat]? = some true) →
      s87l2 K L1 (d + 1) (.lptr [mU, mV]) up.length abv (.sl ra 1 0 up.length) st t18 (a : Int) h := by
    intro marks D st hb h d haD B M g hcl
    unfold s87l2
    rw [g.len]
    refine ifT_neg (by simp [natV]) (rg_of (by omega) (by omega) ?_)
    have hm := B.done haD fun y hy c ⟨r, hr, hc⟩ => by
      have := (hcl y hy r hr _ hc).2.2
      simpa using this
    rw [hm] at M
    exact hL st hb h M g fun b hb => by
      have h1 := hcl a haD _ (List.getElem?_eq_getElem han) b hb
      exact ⟨h1.1, h1.2.1⟩
  induction d with
  | zero =>
    intro marks D S st hb h hd haD B M g hcl
    have hS : S = [] := by
      have := B.cnt
      simp only [List.length_append] at this
      exact List.eq_nil_of_length_eq_zero (by omega)
    subst hS
    rw [List.append_nil] at B haD
    exact fin marks D st hb h 0 haD B M g hcl
  | succ d ih =>
    intro marks D S st hb h hd haD B M g hcl
    rcases List.eq_nil_or_concat S with rfl | ⟨S', x, rfl⟩
    · rw [List.append_nil] at B haD
      exact fin marks D st hb h (d + 1) haD B M g hcl
    · have hcnt := B.cnt
      simp only [List.length_append, List.length_singleton, List.concat_eq_append] at hcnt
      rw [List.concat_eq_append] at B g haD
      unfold s87l2
      rw [g.len, natV_len]
      refine ifT_pos (by simp) ?_
      rw [g.len, natV_len]
      refine rg_of (by simp only [List.length_append, List.length_singleton]; omega) (by simp only [List.length_append, List.length_singleton]; omega) ?_
      have hlen1 : (((S' ++ [x]).length : Nat) : Int) - 1 = (S'.length : Nat) := by simp
      rw [hlen1]
      refine g.ix (e := .int .i64 (x : Int)) (by rw [natV_app, List.getElem?_append_right (by rw [natV_len]; omega), natV_len]; simp) rfl ?_
      rw [tInt_int, g.len, natV_len, hlen1]
      refine rg_of (by omega) (by omega) ?_
      rw [natV_app] at g
      refine g.pop (by rw [natV_len]) fun st' g' => ?_
      rw [addOff_lptr]
      simp only [List.drop_zero, ld1_lptr]
      obtain ⟨hxn, hxr⟩ := B.reach x (by simp)
      obtain ⟨e, he, hix⟩ := hU.ix hxn
      rw [hix, ld1_lptr, he.len]
      have hup : up[x]? = some up[x] := List.getElem?_eq_getElem hxn
      refine s87l3_in (up[x].length + 1) ?_
      have B1 : BF up a marks ((D ++ [x]) ++ S') := B.perm (by simp only [List.length_append, List.length_singleton]; omega) (by intro y; simp; constructor <;> (rintro (h | h | h) <;> simp [h]))
      refine reckon_l3 (D := D ++ [x]) (marks0 := marks) hn bad hsub he (hrl _ (List.getElem_mem hxn)) hup hxr (fun marks' S2 st2 hb2 h2 B2 M2 g2 hmono hr' => ?_) _ 0 (by omega) marks S' st' hb h B1 M g' (fun _ hy => hy) (by simp)
      refine s87l2_go (ih marks' (D ++ [x]) S2 st2 hb2 h2 (by simp; omega) ?_ B2 M2 g2 ?_)
      · exact (B2.mkd a).1 (hmono a ((B.mkd a).2 haD))
      · intro y hy r hr b hb
        rcases List.mem_append.1 hy with hy | hy
        · obtain ⟨h1, h2, h3⟩ := hcl y hy r hr b hb
          exact ⟨h1, h2, hmono _ h3⟩
        · rw [List.mem_singleton.1 hy, hup] at hr
          cases hr
          exact hr' b hb
end

section
variable {h00 : Heap} {up : List (List Int)} {ro rbx : Nat}

theorem reckon_l1 (hn : up.length ≤ 1073741824) (hrl : ∀ r ∈ up, r.length ≤ 1073741824) (bad : ¬ InR up → K (.tuple [.nilfunc, .bool false]) h00) (good : InR up → ∀ f, LeqF f up → K (.tuple [f, .bool true]) h00)
    {mU mV : AVal} (hU : Intss mU up) (ho : h00 ro = none) (hx : h00 rbx = none) (hne : rbx ≠ ro) : ∀ d a : Nat, a + d = up.length → ∀ R, TU up a R → (∀ a' r, a' < a → up[a']? = some r → ∀ b ∈ r, 0 ≤ b ∧ b < up.length) →
      s87l1 K (d + 1) (.lptr [mU, mV]) up.length (.ptr rbx 0 0) up.length (a : Int) ((h00.set rbx (.row 1 [.sl ro 1 0 up.length])).set ro (.row 1 R))
  | 0, a, hd, R, T, hr => by
    unfold s87l1
    refine ifT_neg (by simp; omega) ?_
    have hbx : ((h00.set rbx (.row 1 [.sl ro 1 0 up.length])).set ro (.row 1 R)) rbx = some (.row 1 [.sl ro 1 0 up.length]) := by rw [Heap.set_ne _ _ hne, Heap.set_same]
    refine ⟨fun q => q = ro ∨ q = rbx, .tuple [.func (.func 90) [] [.lptr [.lsl 1 R]], .bool true], h00,
      .tuple (.cons (.func .nil (.cons (.ptr (.inr rfl) hbx rfl (.cons (.whole (.inl rfl) (Heap.set_same _ _ _) T.len.symm) .nil)) .nil)) (.cons (.refl _) .nil)),
      ⟨fun _ _ => trivial, fun q o hq => ⟨o, ?_, ?_, .refl o⟩⟩, ?_⟩
    · have h1 : q ≠ rbx := fun e => by rw [e, hx] at hq; cases hq
      have h2 : q ≠ ro := fun e => by rw [e, ho] at hq; cases hq
      rw [Heap.set_ne _ _ h2, Heap.set_ne _ _ h1]; exact hq
    · rintro (e | e)
      · rw [e, ho] at hq; cases hq
      · rw [e, hx] at hq; cases hq
    · refine good (fun r hrm b hb => ?_) _ ⟨.lsl 1 R, rfl, R, .lsl 1 R, T.len, fun a' ha' => T.done a' (by omega)⟩
      obtain ⟨j, hj, rfl⟩ := List.mem_iff_getElem.1 hrm
      exact hr j _ (by omega) (List.getElem?_eq_getElem hj) b hb
  | d + 1, a, hd, R, T, hr => by
    have han : a < up.length := by omega
    have ho1 : (h00.set rbx (.row 1 [.sl ro 1 0 up.length])) ro = none := by rw [Heap.set_ne _ _ hne.symm]; exact ho
    unfold s87l1
    refine ifT_pos (by simp; omega) (mkS_own (by omega) (by omega) fun ra hra => ?_)
    have hne2 : ra ≠ ro := fun e => by rw [e, Heap.set_same] at hra; cases hra
    have hne3 : ra ≠ rbx := fun e => by rw [e, Heap.set_ne _ _ hne, Heap.set_same] at hra; cases hra
    have ha0 : (h00.set rbx (.row 1 [.sl ro 1 0 up.length])) ra = none := by rwa [Heap.set_ne _ _ hne2] at hra
    obtain ⟨e0, he0, hagg0⟩ := T.rest a han
    rw [ld1_one (es := 1) (e := .sl ro 1 0 up.length) (by rw [Heap.set_ne _ _ hne3.symm, Heap.set_ne _ _ hne, Heap.set_same]) rfl]
    refine ixS_sl0 han (chk_iff.2 ⟨rfl, ?_⟩)
    refine st_elem (es := 1) (elems := R) (by rw [Heap.set_ne _ _ hne2.symm, Heap.set_same]) he0 hagg0 ?_
    refine ixS_sl0 han ?_
    have hRa : (R.set a (.sl ra 1 0 up.length))[a]? = some (.sl ra 1 0 up.length) := by rw [List.getElem?_set_self]; rw [T.len]; exact han
    refine st_elem (es := 1) (elems := List.replicate up.length (.bool false)) (e := .bool false) (by rw [Heap.set_ne _ _ hne2, Heap.set_same]) (by simp [han]) rfl ?_
    rw [show (List.replicate up.length (AVal.bool false)).set a (.bool true) = ((List.replicate up.length false).set a true).map .bool by rw [List.map_set, List.map_replicate]]
    refine newRow_in fun r hrn => ?_
    have M : OM (h00.set rbx (.row 1 [.sl ro 1 0 up.length])) ro ra a up.length (R.set a (.sl ra 1 0 up.length)) ((List.replicate up.length false).set a true)
        (((((h00.set rbx (.row 1 [.sl ro 1 0 up.length])).set ro (.row 1 R)).set ra (.row 1 (List.replicate up.length (.bool false)))).set ro (.row 1 (R.set a (.sl ra 1 0 up.length)))).set ra (.row 1 (((List.replicate up.length false).set a true).map .bool))) := by
      refine ⟨ho1, ha0, hne2, ?_, hRa, by simp [T.len]⟩
      funext q
      by_cases h1 : q = ra
      · simp [Heap.set, h1]
      · by_cases h2 : q = ro
        · subst h2; simp [Heap.set, h1]
        · simp [Heap.set, h1, h2]
    refine s87l2_in (up.length + 1) ?_
    refine reckon_l2 (ra := ra) (R := R.set a (.sl ra 1 0 up.length)) hn hrl bad (Heap.set_sub hx) hU han (fun st hb h M' g hra' => ?_) up.length _ [] [a] _ _ _ (by simp) (by simp) (by simpa using BF.start han) M
      (by have := Stk.own (es := 1) (l := natV [a]) (junk := []) hrn; simpa [natV] using this) (by simp)
    refine ⟨fun q => q = ra, _, (h00.set rbx (.row 1 [.sl ro 1 0 up.length])).set ro (.row 1 ((R.set a (.sl ra 1 0 up.length)).set a (.lsl 1 ((rowB up a).map .bool)))), Lits.refl _, GStep.row (g.old M'.get_o) hne2 ha0 (fun q o hq => g.old (M'.old hq)) hRa
      (.whole rfl (g.old M'.get_a) (by simp [rowB])), rfl, ?_⟩
    rw [List.set_set]
    have := reckon_l1 (mV := mV) hn hrl bad good hU ho hx hne d (a + 1) (by omega) (R.set a (.lsl 1 ((rowB up a).map .bool))) ⟨by simp [T.len], fun a' ha' => ?_, fun a' ha' => ?_⟩ (fun a' r ha' hr' => ?_)
    · exact this
    · by_cases e : a' = a
      · subst e
        exact ⟨_, List.getElem?_set_self (by rw [T.len]; exact han), rfl, .lsl 1 _⟩
      · rw [List.getElem?_set_ne (Ne.symm e)]
        exact T.done a' (by omega)
    · by_cases e : a' = a
      · subst e
        exact ⟨_, List.getElem?_set_self (by rw [T.len]; exact han), rfl⟩
      · rw [List.getElem?_set_ne (Ne.symm e)]
        exact T.rest a' ha'
    · by_cases e : a' = a
      · subst e
        rw [List.getElem?_eq_getElem han] at hr'
        cases hr'
        exact hra'
      · exact hr a' r (by omega) hr'

theorem reckon_ok {mU mV : AVal} {h : Heap} (hn : up.length ≤ 1048576) (hrl : ∀ r ∈ up, r.length ≤ 1073741824) (hU : Intss mU up) (bad : ¬ InR up → K (.tuple [.nilfunc, .bool false]) h) (good : InR up → ∀ f, LeqF f up → K (.tuple [f, .bool true]) h) :
    ACalls prog 87 [.agg [mU, mV]] h K := by
  refine s87_ok ?_
  unfold s87
  rw [hU.len]
  refine mkS_own (by omega) (by omega) fun ro hro => newRow_in fun rbx hrbx => chk_iff.2 ⟨rfl, ?_⟩
  have hne : rbx ≠ ro := fun e => by rw [e, Heap.set_same] at hrbx; cases hrbx
  have hx : h rbx = none := by rwa [Heap.set_ne _ _ hne] at hrbx
  refine st_elem (Heap.set_same _ _ _) rfl rfl ?_
  rw [show [AVal.nilsl].set 0 (.sl ro 1 0 up.length) = [.sl ro 1 0 up.length] from rfl, ld1_one (Heap.set_same _ _ _) rfl, lenN_sl]
  refine s87l1_in (up.length + 1) ?_
  have he : (((h.set ro (.row 1 (List.replicate up.length .nilsl))).set rbx (.row 1 [.nilsl])).set rbx (.row 1 [.sl ro 1 0 up.length])) =
      (h.set rbx (.row 1 [.sl ro 1 0 up.length])).set ro (.row 1 (List.replicate up.length .nilsl)) := by
    rw [Heap.set_set, Heap.set_comm _ _ _ hne]
  rw [he]
  exact reckon_l1 (by omega) hrl bad good hU hro hx hne up.length 0 (by omega) _ ⟨by simp, by intro a' ha'; omega, fun a' ha' => ⟨.nilsl, by simp [ha'], rfl⟩⟩ (by intro a' r ha'; omega)
end
end Go.Proofs.Ytinficcdpggiaaa

namespace Go.Proofs.Ytinficcdpggiaaa
open Go Go.Sym Go.Proofs.Try

variable {K : AVal → Heap → Prop} {h : Heap} {up : List (List Int)} {val : List (List ByteArray)} {mU mV : AVal}

/-- the names of a world lack one -/
theorem lacks_call {l : List ByteArray} {e : AVal} {r b : Nat} (hV : Strss mV val) (S : Small up val) (hb : b < val.length) {h : Heap} (hr : h r = some (.row 1 [.int .i64 (b : Int)])) (s : ByteArray) (K : AVal → Heap → Prop)
    (hk : K (.bool (!inS val[b] s)) h) : callV prog (.func (.func 89) [] [.lptr [mU, mV], .ptr r 0 0]) [.str s] h K := by
  show callG prog 89 ([] ++ [.str s] ++ [.lptr [mU, mV], .ptr r 0 0]) h K
  refine callG_of (s89_ok ?_)
  unfold s89
  obtain ⟨eb, heb, hix⟩ := hV.ix hb
  rw [addOff_lptr]
  simp only [List.drop_succ_cons, List.drop_zero, ld1_lptr]
  rw [ld1_one hr rfl, tInt_int, hix, ld1_lptr]
  refine callG_of (containsS_ok heb ((S.names _ (List.getElem_mem hb)).1).1 ?_)
  rw [tBool_bool]
  exact retG_of hk

theorem looked_l3 (S : Small up val) (hV : Strss mV val) {f : AVal} (hF : LeqF f up) (hl : val.length = up.length) (hn : up.length ≤ 512) {a : Nat} (ha : a < up.length) {ea : AVal} (hea : Strs ea (val[a]'(by omega)))
    (bad : ¬ WF up val → K (.tuple [.nilfunc, .bool false]) h) {L2 : AVal → Int → AVal → AVal → Int → Int → Heap → Prop} {t34 : AVal} {t35 : Int} (hL : (∀ b, b < up.length → Cond up val a b) → L2 (.lptr [mU, mV]) up.length f t34 t35 (a + 1) h) :
    ∀ d b : Nat, b + d = up.length → (∀ b', b' < b → Cond up val a b') → s83l3 K L2 (d + 1) (.lptr [mU, mV]) up.length f a ea t34 t35 a up.length (b : Int) h := by
  intro d
  induction d with
  | zero =>
    intro b hd hk
    unfold s83l3
    exact ifT_neg (by simp; omega) (rg_of (by omega) (by omega) (hL fun b' hb' => hk b' (by omega)))
  | succ d ih =>
    intro b hd hk
    have hb : b < up.length := by omega
    unfold s83l3
    refine ifT_pos (by simp; omega) (newRow_in fun r hr => ?_)
    refine st_elem (Heap.set_same _ _ _) rfl rfl ?_
    rw [show [AVal.int .i64 0].set 0 (.int .i64 (b : Int)) = [.int .i64 (b : Int)] from rfl, Heap.set_set, ld1_one (Heap.set_same _ _ _) rfl, tInt_int]
    have next : Cond up val a b → s83c4 K L2 (s83l3_G (s83l3 K L2 (d + 1))) (.lptr [mU, mV]) up.length f a ea t34 t35 a up.length b (h.set r (.row 1 [.int .i64 (b : Int)])) := by
      intro hc
      refine rg_of (by omega) (by omega) ⟨_, _, h, Lits.refl _, GStep.drop (Heap.set_sub hr), rfl, ?_⟩
      have := ih (b + 1) (by omega) fun b' hb' => by
        by_cases e : b' = b
        · rw [e]; exact hc
        · exact hk b' (by omega)
      exact this
    have stop : ¬ WF up val → retG (.tuple [.nilfunc, .bool false]) (h.set r (.row 1 [.int .i64 (b : Int)])) K := fun hW => retG_drop (Heap.set_sub hr) (bad hW)
    by_cases hab : a = b
    · refine ifT_pos (by simp [hab]) (ifT_pos rfl (next fun _ hne => absurd hab hne))
    · refine ifT_neg (by simp; omega) ?_
      rw [ld1_one (Heap.set_same _ _ _) rfl, tInt_int]
      refine leq_call hF ha hb ?_
      rw [tBool_bool]
      cases hr1 : rb up a b with
      | false => exact ifT_pos rfl (next fun hR => by rw [rb_iff.2 hR] at hr1; cases hr1)
      | true =>
        refine ifT_neg rfl ?_
        rw [ld1_one (Heap.set_same _ _ _) rfl, tInt_int]
        refine leq_call hF hb ha ?_
        rw [tBool_bool]
        cases hr2 : rb up b a with
        | true => exact ifT_pos rfl (ifT_pos rfl (stop fun W => (W.cond a b ha hb (rb_iff.1 hr1) hab).1 (rb_iff.1 hr2)))
        | false =>
          have hva : a < val.length := by omega
          have hvb : b < val.length := by omega
          refine ifT_neg rfl (callG_of (containsFS_ok (p := fun s => !inS val[b] s) hea ((S.names _ (List.getElem_mem hva)).1).1 (fun s _ K' hk' => lacks_call (l := val[a]) (e := ea) hV S hvb (Heap.set_same _ _ _) s K' hk') ?_))
          rw [tBool_bool]
          cases hany : val[a].any fun s => !inS val[b] s with
          | true =>
            refine ifT_pos rfl (stop fun W => ?_)
            obtain ⟨s, hs, hn'⟩ := List.any_eq_true.1 hany
            have := (W.cond a b ha hb (rb_iff.1 hr1) hab).2
            rw [getD_val hva, getD_val hvb] at this
            rw [inS_iff.2 (this s hs)] at hn'
            cases hn'
          | false =>
            refine ifT_neg rfl (next fun _ _ => ⟨(fun e => by rw [rb_iff.2 e] at hr2; cases hr2), ?_⟩)
            rw [getD_val hva, getD_val hvb]
            intro s hs
            have := List.any_eq_false.1 hany s hs
            exact inS_iff.1 (by simpa using this)

theorem looked_l2 (S : Small up val) (hU : Intss mU up) (hV : Strss mV val) {f : AVal} (hF : LeqF f up) (hl : val.length = up.length) (hn : up.length ≤ 512)
    (bad : ¬ WF up val → K (.tuple [.nilfunc, .bool false]) h) (good : (∀ l ∈ val, fineB l = true) → (∀ a b, a < up.length → b < up.length → Cond up val a b) → K (.tuple [f, .bool true]) h) :
    ∀ d a : Nat, a + d = up.length → (∀ l ∈ val.take a, fineB l = true) → (∀ a' b, a' < a → b < up.length → Cond up val a' b) → s83l2 K (d + 1) (.lptr [mU, mV]) up.length f mV up.length (a : Int) h := by
  intro d
  induction d with
  | zero =>
    intro a hd hk hc
    unfold s83l2
    rw [List.take_of_length_le (by omega)] at hk
    exact ifT_neg (by simp; omega) (retG_of (good hk fun a' b ha' hb' => hc a' b (by omega) hb'))
  | succ d ih =>
    intro a hd hk hc
    have ha : a < val.length := by omega
    obtain ⟨ea, hea, hixa⟩ := hV.ix ha
    unfold s83l2
    refine ifT_pos (by simp; omega) ?_
    rw [hixa, ld1_lptr]
    refine callG_of (rising_ok hea (S.names _ (List.getElem_mem ha)).1 ?_)
    rw [tBool_bool]
    cases hf : fineB val[a] with
    | false =>
      refine ifT_pos rfl (retG_of (bad fun W => ?_))
      have := W.fine _ (List.getElem_mem ha)
      rw [hf] at this; cases this
    | true =>
      refine ifT_neg rfl (s83l3_in (up.length + 1) ?_)
      refine looked_l3 S hV hF hl hn (by omega) hea bad (fun hca => s83l2_go (ih (a + 1) (by omega) ?_ fun a' b ha' hb' => ?_)) up.length 0 (by omega) (by intro b' hb'; omega)
      · rw [List.take_succ_eq_append_getElem ha]
        intro l hl'
        rcases List.mem_append.1 hl' with hl' | hl'
        · exact hk l hl'
        · rw [List.mem_singleton.1 hl']; exact hf
      · by_cases e : a' = a
        · rw [e]; exact hca b hb'
        · exact hc a' b (by omega) hb'

theorem looked_ok (S : Small up val) (hU : Intss mU up) (hV : Strss mV val) (bad : ¬ WF up val → K (.tuple [.nilfunc, .bool false]) h) (good : WF up val → ∀ f, LeqF f up → K (.tuple [f, .bool true]) h) :
    ACalls prog 83 [.agg [mU, mV]] h K := by
  refine s83_ok ?_
  have hup := S.ups
  unfold s83
  rw [hU.len]
  by_cases h1 : up.length < 1
  · exact ifT_pos (by simp; omega) (ifT_pos rfl (retG_of (bad fun W => by have := W.pos; omega)))
  · refine ifT_neg (by simp; omega) ?_
    by_cases h2 : 512 < up.length
    · exact ifT_pos (by simp; omega) (ifT_pos rfl (retG_of (bad fun W => by have := W.max; omega)))
    · refine ifT_neg (by simp; omega) ?_
      rw [hV.len]
      by_cases h3 : val.length = up.length
      · refine ifT_neg (by simp [h3]) ?_
        rw [ldN_agg2, tCons_cons, tCons_cons, tNil_nil]
        refine callG_of (reckon_ok hup (fun r hr => by have := S.row r hr; omega) hU (fun hI => ?_) fun hI f hF => ?_)
        · simp only [tTup_tuple, tCons_cons, tBool_bool, tNil_nil]
          exact ifT_pos rfl (retG_of (bad fun W => hI W.inR))
        · simp only [tTup_tuple, tCons_cons, tBool_bool, tNil_nil]
          refine ifT_neg rfl ?_
          rw [addOff_lptr]
          simp only [List.drop_succ_cons, List.drop_zero, ld1_lptr]
          rw [hV.len, h3]
          exact s83l2_in (up.length + 1) (looked_l2 S hU hV hF h3 (by omega) bad (fun hf hc => good ⟨by omega, by omega, h3, hI, hf, hc⟩ f hF) up.length 0 (by omega) (by simp) (by intro a' b ha'; omega))
      · exact ifT_pos (by simp; omega) (retG_of (bad fun W => h3 W.len))

/-- of a model and some worlds: 0, or why not -/
theorem asked_loop {f ws : AVal} {l : List Int} (hU : Intss mU up) (hn : up.length ≤ 512) (hw : Ints ws l) (hm : l.length ≤ 1048576) (bad : ¬ (∀ w ∈ l, 0 ≤ w ∧ w < up.length) → K (.tuple [.nilfunc, .int .i64 2]) h)
    (good : (∀ w ∈ l, 0 ≤ w ∧ w < up.length) → K (.tuple [f, .int .i64 0]) h) : ∀ d i : Nat, i + d = l.length → (∀ w ∈ l.take i, 0 ≤ w ∧ w < up.length) → s67l1 K (d + 1) (.lptr [mU, mV]) f ws l.length (i : Int) h
  | 0, i, hd, hk => by
    unfold s67l1
    rw [List.take_of_length_le (by omega)] at hk
    exact ifT_neg (by simp; omega) (retG_of (good hk))
  | d + 1, i, hd, hk => by
    have hi : i < l.length := by omega
    unfold s67l1
    refine ifT_pos (by simp; omega) ?_
    rw [hw.ix hi, ld1_lptr, tInt_int]
    by_cases h0 : l[i] < 0
    · exact ifT_pos (by simpa using h0) (ifT_pos rfl (retG_of (bad fun hall => by have := hall _ (List.getElem_mem hi); omega)))
    · refine ifT_neg (by simpa using h0) ?_
      rw [addOff_lptr]
      simp only [List.drop_zero, ld1_lptr]
      rw [hU.len]
      by_cases h1 : (up.length : Int) ≤ l[i]
      · exact ifT_pos (by simpa using h1) (retG_of (bad fun hall => by have := hall _ (List.getElem_mem hi); omega))
      · refine ifT_neg (by simpa using h1) (rg_of (by omega) (by omega) (s67l1_go (asked_loop hU hn hw hm bad good d (i + 1) (by omega) ?_)))
        rw [List.take_succ_eq_append_getElem hi]
        intro w hw'
        rcases List.mem_append.1 hw' with hw' | hw'
        · exact hk w hw'
        · rw [List.mem_singleton.1 hw']; omega

theorem asked_ok {ws : AVal} {l : List Int} (S : Small up val) (hU : Intss mU up) (hV : Strss mV val) (hw : Ints ws l) (hm : l.length ≤ 1048576) (bad : ¬ WF up val → K (.tuple [.nilfunc, .int .i64 170]) h)
    (out : WF up val → ¬ (∀ w ∈ l, 0 ≤ w ∧ w < up.length) → K (.tuple [.nilfunc, .int .i64 2]) h) (good : WF up val → (∀ w ∈ l, 0 ≤ w ∧ w < up.length) → ∀ f, LeqF f up → K (.tuple [f, .int .i64 0]) h) :
    ACalls prog 67 [.agg [mU, mV], ws] h K := by
  refine s67_ok (callG_of (looked_ok S hU hV (fun hW => ?_) fun hW f hF => ?_))
  · simp only [tTup_tuple, tCons_cons, tBool_bool, tNil_nil]
    exact ifT_pos rfl (retG_of (bad hW))
  · simp only [tTup_tuple, tCons_cons, tBool_bool, tNil_nil]
    refine ifT_neg rfl ?_
    rw [hw.len]
    exact s67l1_in (l.length + 1) (asked_loop hU hW.max hw hm (out hW) (fun hall => good hW hall f hF) l.length 0 (by omega) (by simp))

theorem check_ok (S : Small up val) (hU : Intss mU up) (hV : Strss mV val) (bad : ¬ WF up val → K (.int .i64 170) h) (good : WF up val → K (.int .i64 0) h) : ACalls prog 41 [.agg [mU, mV]] h K := by
  refine s41_ok (callG_of (asked_ok (l := []) S hU hV (.inr ⟨rfl, rfl⟩) (by simp) (fun hW => ?_) (fun _ hW => absurd (by simp) hW) fun hW _ f hF => ?_))
  · simp only [tTup_tuple, tCons_cons, tInt_int, tNil_nil]
    exact retG_of (bad hW)
  · simp only [tTup_tuple, tCons_cons, tInt_int, tNil_nil]
    exact retG_of (good hW)
end Go.Proofs.Ytinficcdpggiaaa

namespace Go.Proofs.Ytinficcdpggiaaa
open Go Go.Sym Go.Proofs.Try

variable {K : AVal → Heap → Prop} {h : Heap} {up : List (List Int)} {val : List (List ByteArray)} {mU mV : AVal}

def natI (l : List Nat) : List Int := l.map fun (x : Nat) => (x : Int)
theorem natV_eq (l : List Nat) : natV l = (natI l).map (.int .i64) := by simp [natV, natI, List.map_map, Function.comp_def]

theorem range_filter_succ (p : Nat → Bool) (n : Nat) : (List.range (n + 1)).filter p = (List.range n).filter p ++ if p n then [n] else [] := by
  rw [List.range_succ, List.filter_append]
  congr 1
  rw [List.filter_cons]
  rfl

theorem all_loop {f : AVal} {p : Nat → Bool} {n : Nat} (hn : n ≤ 1048576) (hf : ∀ b, b < n → ∀ (h' : Heap) (K' : AVal → Heap → Prop), (∀ q o, h q = some o → h' q = some o) → K' (.bool (p b)) h' → callV prog f [.int .i64 (b : Int)] h' K')
    (hk : ∀ v, Ints v (natI ((List.range n).filter p)) → K v h) : ∀ d i : Nat, i + d = n → ∀ l_ h', Grow 1 h l_ (natV ((List.range i).filter p)) h' → s68l1 K (d + 1) f l_ n (i : Int) h'
  | 0, i, hd, l_, h', g => by
    unfold s68l1
    refine ifT_neg (by simp; omega) ?_
    obtain ⟨S, v', h1, h2, h3⟩ := g.freeze
    obtain rfl : i = n := by omega
    exact ⟨S, v', h, h1, h3, hk v' (by unfold Ints; rw [← natV_eq]; exact h2)⟩
  | d + 1, i, hd, l_, h', g => by
    unfold s68l1
    refine ifT_pos (by simp; omega) ?_
    refine hf i (by omega) h' _ (fun q o hq => g.old hq) ?_
    rw [tBool_bool]
    have hle : (natV ((List.range i).filter p)).length ≤ i := by
      rw [natV_len]
      have := List.length_filter_le p (List.range i)
      simpa using this
    have hs := range_filter_succ p i
    cases hp : p i with
    | true =>
      rw [hp] at hs
      refine ifT_pos rfl (appC_one g (by omega) (by omega) fun v' h2 g2 => rg_of (by omega) (by omega) (s68l1_go (all_loop hn hf hk d (i + 1) (by omega) v' h2 ?_)))
      rw [hs, if_pos rfl, natV_app]
      exact g2
    | false =>
      rw [hp] at hs
      refine ifT_neg rfl (rg_of (by omega) (by omega) (s68l1_go (all_loop hn hf hk d (i + 1) (by omega) l_ h' ?_)))
      rw [hs]
      simpa using g
theorem all_ok {f : AVal} {p : Nat → Bool} (hU : Intss mU up) (hn : up.length ≤ 1048576) (hf : ∀ b, b < up.length → ∀ (h' : Heap) (K' : AVal → Heap → Prop), (∀ q o, h q = some o → h' q = some o) → K' (.bool (p b)) h' → callV prog f [.int .i64 (b : Int)] h' K')
    (hk : ∀ v, Ints v (natI ((List.range up.length).filter p)) → K v h) : ACalls prog 68 [.agg [mU, mV], f] h K := by
  refine s68_ok ?_
  unfold s68
  rw [hU.len]
  exact s68l1_in (up.length + 1) (all_loop hn hf hk up.length 0 (by omega) .nilsl h .nil)

/-- the world that all are above -/
def IsRoot (up : List (List Int)) (r : Nat) : Prop := r < up.length ∧ ∀ b, b < up.length → Reach up r b
theorem IsRoot.unique {r r' : Nat} (W : WF up val) (h1 : IsRoot up r) (h2 : IsRoot up r') : r = r' := by
  by_cases e : r = r'
  · exact e
  · exact absurd (h2.2 r h1.1) (W.cond r r' h1.1 h2.1 (h1.2 r' h2.1) e).1

theorem root17_l2 {o : AVal} (hO : OTab o up) (hn : up.length ≤ 512) {a : Nat} (ha : a < up.length) {L1 : AVal → Int → Heap → Prop} (good : IsRoot up a → K (.tuple [.int .i64 (a : Int), .bool true]) h) (hL : ¬ IsRoot up a → L1 o (a + 1) h) :
    ∀ d b : Nat, b + d = up.length → ∀ all : Bool, (all = true ↔ ∀ b', b' < b → Reach up a b') → s27l2 K L1 (d + 1) o a all (b : Int) h
  | 0, b, hd, all, hall => by
    unfold s27l2
    rw [hO.len]
    refine ifT_neg (by simp; omega) ?_
    cases all with
    | true => exact ifT_pos rfl (retG_of (good ⟨ha, fun b' hb' => hall.1 rfl b' (by omega)⟩))
    | false => exact ifT_neg rfl (rg_of (by omega) (by omega) (hL fun hR => by have := hall.2 fun b' hb' => hR.2 b' (by omega); cases this))
  | d + 1, b, hd, all, hall => by
    have hb : b < up.length := by omega
    obtain ⟨ea, hrow, _, hix⟩ := hO.row (h' := h) ha
    unfold s27l2
    rw [hO.len]
    refine ifT_pos (by simp; omega) ?_
    cases all with
    | true =>
      refine ifT_pos rfl ?_
      rw [hrow, hix b hb, tBool_bool]
      refine rg_of (by omega) (by omega) (s27l2_go (root17_l2 hO hn ha good hL d (b + 1) (by omega) (rb up a b) ?_))
      rw [rb_iff]
      constructor
      · intro hr b' hb'
        by_cases e : b' = b
        · rw [e]; exact hr
        · exact hall.1 rfl b' (by omega)
      · intro hr; exact hr b (by omega)
    | false =>
      refine ifT_neg rfl (rg_of (by omega) (by omega) (s27l2_go (root17_l2 hO hn ha good hL d (b + 1) (by omega) false ?_)))
      constructor
      · intro e; cases e
      · intro hr; exact hall.2 fun b' hb' => hr b' (by omega)

theorem root17_l1 {o : AVal} (hO : OTab o up) (hn : up.length ≤ 512) (good : ∀ a, IsRoot up a → K (.tuple [.int .i64 (a : Int), .bool true]) h) (none : (∀ a, ¬ IsRoot up a) → K (.tuple [.int .i64 0, .bool false]) h) :
    ∀ d a : Nat, a + d = up.length → (∀ a', a' < a → ¬ IsRoot up a') → s27l1 K (d + 1) o (a : Int) h
  | 0, a, hd, hno => by
    unfold s27l1
    rw [hO.len]
    exact ifT_neg (by simp; omega) (retG_of (none fun a' hR => hno a' (by have := hR.1; omega) hR))
  | d + 1, a, hd, hno => by
    unfold s27l1
    rw [hO.len]
    refine ifT_pos (by simp; omega) (s27l2_in (up.length + 1) ?_)
    refine root17_l2 hO hn (by omega) (good a) (fun hR => s27l1_go (root17_l1 hO hn good none d (a + 1) (by omega) fun a' ha' => ?_)) up.length 0 (by omega) true (by simp)
    by_cases e : a' = a
    · rw [e]; exact hR
    · exact hno a' (by omega)

theorem root17_ok (S : Small up val) (hU : Intss mU up) (hV : Strss mV val) (good : WF up val → ∀ a, IsRoot up a → K (.tuple [.int .i64 (a : Int), .bool true]) h) (none : (WF up val → ∀ a, ¬ IsRoot up a) → K (.tuple [.int .i64 0, .bool false]) h) :
    ACalls prog 27 [.agg [mU, mV]] h K := by
  refine s27_ok (callG_of (right_ok S hU hV (fun hW => ?_) fun hW o hO => ?_))
  · simp only [tTup_tuple, tCons_cons, tBool_bool, tNil_nil]
    exact ifT_pos rfl (retG_of (none fun W => absurd W hW))
  · simp only [tTup_tuple, tCons_cons, tBool_bool, tNil_nil]
    exact ifT_neg rfl (s27l1_in (up.length + 1) (root17_l1 hO hW.max (good hW) (fun hn => none fun _ => hn) up.length 0 (by omega) (by intro a' ha'; omega)))

theorem rootc_call {f : AVal} (hF : LeqF f up) {c0 c1 : AVal} {a b : Nat} (ha : a < up.length) (hb : b < up.length) {h : Heap} (h0 : ∀ K : AVal → Prop, ld1 h c0 K = K f) (h1 : ∀ K : AVal → Prop, ld1 h c1 K = K (.int .i64 (a : Int)))
    {K : AVal → Heap → Prop} (hk : K (.bool (rb up a b)) h) : callV prog (.func (.func 73) [] [c0, c1]) [.int .i64 (b : Int)] h K := by
  show callG prog 73 ([] ++ [.int .i64 (b : Int)] ++ [c0, c1]) h K
  refine callG_of (s73_ok ?_)
  unfold s73
  rw [h0, h1, tInt_int]
  refine leq_call hF ha hb ?_
  rw [tBool_bool]
  exact retG_of hk

theorem filter_all {p : Nat → Bool} {n : Nat} : ((List.range n).filter p).length = n ↔ ∀ b, b < n → p b = true := by
  constructor
  · intro h b hb
    have := List.length_filter_eq_length_iff.1 (by rw [h]; simp : ((List.range n).filter p).length = (List.range n).length)
    exact this b (List.mem_range.2 hb)
  · intro h
    rw [List.filter_eq_self.2 fun b hb => h b (List.mem_range.1 hb)]
    simp

theorem root_l1 (hU : Intss mU up) {f : AVal} (hF : LeqF f up) (hn : up.length ≤ 512) (good : ∀ a, IsRoot up a → K (.tuple [.int .i64 (a : Int), .bool true]) h) (none : (∀ a, ¬ IsRoot up a) → K (.tuple [.int .i64 0, .bool false]) h) :
    ∀ d a : Nat, a + d = up.length → (∀ a', a' < a → ¬ IsRoot up a') → s43l1 K (d + 1) (.lptr [mU, mV]) (.lptr [f]) up.length (a : Int) h
  | 0, a, hd, hno => by
    unfold s43l1
    exact ifT_neg (by simp; omega) (retG_of (none fun a' hR => hno a' (by have := hR.1; omega) hR))
  | d + 1, a, hd, hno => by
    have ha : a < up.length := by omega
    unfold s43l1
    refine ifT_pos (by simp; omega) (newRow_in fun r hr => ?_)
    refine st_elem (Heap.set_same _ _ _) rfl rfl ?_
    rw [show [AVal.int .i64 0].set 0 (.int .i64 (a : Int)) = [.int .i64 (a : Int)] from rfl, Heap.set_set, ldN_agg2, tCons_cons, tCons_cons, tNil_nil, addOff_lptr]
    simp only [List.drop_zero, ld1_lptr]
    rw [hU.len]
    refine callG_of (all_ok (p := rb up a) hU (by omega) (fun b hb h' K' hs hk' => rootc_call hF ha hb (fun K => ld1_lptr _ _ _ _) (fun K => ld1_one (hs _ _ (Heap.set_same _ _ _)) rfl K) hk') fun v hv => ?_)
    refine ⟨trivial, ?_⟩
    rw [hv.len]
    have hlen : (natI ((List.range up.length).filter (rb up a))).length = ((List.range up.length).filter (rb up a)).length := by simp [natI]
    rw [hlen]
    by_cases hall : ((List.range up.length).filter (rb up a)).length = up.length
    · refine ifT_pos (by simp [hall]) ?_
      rw [ld1_one (Heap.set_same _ _ _) rfl, tInt_int]
      exact retG_drop (Heap.set_sub hr) (good a ⟨ha, fun b hb => rb_iff.1 (filter_all.1 hall b hb)⟩)
    · refine ifT_neg (by simp; omega) (rg_of (by omega) (by omega) ⟨_, _, h, Lits.refl _, GStep.drop (Heap.set_sub hr), rfl, ?_⟩)
      have := root_l1 hU hF hn good none d (a + 1) (by omega) fun a' ha' => by
        by_cases e : a' = a
        · rw [e]; exact fun hR => hall (filter_all.2 fun b hb => rb_iff.2 (hR.2 b hb))
        · exact hno a' (by omega)
      exact this

theorem root_ok (S : Small up val) (hU : Intss mU up) (hV : Strss mV val) (good : WF up val → ∀ a, IsRoot up a → K (.tuple [.int .i64 (a : Int), .bool true]) h) (none : (WF up val → ∀ a, ¬ IsRoot up a) → K (.tuple [.int .i64 0, .bool false]) h) :
    ACalls prog 43 [.agg [mU, mV]] h K := by
  refine s43_ok (callG_of (asked_ok (l := []) S hU hV (.inr ⟨rfl, rfl⟩) (by simp) (fun hW => ?_) (fun _ hW => absurd (by simp) hW) fun hW _ f hF => ?_))
  · simp only [tTup_tuple, tCons_cons, tInt_int, tNil_nil]
    refine newRow_in fun r hr => chk_iff.2 ⟨rfl, st_elem (Heap.set_same _ _ _) rfl rfl (ifT_pos rfl ?_)⟩
    rw [Heap.set_set]
    exact retG_drop (Heap.set_sub hr) (none fun W => absurd W hW)
  · simp only [tTup_tuple, tCons_cons, tInt_int, tNil_nil]
    have hFc : Go.Sym.sc f = true ∧ f.isAgg = false := by obtain ⟨o, rfl, _⟩ := hF; exact ⟨rfl, rfl⟩
    refine newRow_in fun r hr => chk_iff.2 ⟨hFc.1, st_elem (Heap.set_same _ _ _) rfl rfl (ifT_neg rfl ?_)⟩
    rw [Heap.set_set, hU.len]
    refine ⟨fun q => q = r, [.lptr [mU, mV], .lptr [f], .int .i64 up.length, .int .i64 0], h, .cons (.refl _) (.cons (.ptr rfl (Heap.set_same _ _ _) rfl ?_) (Lits.refl _)),
      ⟨fun _ _ => trivial, fun q o hq => ⟨o, Heap.set_sub hr q o hq, (fun e => by rw [e, hr] at hq; cases hq), .refl o⟩⟩, rfl, up.length + 1, ?_⟩
    · rw [List.drop_zero, cells_of_notAgg hFc.2]
      exact Lits.refl _
    · have := root_l1 (mV := mV) hU hF hW.max (good hW) (fun hn => none fun _ => hn) up.length 0 (by omega) (by intro a' ha'; omega)
      exact this
end Go.Proofs.Ytinficcdpggiaaa

namespace Go.Proofs.Ytinficcdpggiaaa
open Go Go.Sym Go.Proofs.Try

variable {K : AVal → Heap → Prop} {h : Heap} {up : List (List Int)} {val : List (List ByteArray)} {mU mV : AVal}

noncomputable def okc (up : List (List Int)) (a b c : Nat) : Bool := (c == a) || ((c == b) || (!rb up a c || !rb up c b))
noncomputable def startB (up : List (List Int)) (a b : Nat) : Bool := (a != b) && rb up a b
/-- is b next above a? -/
noncomputable def coverB (up : List (List Int)) (a b : Nat) : Bool := startB up a b && (List.range up.length).all (okc up a b)
noncomputable def tidyRow (up : List (List Int)) (a : Nat) : List Nat := (List.range up.length).filter (coverB up a)
noncomputable def tidyUp (up : List (List Int)) : List (List Int) := (List.range up.length).map fun a => natI (tidyRow up a)

theorem tidy17_l5 (hn : up.length ≤ 512) {o : AVal} (hO : OTab o up) {a b : Nat} (ha : a < up.length) (hb : b < up.length) {L1 : AVal → AVal → AVal → AVal → Int → Heap → Prop} {L2 : AVal → AVal → AVal → AVal → Int → AVal → Int → Heap → Prop}
    {m t2 out row : AVal} {h : Heap} (yes : coverB up a b = true → appC 1 8 h row (.lsl 1 [(.int .i64 (b : Int))]) fun v h' => s65c3 K L1 L2 m t2 o out a v b h')
    (no : coverB up a b = false → s65c3 K L1 L2 m t2 o out a row b h) : ∀ d c : Nat, c + d = up.length → ∀ next : Bool, (next = true → startB up a b = true ∧ (List.range c).all (okc up a b) = true) → (next = false → coverB up a b = false) →
      s65l5 K L1 L2 (d + 1) m t2 o out a row b next (c : Int) h
  | 0, c, hd, next, hy, hnn => by
    unfold s65l5
    rw [hO.len]
    refine ifT_neg (by simp; omega) (ifT_neg rfl ?_)
    obtain rfl : c = up.length := by omega
    cases next with
    | true => exact ifT_pos rfl (yes (by unfold coverB; rw [(hy rfl).1, (hy rfl).2]; rfl))
    | false => exact ifT_neg rfl (no (hnn rfl))
  | d + 1, c, hd, next, hy, hnn => by
    have hc : c < up.length := by omega
    unfold s65l5
    rw [hO.len]
    refine ifT_pos (by simp; omega) ?_
    cases next with
    | false => exact ifT_neg rfl (ifT_neg rfl (no (hnn rfl)))
    | true =>
      obtain ⟨h1, h2⟩ := hy rfl
      have go : ∀ n' : Bool, n' = okc up a b c → s65c7 K L1 L2 (s65l5_G (s65l5 K L1 L2 (d + 1))) m t2 o out a row b n' c h := by
        rintro n' rfl
        refine rg_of (by omega) (by omega) (s65l5_go (tidy17_l5 hn hO ha hb yes no d (c + 1) (by omega) _ (fun e => ⟨h1, ?_⟩) (fun e => ?_)))
        · rw [List.range_succ, List.all_append, h2, List.all_cons, e]; rfl
        · unfold coverB
          have : (List.range up.length).all (okc up a b) = false := List.all_eq_false.2 ⟨c, List.mem_range.2 hc, by rw [e]; simp⟩
          rw [this, Bool.and_false]
      refine ifT_pos rfl ?_
      unfold okc at go
      by_cases e1 : c = a
      · refine ifT_pos (by simp [e1]) (go true (by simp [e1]))
      · rw [show (c == a) = false by simpa using e1] at go
        refine ifT_neg (by simp; omega) ?_
        by_cases e2 : c = b
        · refine ifT_pos (by simp [e2]) (go true (by simp [e2]))
        · rw [show (c == b) = false by simpa using e2] at go
          simp only [Bool.false_or] at go
          refine ifT_neg (by simp; omega) ?_
          obtain ⟨ea, hra, _, hia⟩ := hO.row (h' := h) ha
          obtain ⟨ec, hrc, _, hic⟩ := hO.row (h' := h) hc
          rw [hra, hia c hc, tBool_bool]
          cases h3 : rb up a c with
          | false => rw [h3] at go; exact ifT_pos rfl (go true rfl)
          | true =>
            rw [h3] at go
            refine ifT_neg rfl ?_
            rw [hrc, hic b hb, tBool_bool]
            exact go _ rfl

/-- what the loop over b holds -/
theorem tidy17_l2 (hn : up.length ≤ 512) {o : AVal} (hO : OTab o up) {a : Nat} (ha : a < up.length) (hl : val.length = up.length) (S : Small up val) (hV : Strss mV val) {L1 : AVal → AVal → AVal → AVal → Int → Heap → Prop} {t2 : AVal} {hb : Heap} {ro : Nat} {vU vV : AVal} {LU LV : List AVal}
    (hLU : LU.length ≤ 512) (hLV : LV.length ≤ 512)
    (hL : ∀ vU' vV' row cp h' hb' hb'', Grow 1 hb row (natV (tidyRow up a)) hb' → Grow 1 hb' cp ((val[a]'(by omega)).map .str) hb'' → MB hb'' ro vU' vV' (LU ++ [row]) (LV ++ [cp]) h' → L1 (.lptr [mU, mV]) t2 o (.ptr ro 0 0) (a + 1) h') :
    ∀ d b : Nat, b + d = up.length → ∀ row h hM, MB hb ro vU vV LU LV hM → Grow 1 hM row (natV ((List.range b).filter (coverB up a))) h → s65l2 K L1 (d + 1) (.lptr [mU, mV]) t2 o (.ptr ro 0 0) a row (b : Int) h
  | 0, b, hd, row, h, hM, M, g => by
    obtain rfl : b = up.length := by omega
    have ha' : a < val.length := by omega
    obtain ⟨hb', g1, M1⟩ := M.swap g
    unfold s65l2
    rw [hO.len]
    refine ifT_neg (by simp) ?_
    rw [addOff_ptr, M1.ldU]
    refine chk_iff.2 ⟨g.sc.1, M1.appU (by omega) (by omega) fun v1 h1 M2 => ?_⟩
    rw [addOff_ptr]
    refine chk_iff.2 ⟨M2.sc.1.1, M2.stU fun h2 M3 => ?_⟩
    rw [addOff_ptr, M3.ldV, addOff_lptr]
    simp only [List.drop_succ_cons, List.drop_zero, ld1_lptr]
    obtain ⟨ev, hev, hix⟩ := hV.ix ha'
    rw [hix, ld1_lptr]
    have hSn := S.names _ (List.getElem_mem ha')
    refine newRow_in fun r2 hr2 => ?_
    have M3' : h2 ro = some (.row 2 [.agg [v1, vV]]) := M3.get
    have hget : (h2.set r2 (.row 1 [])) ro = some (.row 2 [.agg [v1, vV]]) := Heap.set_sub hr2 _ _ M3'
    refine ⟨rfl, ⟨?_, ⟨?_, ?_⟩⟩⟩
    · trivial
    · rw [ld1_fld hget rfl]
    refine appC_copy hr2 (elemsA_of hev) (by simp; omega) (by simp; omega) fun cp h3 g2 => ?_
    have hget3 : h3 ro = some (.row 2 [.agg [v1, vV]]) := g2.old M3'
    refine ⟨by rw [ld1_fld hget3 rfl], chk_iff.2 ⟨g2.sc.1, ⟨by rw [ld1_fld hget3 rfl], ?_⟩⟩⟩
    obtain ⟨hb'', g3, M4⟩ := M3.swap g2
    refine M4.appV (by omega) (by omega) fun v2 h4 M5 => ?_
    rw [addOff_ptr]
    refine chk_iff.2 ⟨M5.sc.2.1, M5.stV fun h5 M6 => rg_of (by omega) (by omega) ?_⟩
    exact hL v1 v2 row cp h5 hb' hb'' g1 g3 M6
  | d + 1, b, hd, row, h, hM, M, g => by
    have hbn : b < up.length := by omega
    unfold s65l2
    rw [hO.len]
    refine ifT_pos (by simp; omega) ?_
    have hs := range_filter_succ (coverB up a) b
    have hle : (natV ((List.range b).filter (coverB up a))).length ≤ b := by
      rw [natV_len]
      have := List.length_filter_le (coverB up a) (List.range b)
      simpa using this
    have yes : coverB up a b = true → appC 1 8 h row (.lsl 1 [(.int .i64 (b : Int))]) fun v h' => s65c3 K L1 (s65l2_G (s65l2 K L1 (d + 1))) (.lptr [mU, mV]) t2 o (.ptr ro 0 0) a v b h' := by
      intro hc
      rw [hc, if_pos rfl] at hs
      refine appC_one g (by omega) (by omega) fun v' h' g' => rg_of (by omega) (by omega) (s65l2_go (tidy17_l2 hn hO ha hl S hV hLU hLV hL d (b + 1) (by omega) v' h' hM M ?_))
      rw [hs, natV_app]
      exact g'
    have no : coverB up a b = false → s65c3 K L1 (s65l2_G (s65l2 K L1 (d + 1))) (.lptr [mU, mV]) t2 o (.ptr ro 0 0) a row b h := by
      intro hc
      rw [hc] at hs
      refine rg_of (by omega) (by omega) (s65l2_go (tidy17_l2 hn hO ha hl S hV hLU hLV hL d (b + 1) (by omega) row h hM M ?_))
      rw [hs]
      simpa using g
    have run : ∀ next : Bool, next = startB up a b → s65c4 K L1 (s65l2_G (s65l2 K L1 (d + 1))) (.lptr [mU, mV]) t2 o (.ptr ro 0 0) a row b next h := by
      rintro next rfl
      refine s65l5_in (up.length + 1) (tidy17_l5 hn hO ha hbn yes no up.length 0 (by omega) _ (fun e => ⟨e, rfl⟩) fun e => ?_)
      unfold coverB
      rw [e, Bool.false_and]
    unfold startB at run
    by_cases hab : a = b
    · refine ifT_neg (by simp [hab]) (run false (by simp [hab]))
    · refine ifT_pos (by simp; omega) ?_
      obtain ⟨ea, hra, _, hia⟩ := hO.row (h' := h) ha
      rw [hra, hia b hbn, tBool_bool]
      exact run _ (by rw [show (a != b) = true by simpa using hab, Bool.true_and])

theorem tidyUp_get {a : Nat} (ha : a < up.length) : (tidyUp up)[a]? = some (natI (tidyRow up a)) := by simp [tidyUp, ha]

theorem tidy17_l1 (hn : up.length ≤ 512) {o : AVal} (hO : OTab o up) (hl : val.length = up.length) (S : Small up val) (hV : Strss mV val) {hb : Heap} {ro rt : Nat} {X : AVal} (hrt : hb rt = some (.row 2 [.agg [.nilsl, X]])) {h0 : Heap} (hsub : ∀ q o, h0 q = some o → q ≠ rt ∧ hb q = some o)
    (good : ∀ vU vV, Intss vU (tidyUp up) → Strss vV val → K (.tuple [.agg [vU, vV], .int .i64 0]) h0) :
    ∀ d a : Nat, a + d = up.length → ∀ vU vV LU LV h, MB hb ro vU vV LU LV h → All2 Ints LU ((tidyUp up).take a) → All2 Strs LV (val.take a) → s65l1 K (d + 1) (.lptr [mU, mV]) (.ptr rt 0 0) o (.ptr ro 0 0) (a : Int) h
  | 0, a, hd, vU, vV, LU, LV, h, M, aU, aV => by
    obtain rfl : a = up.length := by omega
    unfold s65l1
    rw [hO.len]
    refine ifT_neg (by simp) ?_
    rw [M.ld, tCons_cons, tCons_cons, tNil_nil]
    have M1 := M.upd (x := .row 2 [.agg [vU, vV]]) hrt
    refine st_all (M.old hrt) rfl ?_
    rw [ldN2 (Heap.set_same _ _ _), tCons_cons, tCons_cons, tNil_nil]
    obtain ⟨Sn, vU', vV', l1, l2, s1, s2, hS, hold⟩ := M1.freeze
    have hlen : (tidyUp up).length = up.length := by simp [tidyUp]
    rw [List.take_of_length_le (by omega)] at aU
    rw [List.take_of_length_le (by omega)] at aV
    refine ⟨Sn, _, h0, .tuple (.cons (.agg (.cons l1 (.cons l2 .nil))) (.cons (.refl _) .nil)), ⟨fun _ _ => trivial, fun q o hq => ⟨o, ?_, ?_, .refl o⟩⟩, good vU' vV' ⟨LU, s1, aU⟩ ⟨LV, s2, aV⟩⟩
    · obtain ⟨h1, h2⟩ := hsub q o hq
      exact hold q o (by rw [Heap.set_ne _ _ h1]; exact h2)
    · intro hs
      have h3 := hS q hs
      obtain ⟨h1, h2⟩ := hsub q o hq
      rw [Heap.set_ne _ _ h1, h2] at h3
      cases h3
  | d + 1, a, hd, vU, vV, LU, LV, h, M, aU, aV => by
    have ha : a < up.length := by omega
    have hlen : (tidyUp up).length = up.length := by simp [tidyUp]
    have hLU : LU.length ≤ 512 := by have := aU.length; simp at this; omega
    have hLV : LV.length ≤ 512 := by have := aV.length; simp at this; omega
    unfold s65l1
    rw [hO.len]
    refine ifT_pos (by simp; omega) (s65l2_in (up.length + 1) ?_)
    refine tidy17_l2 hn hO ha hl S hV hLU hLV (fun vU' vV' row cp h' hb' hb'' g1 g2 M' => ?_) up.length 0 (by omega) .nilsl h h M .nil
    obtain ⟨Sg, h2, row', cp', s1, s2, M2, hg⟩ := M'.settle g1 g2
    refine ⟨Sg, _, h2, Lits.refl _, hg, rfl, ?_⟩
    have := tidy17_l1 hn hO hl S hV hrt hsub good d (a + 1) (by omega) vU' vV' _ _ h2 M2 ?_ ?_
    · exact this
    · rw [List.take_succ_eq_append_getElem (by omega)]
      refine aU.append (.cons ?_ .nil)
      have hga : (tidyUp up)[a]'(by omega) = natI (tidyRow up a) := by simp [tidyUp]
      rw [hga]
      unfold Ints
      rwa [← natV_eq]
    · rw [List.take_succ_eq_append_getElem (by omega)]
      exact aV.append (.cons s2 .nil)

theorem tidy17_ok (S : Small up val) (hU : Intss mU up) (hV : Strss mV val) (bad : ¬ WF up val → K (.tuple [.agg [.nilsl, .nilsl], .int .i64 170]) h) (good : WF up val → ∀ vU vV, Intss vU (tidyUp up) → Strss vV val → K (.tuple [.agg [vU, vV], .int .i64 0]) h) :
    ACalls prog 65 [.agg [mU, mV]] h K := by
  refine s65_ok ?_
  unfold s65
  refine newRow_in fun rt hrt => callG_of (right_ok S hU hV (fun hW => ?_) fun hW o hO => ?_)
  · simp only [tTup_tuple, tCons_cons, tBool_bool, tNil_nil]
    refine ifT_pos rfl (st_all (Heap.set_same _ _ _) rfl ?_)
    rw [Heap.set_set, ldN2 (Heap.set_same _ _ _), tCons_cons, tCons_cons, tNil_nil]
    exact retG_drop (Heap.set_sub hrt) (bad hW)
  · simp only [tTup_tuple, tCons_cons, tBool_bool, tNil_nil]
    refine ifT_neg rfl (newRow_in fun ro hro => st_all (Heap.set_same _ _ _) rfl ?_)
    rw [Heap.set_set]
    refine s65l1_in (up.length + 1) (tidy17_l1 hW.max hO hW.len S hV (Heap.set_same _ _ _) (fun q o hq => ⟨(fun e => by rw [e, hrt] at hq; cases hq), Heap.set_sub hrt q o hq⟩) (good hW) up.length 0 (by omega) .nilsl .nilsl [] [] _ (MBs.start hro) ?_ ?_)
    · exact .nil
    · exact .nil
theorem tidyUp_congr {up up' : List (List Int)} (hl : up.length = up'.length) (h : ∀ a b, a < up.length → b < up.length → rb up a b = rb up' a b) : tidyUp up = tidyUp up' := by
  unfold tidyUp
  rw [← hl]
  refine List.map_congr_left fun a ha => ?_
  have ha' : a < up.length := List.mem_range.1 ha
  unfold tidyRow
  rw [← hl]
  congr 1
  refine List.filter_congr fun b hb => ?_
  have hb' : b < up.length := List.mem_range.1 hb
  unfold coverB startB
  rw [h a b ha' hb', ← hl]
  congr 1
  rw [Bool.eq_iff_iff, List.all_eq_true, List.all_eq_true]
  refine forall_congr' fun c => forall_congr' fun hc => ?_
  have hc' : c < up.length := List.mem_range.1 hc
  unfold okc
  rw [h a c ha' hc', h c b hc' hb']
end Go.Proofs.Ytinficcdpggiaaa

namespace Go.Proofs.Ytinficcdpggiaaa
open Go Go.Sym Go.Proofs.Try

variable {K : AVal → Heap → Prop} {h : Heap} {up : List (List Int)} {val : List (List ByteArray)} {mU mV : AVal}

theorem cloneS_ok {v : AVal} {l : List ByteArray} (hv : Strs v l) (hm : l.length ≤ 1073741824) (hk : ∀ v', Strs v' l → K v' h) : ACalls prog 35 [v] h K := by
  refine s35_ok ?_
  unfold s35
  refine nilS_of hv (fun he hv' => ?_) fun hv' => ?_
  · exact ifT_pos rfl (retG_of (hk _ (by rw [hv'] at hv; exact hv)))
  · refine ifT_neg rfl (newRow_in fun r hr => appC_copy hr (elemsA_of hv) (by simp; omega) (by simp; omega) fun v' h' g => ?_)
    obtain ⟨S, v2, h1, h2, h3⟩ := g.freeze
    exact ⟨S, v2, h, h1, h3, hk v2 h2⟩
theorem cloneI_ok {v : AVal} {l : List Int} (hv : Ints v l) (hm : l.length ≤ 1073741824) (hk : ∀ v', Ints v' l → K v' h) : ACalls prog 29 [v] h K := by
  refine s29_ok ?_
  unfold s29
  refine nilS_of hv (fun he hv' => ?_) fun hv' => ?_
  · exact ifT_pos rfl (retG_of (hk _ (by rw [hv'] at hv; exact hv)))
  · refine ifT_neg rfl (newRow_in fun r hr => appC_copy hr (elemsA_of hv) (by simp; omega) (by simp; omega) fun v' h' g => ?_)
    obtain ⟨S, v2, h1, h2, h3⟩ := g.freeze
    exact ⟨S, v2, h, h1, h3, hk v2 h2⟩

/-- the worlds above, but a itself; what is next among them -/
noncomputable def overL (up : List (List Int)) (a : Nat) : List Nat := (List.range up.length).filter (startB up a)
noncomputable def nextB (up : List (List Int)) (a b : Nat) : Bool := !((natI (overL up a)).any fun c => (c != (b : Int)) && rb up c.toNat b)
theorem mem_natI {l : List Nat} {x : Int} : x ∈ natI l ↔ ∃ c ∈ l, x = (c : Int) := by
  unfold natI
  rw [List.mem_map]
  exact ⟨fun ⟨c, h1, h2⟩ => ⟨c, h1, h2.symm⟩, fun ⟨c, h1, h2⟩ => ⟨c, h1, h2.symm⟩⟩
theorem cover_next {a b : Nat} : coverB up a b = (startB up a b && nextB up a b) := by
  unfold coverB nextB
  cases startB up a b with
  | false => rfl
  | true =>
    rw [Bool.true_and, Bool.true_and, Bool.eq_iff_iff, List.all_eq_true]
    constructor
    · intro hall
      rw [Bool.not_eq_true', List.any_eq_false]
      intro x hx
      obtain ⟨c, hc, rfl⟩ := mem_natI.1 hx
      obtain ⟨h1, h2⟩ := List.mem_filter.1 hc
      have h3 := hall c h1
      unfold okc at h3
      unfold startB at h2
      simp only [Int.toNat_natCast, Bool.and_eq_true, bne_iff_ne, ne_eq] at h2 ⊢
      rintro ⟨h4, h5⟩
      rw [show (c == a) = false by simp; omega, show (c == b) = false by simp; omega, h2.2, h5] at h3
      cases h3
    · intro hno c hc
      rw [Bool.not_eq_true', List.any_eq_false] at hno
      unfold okc
      cases e1 : (c == a) with
      | true => rfl
      | false =>
        cases e2 : (c == b) with
        | true => rfl
        | false =>
          cases e3 : rb up a c with
          | false => rfl
          | true =>
            cases e4 : rb up c b with
            | false => rfl
            | true =>
              exfalso
              refine hno (c : Int) (mem_natI.2 ⟨c, List.mem_filter.2 ⟨hc, ?_⟩, rfl⟩) ?_
              · unfold startB; simp at e1; simp [e3]; omega
              · simp at e2; simp [e4]; omega
theorem tidyRow_next (a : Nat) : tidyRow up a = (overL up a).filter (nextB up a) := by
  unfold tidyRow overL
  rw [List.filter_filter]
  congr 1
  funext b
  rw [cover_next, Bool.and_comm]

/-- the function values of the tidying -/
theorem over_call {f : AVal} (hF : LeqF f up) {c0 : AVal} {a b : Nat} (ha : a < up.length) (hb : b < up.length) {h : Heap} (h0 : ∀ K : AVal → Prop, ld1 h c0 K = K (.int .i64 (a : Int)))
    {K : AVal → Heap → Prop} (hk : K (.bool (startB up a b)) h) : callV prog (.func (.func 69) [] [c0, .lptr [f]]) [.int .i64 (b : Int)] h K := by
  show callG prog 69 ([] ++ [.int .i64 (b : Int)] ++ [c0, .lptr [f]]) h K
  refine callG_of (s69_ok ?_)
  unfold s69
  unfold startB at hk
  rw [h0, tInt_int]
  by_cases hab : a = b
  · exact ifT_neg (by simp [hab]) (retG_of (by simpa [hab] using hk))
  · refine ifT_pos (by simp; omega) ?_
    rw [ld1_lptr, h0, tInt_int]
    refine leq_call hF ha hb ?_
    rw [tBool_bool]
    exact retG_of (by rwa [show (a != b) = true by simpa using hab, Bool.true_and] at hk)
theorem above_call {f : AVal} (hF : LeqF f up) {b c : Nat} (hb : b < up.length) (hc : c < up.length) {h : Heap} {K : AVal → Heap → Prop} (hk : K (.bool (((c : Int) != (b : Int)) && rb up c b)) h) :
    callV prog (.func (.func 71) [] [.lptr [.int .i64 (b : Int)], .lptr [f]]) [.int .i64 (c : Int)] h K := by
  show callG prog 71 ([] ++ [.int .i64 (c : Int)] ++ [.lptr [.int .i64 (b : Int)], .lptr [f]]) h K
  refine callG_of (s71_ok ?_)
  unfold s71
  rw [ld1_lptr, tInt_int]
  by_cases hab : (c : Int) = (b : Int)
  · exact ifT_neg (by simp [hab]) (retG_of (by simpa [hab] using hk))
  · refine ifT_pos (by simpa using hab) ?_
    rw [ld1_lptr, ld1_lptr, tInt_int]
    refine leq_call hF hc hb ?_
    rw [tBool_bool]
    exact retG_of (by rwa [show ((c : Int) != (b : Int)) = true by simpa using hab, Bool.true_and] at hk)
theorem next_call {f ov : AVal} (hF : LeqF f up) (hn : up.length ≤ 512) {a b : Nat} (hov : Ints ov (natI (overL up a))) (hb : b < up.length) {h : Heap} {K : AVal → Heap → Prop} (hk : K (.bool (nextB up a b)) h) :
    callV prog (.func (.func 70) [] [.lptr [ov], .lptr [f]]) [.int .i64 (b : Int)] h K := by
  show callG prog 70 ([] ++ [.int .i64 (b : Int)] ++ [.lptr [ov], .lptr [f]]) h K
  refine callG_of (s70_ok ?_)
  unfold s70
  rw [ld1_lptr]
  have hle : (natI (overL up a)).length ≤ 512 := by
    have := List.length_filter_le (startB up a) (List.range up.length)
    simp [natI, overL] at this ⊢
    omega
  refine callG_of (containsFI_ok (p := fun c => (c != (b : Int)) && rb up c.toNat b) hov (by omega) (fun x hx K' hk' => ?_) ?_)
  · obtain ⟨c, hc, rfl⟩ := mem_natI.1 hx
    have hcn : c < up.length := List.mem_range.1 (List.mem_filter.1 hc).1
    exact above_call hF hb hcn (by simpa using hk')
  · rw [tBool_bool]
    exact retG_of hk

theorem tidy_l2 (hn : up.length ≤ 512) {f ov : AVal} (hF : LeqF f up) {a : Nat} (ha : a < up.length) (hl : val.length = up.length) (S : Small up val) (hV : Strss mV val) (hov : Ints ov (natI (overL up a)))
    {L1 : AVal → AVal → AVal → AVal → Int → Int → Heap → Prop} {t2 : AVal} {hb : Heap} {ro : Nat} {vU vV : AVal} {LU LV : List AVal} (hLU : LU.length ≤ 512) (hLV : LV.length ≤ 512) {t24 : Int}
    (hL : ∀ vU' vV' row cp h' hb', Grow 1 hb row (natV (tidyRow up a)) hb' → Strs cp (val[a]'(by omega)) → MB hb' ro vU' vV' (LU ++ [row]) (LV ++ [cp]) h' → L1 (.lptr [mU, mV]) t2 (.lptr [f]) (.ptr ro 0 0) t24 (a + 1) h') :
    ∀ d i : Nat, i + d = (overL up a).length → ∀ row h hM, MB hb ro vU vV LU LV hM → Grow 1 hM row (natV (((overL up a).take i).filter (nextB up a))) h →
      s39l2 K L1 (d + 1) (.lptr [mU, mV]) t2 (.lptr [f]) (.ptr ro 0 0) (.lptr [.int .i64 (a : Int)]) (.func (.func 70) [] [.lptr [ov], .lptr [f]]) row t24 a ov (overL up a).length (i : Int) h
  | 0, i, hd, row, h, hM, M, g => by
    have ha' : a < val.length := by omega
    rw [List.take_of_length_le (by omega), ← tidyRow_next] at g
    obtain ⟨hb', g1, M1⟩ := M.swap g
    unfold s39l2
    refine ifT_neg (by simp; omega) ?_
    rw [addOff_ptr, M1.ldU]
    refine chk_iff.2 ⟨g.sc.1, M1.appU (by omega) (by omega) fun v1 h1 M2 => ?_⟩
    rw [addOff_ptr]
    refine chk_iff.2 ⟨M2.sc.1.1, M2.stU fun h2 M3 => ?_⟩
    rw [addOff_ptr, M3.ldV, addOff_lptr]
    simp only [List.drop_succ_cons, List.drop_zero, ld1_lptr, tInt_int]
    obtain ⟨ev, hev, hix⟩ := hV.ix ha'
    rw [hix, ld1_lptr]
    have hSn := S.names _ (List.getElem_mem ha')
    refine callG_of (cloneS_ok hev (by omega) fun cp hcp => ?_)
    refine ⟨by rw [M3.ldV], chk_iff.2 ⟨hcp.notAgg.2, ⟨by rw [M3.ldV], ?_⟩⟩⟩
    refine M3.appV (by omega) (by omega) fun v2 h4 M5 => ?_
    rw [addOff_ptr]
    refine chk_iff.2 ⟨M5.sc.2.1, M5.stV fun h5 M6 => rg_of (by omega) (by omega) ?_⟩
    exact hL v1 v2 row cp h5 hb' g1 hcp M6
  | d + 1, i, hd, row, h, hM, M, g => by
    have hi : i < (overL up a).length := by omega
    have hlen : (overL up a).length ≤ 512 := by
      have := List.length_filter_le (startB up a) (List.range up.length)
      simp [overL] at this ⊢
      omega
    have hbn : (overL up a)[i] < up.length := List.mem_range.1 (List.mem_filter.1 (List.getElem_mem hi)).1
    unfold s39l2
    refine ifT_pos (by simp; omega) ?_
    have hix : (natI (overL up a))[i]'(by simpa [natI] using hi) = ((overL up a)[i] : Int) := by simp [natI]
    rw [hov.ix (i := i) (by simpa [natI] using hi), ld1_lptr, hix, tInt_int]
    refine next_call hF hn hov hbn ?_
    rw [tBool_bool]
    have hs : ((overL up a).take (i + 1)).filter (nextB up a) = ((overL up a).take i).filter (nextB up a) ++ if nextB up a (overL up a)[i] then [(overL up a)[i]] else [] := by
      rw [List.take_succ_eq_append_getElem hi, List.filter_append, List.filter_cons]; rfl
    have hle : (natV (((overL up a).take i).filter (nextB up a))).length ≤ i := by
      rw [natV_len]
      have := List.length_filter_le (nextB up a) ((overL up a).take i)
      simp at this
      omega
    cases hnx : nextB up a (overL up a)[i] with
    | true =>
      rw [hnx, if_pos rfl] at hs
      refine ifT_pos rfl (appC_one g (by omega) (by omega) fun v' h' g' => rg_of (by omega) (by omega) (s39l2_go (tidy_l2 hn hF ha hl S hV hov hLU hLV hL d (i + 1) (by omega) v' h' hM M ?_)))
      rw [hs, natV_app]
      exact g'
    | false =>
      rw [hnx] at hs
      refine ifT_neg rfl (rg_of (by omega) (by omega) (s39l2_go (tidy_l2 hn hF ha hl S hV hov hLU hLV hL d (i + 1) (by omega) row h hM M ?_)))
      rw [hs]
      simpa using g

theorem tidy_l1 (hn : up.length ≤ 512) {f : AVal} (hF : LeqF f up) (hU : Intss mU up) (hl : val.length = up.length) (S : Small up val) (hV : Strss mV val) {hb : Heap} {ro rt : Nat} {X : AVal} (hrt : hb rt = some (.row 2 [.agg [.nilsl, X]])) {h0 : Heap} (hsub : ∀ q o, h0 q = some o → q ≠ rt ∧ hb q = some o)
    (good : ∀ vU vV, Intss vU (tidyUp up) → Strss vV val → K (.tuple [.agg [vU, vV], .int .i64 0]) h0) :
    ∀ d a : Nat, a + d = up.length → ∀ vU vV LU LV h, MB hb ro vU vV LU LV h → All2 Ints LU ((tidyUp up).take a) → All2 Strs LV (val.take a) → s39l1 K (d + 1) (.lptr [mU, mV]) (.ptr rt 0 0) (.lptr [f]) (.ptr ro 0 0) up.length (a : Int) h
  | 0, a, hd, vU, vV, LU, LV, h, M, aU, aV => by
    obtain rfl : a = up.length := by omega
    unfold s39l1
    refine ifT_neg (by simp) ?_
    rw [M.ld, tCons_cons, tCons_cons, tNil_nil]
    have M1 := M.upd (x := .row 2 [.agg [vU, vV]]) hrt
    refine st_all (M.old hrt) rfl ?_
    rw [ldN2 (Heap.set_same _ _ _), tCons_cons, tCons_cons, tNil_nil]
    obtain ⟨Sn, vU', vV', l1, l2, s1, s2, hS, hold⟩ := M1.freeze
    have hlen : (tidyUp up).length = up.length := by simp [tidyUp]
    rw [List.take_of_length_le (by omega)] at aU
    rw [List.take_of_length_le (by omega)] at aV
    refine ⟨Sn, _, h0, .tuple (.cons (.agg (.cons l1 (.cons l2 .nil))) (.cons (.refl _) .nil)), ⟨fun _ _ => trivial, fun q o hq => ⟨o, ?_, ?_, .refl o⟩⟩, good vU' vV' ⟨LU, s1, aU⟩ ⟨LV, s2, aV⟩⟩
    · obtain ⟨h1, h2⟩ := hsub q o hq
      exact hold q o (by rw [Heap.set_ne _ _ h1]; exact h2)
    · intro hs
      have h3 := hS q hs
      obtain ⟨h1, h2⟩ := hsub q o hq
      rw [Heap.set_ne _ _ h1, h2] at h3
      cases h3
  | d + 1, a, hd, vU, vV, LU, LV, h, M, aU, aV => by
    have ha : a < up.length := by omega
    have hlen : (tidyUp up).length = up.length := by simp [tidyUp]
    have hLU : LU.length ≤ 512 := by have := aU.length; simp at this; omega
    have hLV : LV.length ≤ 512 := by have := aV.length; simp at this; omega
    unfold s39l1
    refine ifT_pos (by simp; omega) (newRow_in fun r3 hr3 => st_elem (Heap.set_same _ _ _) rfl rfl ?_)
    rw [show [AVal.int .i64 0].set 0 (.int .i64 (a : Int)) = [.int .i64 (a : Int)] from rfl, Heap.set_set, ldN_agg2, tCons_cons, tCons_cons, tNil_nil]
    refine callG_of (all_ok (p := startB up a) hU (by omega) (fun b hb h' K' hs hk' => over_call hF ha hb (fun K => ld1_one (hs _ _ (Heap.set_same _ _ _)) rfl K) hk') fun ov hov => ?_)
    refine newRow_in fun r4 hr4 => chk_iff.2 ⟨hov.notAgg.2, st_elem (Heap.set_same _ _ _) rfl rfl ?_⟩
    have hova : ov.isAgg = false := by rcases hov with rfl | ⟨rfl, _⟩ <;> rfl
    rw [show [AVal.nilsl].set 0 ov = [ov] from rfl, Heap.set_set, ld1_one (Heap.set_same _ _ _) hova, hov.len]
    have hne : r4 ≠ r3 := fun e => by rw [e, Heap.set_same] at hr4; cases hr4
    have hr4' : h r4 = none := by rwa [Heap.set_ne _ _ hne] at hr4
    have hlo : (natI (overL up a)).length = (overL up a).length := by simp [natI]
    have hlo2 : (natI ((List.range up.length).filter (startB up a))).length = (overL up a).length := hlo
    rw [hlo2]
    refine ⟨fun q => q = r3 ∨ q = r4, [.lptr [mU, mV], .ptr rt 0 0, .lptr [f], .ptr ro 0 0, .lptr [.int .i64 (a : Int)], .func (.func 70) [] [.lptr [ov], .lptr [f]], .nilsl, .int .i64 up.length, .int .i64 (a : Int), ov, .int .i64 (overL up a).length, .int .i64 0], h, ?_, ?_, rfl, (overL up a).length + 1, ?_⟩
    · have h3 : ((h.set r3 (.row 1 [.int .i64 (a : Int)])).set r4 (.row 1 [ov])) r3 = some (.row 1 [.int .i64 (a : Int)]) := by rw [Heap.set_ne _ _ hne.symm, Heap.set_same]
      refine .cons (.refl _) (.cons (.refl _) (.cons (.refl _) (.cons (.refl _) (.cons (.ptr (.inl rfl) h3 rfl (Lits.refl _)) (.cons (.func .nil (.cons (.ptr (.inr rfl) (Heap.set_same _ _ _) rfl ?_) (Lits.refl _))) (Lits.refl _))))))
      rw [List.drop_zero, cells_of_notAgg hova]
      exact Lits.refl _
    · refine ⟨fun _ _ => trivial, fun q o hq => ⟨o, ?_, ?_, .refl o⟩⟩
      · exact Heap.set_sub hr4 q o (Heap.set_sub hr3 q o hq)
      · rintro (e | e)
        · rw [e, hr3] at hq; cases hq
        · rw [e, hr4'] at hq; cases hq
    · have := tidy_l2 hn hF ha hl S hV hov (L1 := s39l1_G (s39l1 K (d + 1))) (t2 := .ptr rt 0 0) (t24 := up.length) (hb := hb) (ro := ro) (mU := mU) (K := K) hLU hLV (fun vU' vV' row cp h' hb' g1 hcp M' => ?_) (overL up a).length 0 (by omega) .nilsl h h M .nil
      · exact this
      · obtain ⟨Sg, h2, row', s1, M2, hg⟩ := M'.settle1 g1
        refine ⟨Sg, _, h2, Lits.refl _, hg, rfl, ?_⟩
        have := tidy_l1 hn hF hU hl S hV hrt hsub good d (a + 1) (by omega) vU' vV' _ _ h2 M2 ?_ ?_
        · exact this
        · rw [List.take_succ_eq_append_getElem (by omega)]
          refine aU.append (.cons ?_ .nil)
          have hga : (tidyUp up)[a]'(by omega) = natI (tidyRow up a) := by simp [tidyUp]
          rw [hga]
          unfold Ints
          rwa [← natV_eq]
        · rw [List.take_succ_eq_append_getElem (by omega)]
          exact aV.append (.cons hcp .nil)

theorem tidy_ok (S : Small up val) (hU : Intss mU up) (hV : Strss mV val) (bad : ¬ WF up val → K (.tuple [.agg [.nilsl, .nilsl], .int .i64 170]) h) (good : WF up val → ∀ vU vV, Intss vU (tidyUp up) → Strss vV val → K (.tuple [.agg [vU, vV], .int .i64 0]) h) :
    ACalls prog 39 [.agg [mU, mV]] h K := by
  refine s39_ok ?_
  unfold s39
  refine newRow_in fun rt hrt => callG_of (asked_ok (l := []) S hU hV (.inr ⟨rfl, rfl⟩) (by simp) (fun hW => ?_) (fun _ hW => absurd (by simp) hW) fun hW _ f hF => ?_)
  · simp only [tTup_tuple, tCons_cons, tInt_int, tNil_nil]
    refine newRow_in fun r hr => chk_iff.2 ⟨rfl, st_elem (Heap.set_same _ _ _) rfl rfl (ifT_pos rfl ?_)⟩
    rw [Heap.set_set]
    have hne : r ≠ rt := fun e => by rw [e, Heap.set_same] at hr; cases hr
    have hr' : h r = none := by rwa [Heap.set_ne _ _ hne] at hr
    refine st_all (cs := [.nilsl, .nilsl]) (es := 2) (by rw [Heap.set_ne _ _ hne.symm, Heap.set_same]) rfl ?_
    rw [ldN2 (Heap.set_same _ _ _), tCons_cons, tCons_cons, tNil_nil]
    refine retG_drop (fun q o hq => ?_) (bad hW)
    have h1 : q ≠ rt := fun e => by rw [e, hrt] at hq; cases hq
    have h2 : q ≠ r := fun e => by rw [e, hr'] at hq; cases hq
    rw [Heap.set_ne _ _ h1, Heap.set_ne _ _ h2, Heap.set_ne _ _ h1]
    exact hq
  · simp only [tTup_tuple, tCons_cons, tInt_int, tNil_nil]
    have hFc : Go.Sym.sc f = true ∧ f.isAgg = false := by obtain ⟨o, rfl, _⟩ := hF; exact ⟨rfl, rfl⟩
    refine newRow_in fun r hr => chk_iff.2 ⟨hFc.1, st_elem (Heap.set_same _ _ _) rfl rfl (ifT_neg rfl (newRow_in fun ro hro => ?_))⟩
    rw [Heap.set_set] at hro ⊢
    rw [hU.len]
    have hne : r ≠ rt := fun e => by rw [e, Heap.set_same] at hr; cases hr
    have hr' : h r = none := by rwa [Heap.set_ne _ _ hne] at hr
    have hne2 : ro ≠ r := fun e => by rw [e, Heap.set_same] at hro; cases hro
    have hro' : (h.set rt (.row 2 [.agg [.nilsl, .nilsl]])) ro = none := by rwa [Heap.set_ne _ _ hne2] at hro
    refine ⟨fun q => q = r, [.lptr [mU, mV], .ptr rt 0 0, .lptr [f], .ptr ro 0 0, .int .i64 up.length, .int .i64 0], (h.set rt (.row 2 [.agg [.nilsl, .nilsl]])).set ro (.row 2 [.agg [.nilsl, .nilsl]]), ?_, ?_, rfl, up.length + 1, ?_⟩
    · refine .cons (.refl _) (.cons (.refl _) (.cons (.ptr rfl (by rw [Heap.set_ne _ _ hne2.symm]; exact Heap.set_same _ _ _) rfl ?_) (Lits.refl _)))
      rw [List.drop_zero]
      show Lits _ _ (cellsOf f) [f]
      rw [cells_of_notAgg hFc.2]
      exact Lits.refl _
    · refine ⟨fun _ _ => trivial, fun q o hq => ?_⟩
      rw [Heap.set_get] at hq
      split at hq
      · rename_i e
        subst e
        cases hq
        exact ⟨_, Heap.set_same _ _ _, hne2, .refl _⟩
      · rename_i e
        refine ⟨o, ?_, (fun e' => by rw [e', hr] at hq; cases hq), .refl _⟩
        rw [Heap.set_ne _ _ e, Heap.set_ne _ _ (fun e' => by rw [e', hr] at hq; cases hq)]
        exact hq
    · have := tidy_l1 hW.max hF hU hW.len S hV (Heap.set_same _ _ _) (fun q o hq => ⟨(fun e => by rw [e, hrt] at hq; cases hq), Heap.set_sub hrt q o hq⟩) (good hW) up.length 0 (by omega) .nilsl .nilsl [] [] _ (MBs.start hro') .nil .nil
      exact this
theorem fail_ok {hb h : Heap} {rt : Nat} {c : Int} {X Y : AVal} (ht : hb rt = some (.row 2 [.agg [X, Y]])) (hsub : ∀ q o, h q = some o → q ≠ rt ∧ hb q = some o) (bad : K (.tuple [.agg [.nilsl, .nilsl], .nilsl, .int .i64 c]) h) :
    st false hb (.ptr rt 0 0) [.nilsl, .nilsl] fun h_2 => ldN 2 h_2 (.ptr rt 0 0) fun l_5 => tCons l_5 fun v4 l_6 => tCons l_6 fun v5 l_7 => tNil l_7 (retG (.tuple [(.agg [v4, v5]), .nilsl, (.int .i64 c)]) h_2 K) := by
  refine st_all ht rfl ?_
  rw [ldN2 (Heap.set_same _ _ _), tCons_cons, tCons_cons, tNil_nil]
  refine retG_drop (fun q o hq => ?_) bad
  rw [Heap.set_ne _ _ (hsub q o hq).1]
  exact (hsub q o hq).2

end Go.Proofs.Ytinficcdpggiaaa

namespace Go.Proofs.Ytinficcdpggiaaa
open Go Go.Sym Go.Proofs.Try

variable {K : AVal → Heap → Prop} {h : Heap} {up up' : List (List Int)} {val val' : List (List ByteArray)} {mU mV nU nV : AVal}

theorem tidied_ok (S : Small up val) (hU : Intss mU up) (hV : Strss mV val) (W : WF up val) (good : ∀ vU vV, Intss vU (tidyUp up) → Strss vV val → K (.agg [vU, vV]) h) : ACalls prog 36 [.agg [mU, mV]] h K := by
  refine s36_ok ?_
  unfold s36
  refine newRow_in fun r hr => newRow_in fun r1 hr1 => ?_
  have hne : r1 ≠ r := fun e => by rw [e, Heap.set_same] at hr1; cases hr1
  have hr1' : h r1 = none := by rwa [Heap.set_ne _ _ hne] at hr1
  have g0 : ((h.set r (.row 2 [.agg [mU, mV]])).set r1 (.row 2 [.agg [.nilsl, .nilsl]])) r = some (.row 2 [.agg [mU, mV]]) := by rw [Heap.set_ne _ _ hne.symm, Heap.set_same]
  rw [ldN2 g0, tCons_cons, tCons_cons, tNil_nil]
  refine callG_of (tidy_ok S hU hV (fun hW => absurd W hW) fun _ vU vV hvU hvV => ?_)
  simp only [tTup_tuple, tCons_cons, tInt_int, tNil_nil, tAgg_agg]
  refine st_all g0 rfl ?_
  rw [ldN2 (Heap.set_same _ _ _), tCons_cons, tCons_cons, tNil_nil]
  refine st_all (cs := [.nilsl, .nilsl]) (es := 2) (by rw [Heap.set_ne _ _ hne, Heap.set_same]) rfl ?_
  rw [ldN2 (Heap.set_same _ _ _), tCons_cons, tCons_cons, tNil_nil]
  refine retG_drop (fun q o hq => ?_) (good vU vV hvU hvV)
  have h1 : q ≠ r := fun e => by rw [e, hr] at hq; cases hq
  have h2 : q ≠ r1 := fun e => by rw [e, hr1'] at hq; cases hq
  rw [Heap.set_ne _ _ h2, Heap.set_ne _ _ h1, Heap.set_ne _ _ h2, Heap.set_ne _ _ h1]
  exact hq

theorem tidy19_ok (S : Small up val) (hU : Intss mU up) (hV : Strss mV val) (W : WF up val) (good : ∀ vU vV, Intss vU (tidyUp up) → Strss vV val → K (.agg [vU, vV]) h) : ACalls prog 37 [.agg [mU, mV]] h K := by
  refine s37_ok ?_
  unfold s37
  refine newRow_in fun r hr => callG_of (tidy17_ok S hU hV (fun hW => absurd W hW) fun _ vU vV hvU hvV => ?_)
  simp only [tTup_tuple, tCons_cons, tInt_int, tNil_nil, tAgg_agg]
  refine newRow_in fun r1 hr1 => st_all (Heap.set_same _ _ _) rfl ?_
  have hne : r1 ≠ r := fun e => by rw [e, Heap.set_same] at hr1; cases hr1
  have hr1' : h r1 = none := by rwa [Heap.set_ne _ _ hne] at hr1
  rw [Heap.set_set, ldN2 (Heap.set_same _ _ _), tCons_cons, tCons_cons, tNil_nil]
  refine st_all (cs := [.nilsl, .nilsl]) (es := 2) (by rw [Heap.set_ne _ _ hne.symm, Heap.set_same]) rfl ?_
  rw [ldN2 (Heap.set_same _ _ _), tCons_cons, tCons_cons, tNil_nil]
  refine retG_drop (fun q o hq => ?_) (good vU vV hvU hvV)
  have h1 : q ≠ r := fun e => by rw [e, hr] at hq; cases hq
  have h2 : q ≠ r1 := fun e => by rw [e, hr1'] at hq; cases hq
  rw [Heap.set_ne _ _ h1, Heap.set_ne _ _ h2, Heap.set_ne _ _ h1]
  exact hq

theorem copy_l2 (S : Small up val) (hV : Strss mV val) {hb : Heap} {ro rt : Nat} {X : AVal} (hrt : hb rt = some (.row 2 [.agg [.nilsl, X]])) {h0 : Heap} (hsub : ∀ q o, h0 q = some o → q ≠ rt ∧ hb q = some o)
    (good : ∀ vU vV, Intss vU up → Strss vV val → K (.agg [vU, vV]) h0) {LU : List AVal} (aU : All2 Ints LU up) :
    ∀ d i : Nat, i + d = val.length → ∀ vU vV LV h, MB hb ro vU vV LU LV h → All2 Strs LV (val.take i) → s8l2 K (d + 1) (.lptr [mU, mV]) (.ptr rt 0 0) (.ptr ro 0 0) (i : Int) h
  | 0, i, hd, vU, vV, LV, h, M, aV => by
    unfold s8l2
    rw [addOff_lptr]
    simp only [List.drop_succ_cons, List.drop_zero, ld1_lptr]
    rw [hV.len]
    refine ifT_neg (by simp; omega) ?_
    rw [M.ld, tCons_cons, tCons_cons, tNil_nil]
    have M1 := M.upd (x := .row 2 [.agg [vU, vV]]) hrt
    refine st_all (M.old hrt) rfl ?_
    rw [ldN2 (Heap.set_same _ _ _), tCons_cons, tCons_cons, tNil_nil]
    obtain ⟨Sn, vU', vV', l1, l2, s1, s2, hS, hold⟩ := M1.freeze
    rw [List.take_of_length_le (by omega)] at aV
    refine ⟨Sn, _, h0, .agg (.cons l1 (.cons l2 .nil)), ⟨fun _ _ => trivial, fun q o hq => ⟨o, ?_, ?_, .refl o⟩⟩, good vU' vV' ⟨LU, s1, aU⟩ ⟨LV, s2, aV⟩⟩
    · obtain ⟨h1, h2⟩ := hsub q o hq
      exact hold q o (by rw [Heap.set_ne _ _ h1]; exact h2)
    · intro hs
      have h3 := hS q hs
      obtain ⟨h1, h2⟩ := hsub q o hq
      rw [Heap.set_ne _ _ h1, h2] at h3
      cases h3
  | d + 1, i, hd, vU, vV, LV, h, M, aV => by
    have hi : i < val.length := by omega
    have hvl := S.vals
    have hSn := S.names _ (List.getElem_mem hi)
    have hLV : LV.length ≤ i := by have := aV.length; simp at this; omega
    obtain ⟨ev, hev, hix⟩ := hV.ix hi
    unfold s8l2
    rw [addOff_lptr]
    simp only [List.drop_succ_cons, List.drop_zero, ld1_lptr]
    rw [hV.len]
    refine ifT_pos (by simp; omega) ?_
    rw [addOff_ptr, M.ldV, addOff_lptr]
    simp only [List.drop_succ_cons, List.drop_zero, ld1_lptr]
    rw [hix, ld1_lptr]
    refine newRow_in fun r2 hr2 => ?_
    have hget : (h.set r2 (.row 1 [])) ro = some (.row 2 [.agg [vU, vV]]) := Heap.set_sub hr2 _ _ M.get
    refine ⟨by first | rfl | trivial, ⟨by first | rfl | trivial, ⟨by rw [ld1_fld hget rfl], ?_⟩⟩⟩
    refine appC_copy hr2 (elemsA_of hev) (by simp; omega) (by simp; omega) fun cp h3 g2 => ?_
    have hget3 : h3 ro = some (.row 2 [.agg [vU, vV]]) := g2.old M.get
    refine ⟨by rw [ld1_fld hget3 rfl], chk_iff.2 ⟨g2.sc.1, ⟨by rw [ld1_fld hget3 rfl], ?_⟩⟩⟩
    obtain ⟨hb'', g3, M4⟩ := M.swap g2
    refine M4.appV (by omega) (by omega) fun v2 h4 M5 => ?_
    rw [addOff_ptr]
    refine chk_iff.2 ⟨M5.sc.2.1, M5.stV fun h5 M6 => rg_of (by omega) (by omega) ?_⟩
    obtain ⟨Sg, h6, cp', s1, M7, hg⟩ := M6.settleV g3
    refine ⟨Sg, _, h6, Lits.refl _, hg, rfl, ?_⟩
    have := copy_l2 S hV hrt hsub good aU d (i + 1) (by omega) vU v2 _ h6 M7 ?_
    · exact this
    · rw [List.take_succ_eq_append_getElem hi]
      exact aV.append (.cons s1 .nil)

theorem copy_l1 (S : Small up val) (hU : Intss mU up) (hV : Strss mV val) {hb : Heap} {ro rt : Nat} {X : AVal} (hrt : hb rt = some (.row 2 [.agg [.nilsl, X]])) {h0 : Heap} (hsub : ∀ q o, h0 q = some o → q ≠ rt ∧ hb q = some o)
    (good : ∀ vU vV, Intss vU up → Strss vV val → K (.agg [vU, vV]) h0) :
    ∀ d i : Nat, i + d = up.length → ∀ vU LU h, MB hb ro vU .nilsl LU [] h → All2 Ints LU (up.take i) → s8l1 K (d + 1) (.lptr [mU, mV]) (.ptr rt 0 0) (.ptr ro 0 0) (i : Int) h
  | 0, i, hd, vU, LU, h, M, aU => by
    unfold s8l1
    rw [addOff_lptr]
    simp only [List.drop_zero, ld1_lptr]
    rw [hU.len]
    rw [List.take_of_length_le (by omega)] at aU
    exact ifT_neg (by simp; omega) (s8l2_in (val.length + 1) (copy_l2 S hV hrt hsub good aU val.length 0 (by omega) vU .nilsl [] h M .nil))
  | d + 1, i, hd, vU, LU, h, M, aU => by
    have hi : i < up.length := by omega
    have hvl := S.ups
    have hSn := S.row _ (List.getElem_mem hi)
    have hLU : LU.length ≤ i := by have := aU.length; simp at this; omega
    obtain ⟨ev, hev, hix⟩ := hU.ix hi
    unfold s8l1
    rw [addOff_lptr]
    simp only [List.drop_zero, ld1_lptr]
    rw [hU.len]
    refine ifT_pos (by simp; omega) ?_
    rw [addOff_ptr, M.ldU, addOff_lptr]
    simp only [List.drop_zero, ld1_lptr]
    rw [hix, ld1_lptr]
    refine newRow_in fun r2 hr2 => ?_
    have hget : (h.set r2 (.row 1 [])) ro = some (.row 2 [.agg [vU, .nilsl]]) := Heap.set_sub hr2 _ _ M.get
    refine ⟨by first | rfl | trivial, ⟨by first | rfl | trivial, ⟨by rw [ld1_fld hget rfl], ?_⟩⟩⟩
    refine appC_copy hr2 (elemsA_of hev) (by simp; omega) (by simp; omega) fun cp h3 g2 => ?_
    have hget3 : h3 ro = some (.row 2 [.agg [vU, .nilsl]]) := g2.old M.get
    refine ⟨by rw [ld1_fld hget3 rfl], chk_iff.2 ⟨g2.sc.1, ⟨by rw [ld1_fld hget3 rfl], ?_⟩⟩⟩
    obtain ⟨hb'', g3, M4⟩ := M.swap g2
    refine M4.appU (by omega) (by omega) fun v2 h4 M5 => ?_
    rw [addOff_ptr]
    refine chk_iff.2 ⟨M5.sc.1.1, M5.stU fun h5 M6 => rg_of (by omega) (by omega) ?_⟩
    obtain ⟨Sg, h6, cp', s1, M7, hg⟩ := M6.settle1 g3
    refine ⟨Sg, _, h6, Lits.refl _, hg, rfl, ?_⟩
    have := copy_l1 S hU hV hrt hsub good d (i + 1) (by omega) v2 _ h6 M7 ?_
    · exact this
    · rw [List.take_succ_eq_append_getElem hi]
      exact aU.append (.cons s1 .nil)

theorem copy_ok (S : Small up val) (hU : Intss mU up) (hV : Strss mV val) (good : ∀ vU vV, Intss vU up → Strss vV val → K (.agg [vU, vV]) h) : ACalls prog 8 [.agg [mU, mV]] h K := by
  refine s8_ok ?_
  unfold s8
  refine newRow_in fun rt hrt => newRow_in fun ro hro => st_all (Heap.set_same _ _ _) rfl ?_
  rw [Heap.set_set]
  exact s8l1_in (up.length + 1) (copy_l1 S hU hV (Heap.set_same _ _ _) (fun q o hq => ⟨(fun e => by rw [e, hrt] at hq; cases hq), Heap.set_sub hrt q o hq⟩) good up.length 0 (by omega) .nilsl [] _ (MBs.start hro) .nil)

theorem same_l3 (S : Small up val) (hV : Strss mV val) (hV' : Strss nV val') (hl : val.length = val'.length) : ∀ d i : Nat, i + d = val.length → K (.bool (decide (val.drop i = val'.drop i))) h → s19l3 K (d + 1) (.lptr [mU, mV]) (.lptr [nU, nV]) (i : Int) h
  | 0, i, hd, hk => by
    unfold s19l3
    rw [addOff_lptr]
    simp only [List.drop_succ_cons, List.drop_zero, ld1_lptr]
    rw [hV.len]
    refine ifT_neg (by simp; omega) (retG_of ?_)
    rw [List.drop_eq_nil_of_le (by omega), List.drop_eq_nil_of_le (by omega)] at hk
    simpa using hk
  | d + 1, i, hd, hk => by
    have hi : i < val.length := by omega
    have hi' : i < val'.length := by omega
    have hSv := S.vals
    have hSn := (S.names _ (List.getElem_mem hi)).2
    obtain ⟨e1, h1, ix1⟩ := hV.ix hi
    obtain ⟨e2, h2, ix2⟩ := hV'.ix hi'
    unfold s19l3
    rw [addOff_lptr]
    simp only [List.drop_succ_cons, List.drop_zero, ld1_lptr]
    rw [hV.len]
    refine ifT_pos (by simp; omega) ?_
    simp only [addOff_lptr, List.drop_succ_cons, List.drop_zero, ld1_lptr, ix1, ix2]
    refine callG_of (names_ok h1 h2 (by omega) ?_)
    rw [tBool_bool]
    rw [drop_eq_step hi hi'] at hk
    by_cases he : val[i] = val'[i]
    · refine ifT_neg (by simp [he]) (rg_of (by omega) (by omega) (s19l3_go (same_l3 S hV hV' hl d (i + 1) (by omega) (by simpa [he] using hk))))
    · exact ifT_pos (by simp [he]) (retG_of (by simpa [he] using hk))

theorem same_l2 (S : Small up val) (hU : Intss mU up) (hV : Strss mV val) (hU' : Intss nU up') (hV' : Strss nV val') (hlu : up.length = up'.length) (hl : val.length = val'.length) :
    ∀ d i : Nat, i + d = up.length → K (.bool (decide (up.drop i = up'.drop i) && decide (val = val'))) h → s19l2 K (d + 1) (.lptr [mU, mV]) (.lptr [nU, nV]) (i : Int) h
  | 0, i, hd, hk => by
    unfold s19l2
    rw [addOff_lptr]
    simp only [List.drop_zero, ld1_lptr]
    rw [hU.len]
    rw [List.drop_eq_nil_of_le (by omega), List.drop_eq_nil_of_le (by omega)] at hk
    exact ifT_neg (by simp; omega) (s19l3_in (val.length + 1) (same_l3 S hV hV' hl val.length 0 (by omega) (by simpa using hk)))
  | d + 1, i, hd, hk => by
    have hi : i < up.length := by omega
    have hi' : i < up'.length := by omega
    have hSv := S.ups
    have hSn := S.row _ (List.getElem_mem hi)
    obtain ⟨e1, h1, ix1⟩ := hU.ix hi
    obtain ⟨e2, h2, ix2⟩ := hU'.ix hi'
    unfold s19l2
    rw [addOff_lptr]
    simp only [List.drop_zero, ld1_lptr]
    rw [hU.len]
    refine ifT_pos (by simp; omega) ?_
    simp only [addOff_lptr, List.drop_zero, ld1_lptr, ix1, ix2]
    refine callG_of (ints_ok h1 h2 (by omega) ?_)
    rw [tBool_bool]
    rw [drop_eq_step hi hi'] at hk
    by_cases he : up[i] = up'[i]
    · refine ifT_neg (by simp [he]) (rg_of (by omega) (by omega) (s19l2_go (same_l2 S hU hV hU' hV' hlu hl d (i + 1) (by omega) (by simpa [he] using hk))))
    · exact ifT_pos (by simp [he]) (retG_of (by simpa [he] using hk))

theorem same_ok (S : Small up val) (hU : Intss mU up) (hV : Strss mV val) (hU' : Intss nU up') (hV' : Strss nV val') (hk : K (.bool (decide (up = up') && decide (val = val'))) h) : ACalls prog 19 [.agg [mU, mV], .agg [nU, nV]] h K := by
  refine s19_ok ?_
  unfold s19
  rw [hU.len, hU'.len]
  by_cases h1 : up.length = up'.length
  · refine ifT_neg (by simp [h1]) ?_
    rw [hV.len, hV'.len]
    by_cases h2 : val.length = val'.length
    · refine ifT_neg (by simp [h2]) (s19l2_in (up.length + 1) (same_l2 S hU hV hU' hV' h1 h2 up.length 0 (by omega) (by simpa using hk)))
    · refine ifT_pos (by simp; omega) (retG_of ?_)
      rwa [show decide (val = val') = false by simp; intro e; exact h2 (by rw [e]), Bool.and_false] at hk
  · refine ifT_pos (by simp; omega) (ifT_pos rfl (retG_of ?_))
    rwa [show decide (up = up') = false by simp; intro e; exact h1 (by rw [e]), Bool.false_and] at hk

theorem told_ok {l l' : AVal} {k k' : List Int} {e e' : Int} (S : Small up val) (hU : Intss mU up) (hV : Strss mV val) (hU' : Intss nU up) (hV' : Strss nV val) (h1 : Ints l k) (h2 : Ints l' k) (hkl : k.length ≤ 1048576) (he : e = e') (hk : K (.bool true) h) :
    ACalls prog 11 [.agg [mU, mV], l, .int .i64 e, .agg [nU, nV], l', .int .i64 e'] h K := by
  refine s11_ok ?_
  unfold s11
  refine callG_of (same_ok S hU hV hU' hV' ?_)
  rw [tBool_bool]
  refine ifT_pos (by simp) (callG_of (ints_ok h1 h2 (by omega) ?_))
  rw [tBool_bool]
  exact ifT_pos (by simp) (retG_of (by simpa [he] using hk))
end Go.Proofs.Ytinficcdpggiaaa

namespace Go.Proofs.Ytinficcdpggiaaa
open Go Go.Sym Go.Proofs.Try

variable {K : AVal → Heap → Prop} {h h0 : Heap}

theorem heads_end (HH : runsTrue prog 20 20000 60 = true) (hs : ∀ q o, h0 q = some o → h q = some o) (hk : K (.bool true) h0) :
    callG prog 20 [] h fun v h2 => tBool v fun b => retG (.bool b) h2 K := by
  refine callG_of (heads_ok HH ?_)
  rw [tBool_bool]
  exact retG_drop hs hk
theorem set_sub2 {h0 h : Heap} {r : Nat} {o : AObj} (hs : ∀ q o, h0 q = some o → h q = some o) (hr : h r = none) : ∀ q o', h0 q = some o' → h.set r o q = some o' := fun q o' hq => Heap.set_sub hr q o' (hs q o' hq)
end Go.Proofs.Ytinficcdpggiaaa

namespace Go.Proofs.Ytinficcdpggiaaa
open Go Go.Sym Go.Proofs.Try

variable {K : AVal → Heap → Prop} {up : List (List Int)} {val : List (List ByteArray)} {mU mV : AVal}

/- ---- a map as a set ---- -/
def mapV (V : List Nat) : List (AVal × AVal) := V.map fun (v : Nat) => (.int .i64 (v : Int), .int .i64 1)
theorem find_in {v : Nat} : ∀ (V : List Nat) (i : Nat), v ∈ V → ∃ j, findM (.int .i64 (v : Int)) (mapV V) i = some (some (j, .int .i64 1))
  | [], _, h => by simp at h
  | x :: V, i, h => by
    show ∃ j, findM (.int .i64 (v : Int)) ((.int .i64 (x : Int), .int .i64 1) :: mapV V) i = _
    unfold findM keyEq
    simp only [decide_true]
    by_cases e : v = x
    · subst e
      exact ⟨i, by simp⟩
    · rw [show ((v : Int) == (x : Int)) = false by rw [beq_eq_false_iff_ne]; omega]
      exact find_in V (i + 1) (by simpa [e] using h)
theorem find_out {v : Nat} : ∀ (V : List Nat) (i : Nat), v ∉ V → findM (.int .i64 (v : Int)) (mapV V) i = some none
  | [], _, _ => rfl
  | x :: V, i, h => by
    show findM (.int .i64 (v : Int)) ((.int .i64 (x : Int), .int .i64 1) :: mapV V) i = _
    unfold findM keyEq
    simp only [decide_true]
    have h1 : v ≠ x ∧ v ∉ V := by simpa using h
    rw [show ((v : Int) == (x : Int)) = false by rw [beq_eq_false_iff_ne]; have := h1.1; omega]
    exact find_out V (i + 1) h1.2
theorem mapGet_in {h : Heap} {rm : Nat} {V : List Nat} (hm : h rm = some (.map (mapV V))) {v : Nat} (hv : v ∈ V) {K : AVal → Bool → Prop} (hk : K (.int .i64 1) true) : mapGet (.int .i64 0) h (.mapr rm) (.int .i64 (v : Int)) K := by
  obtain ⟨j, e⟩ := find_in V 0 hv
  unfold mapGet mapGetR entsA
  simp only [hm, e]
  exact hk
theorem mapGet_out {h : Heap} {rm : Nat} {V : List Nat} (hm : h rm = some (.map (mapV V))) {v : Nat} (hv : v ∉ V) {K : AVal → Bool → Prop} (hk : K (.int .i64 0) false) : mapGet (.int .i64 0) h (.mapr rm) (.int .i64 (v : Int)) K := by
  unfold mapGet mapGetR entsA
  simp only [hm, find_out V 0 hv]
  exact hk
theorem mapPut_out {h : Heap} {rm : Nat} {V : List Nat} (hm : h rm = some (.map (mapV V))) {v : Nat} (hv : v ∉ V) {K : Heap → Prop} (hk : K (h.set rm (.map (mapV (V ++ [v]))))) : mapPut h (.mapr rm) (.int .i64 (v : Int)) (.int .i64 1) K := by
  unfold mapPut mapPutR putM
  simp only [hm, find_out V 0 hv]
  simpa [mapV] using hk
theorem Heap.set_self {h : Heap} {r : Nat} {o : AObj} (hr : h r = some o) : h.set r o = h := by
  funext q
  simp only [Heap.set]
  split
  · rename_i e; rw [e, hr]
  · rfl

/- ---- a measure ---- -/
theorem filter_le {α : Type} {p q : α → Bool} : ∀ (l : List α), (∀ x, p x = true → q x = true) → (l.filter p).length ≤ (l.filter q).length
  | [], _ => by simp
  | a :: l, h => by
    have ih := filter_le l h
    by_cases e : p a = true
    · rw [List.filter_cons_of_pos e, List.filter_cons_of_pos (h a e)]
      simp only [List.length_cons]; omega
    · rw [List.filter_cons_of_neg e]
      by_cases e2 : q a = true
      · rw [List.filter_cons_of_pos e2]; simp only [List.length_cons]; omega
      · rw [List.filter_cons_of_neg e2]; exact ih
theorem filter_lt {α : Type} {p q : α → Bool} {x : α} : ∀ (l : List α), (∀ x, p x = true → q x = true) → x ∈ l → q x = true → p x = false → (l.filter p).length < (l.filter q).length
  | [], _, hx, _, _ => by simp at hx
  | a :: l, h, hx, hq, hp => by
    rcases List.mem_cons.1 hx with rfl | hx
    · rw [List.filter_cons_of_neg (by rw [hp]; decide), List.filter_cons_of_pos hq]
      have := filter_le l h
      simp only [List.length_cons]; omega
    · have ih := filter_lt l h hx hq hp
      by_cases e : p a = true
      · rw [List.filter_cons_of_pos e, List.filter_cons_of_pos (h a e)]
        simp only [List.length_cons]; omega
      · rw [List.filter_cons_of_neg e]
        by_cases e2 : q a = true
        · rw [List.filter_cons_of_pos e2]; simp only [List.length_cons]; omega
        · rw [List.filter_cons_of_neg e2]; exact ih
/-- how many are not in yet -/
def outN (n : Nat) (V : List Nat) : Nat := ((List.range n).filter fun x => decide (x ∉ V)).length
theorem outN_le {n : Nat} {V W : List Nat} (h : ∀ x ∈ V, x ∈ W) : outN n W ≤ outN n V := filter_le _ fun x hx => by
  simp only [decide_eq_true_eq] at hx ⊢
  exact fun hv => hx (h x hv)
theorem outN_lt {n : Nat} {V : List Nat} {v : Nat} (hv : v < n) (ho : v ∉ V) : outN n (V ++ [v]) < outN n V :=
  filter_lt (x := v) _ (fun x hx => by
    simp only [decide_eq_true_eq] at hx ⊢
    exact fun h => hx (List.mem_append_left _ h)) (List.mem_range.2 hv) (by simpa using ho) (by simp)

/-- what a climb from v leaves -/
structure ClP (up : List (List Int)) (V : List Nat) (v : Nat) (W : List Nat) : Prop where
  sub : ∀ x ∈ V, x ∈ W
  self : v ∈ W
  lt : ∀ x ∈ W, x < up.length
  reach : ∀ x ∈ W, x ∈ V ∨ Reach up v x
  closed : ∀ x ∈ W, x ∉ V → ∀ y, Step up x y → y ∈ W
/-- .. behind j of the steps up from v -/
structure ClQ (up : List (List Int)) (V : List Nat) (v : Nat) (row : List Int) (j : Nat) (W : List Nat) : Prop where
  sub : ∀ x ∈ V, x ∈ W
  self : v ∈ W
  lt : ∀ x ∈ W, x < up.length
  reach : ∀ x ∈ W, x ∈ V ∨ Reach up v x
  closed : ∀ x ∈ W, x ∉ V → x ≠ v → ∀ y, Step up x y → y ∈ W
  done : ∀ i b, i < j → row[i]? = some b → b.toNat ∈ W
theorem ClQ.next {V W W' : List Nat} {v j : Nat} {row : List Int} {b : Int} (Q : ClQ up V v row j W) (hr : up[v]? = some row) (hb : row[j]? = some b) (h0 : 0 ≤ b) (P : ClP up W b.toNat W') : ClQ up V v row (j + 1) W' where
  sub x hx := P.sub x (Q.sub x hx)
  self := P.sub _ Q.self
  lt := P.lt
  reach x hx := by
    rcases P.reach x hx with h | h
    · exact Q.reach x h
    · exact .inr (Reach.trans (.tail .refl ⟨row, hr, by rw [Int.toNat_of_nonneg h0]; exact List.mem_of_getElem? hb⟩) h)
  closed x hx hV hv y hs := by
    by_cases e : x ∈ W
    · exact P.sub y (Q.closed x e hV hv y hs)
    · exact P.closed x hx e y hs
  done i c hi hc := by
    by_cases e : i = j
    · subst e
      rw [hb] at hc
      cases hc
      exact P.self
    · exact P.sub _ (Q.done i c (by omega) hc)
theorem ClQ.end {V W : List Nat} {v : Nat} {row : List Int} (Q : ClQ up V v row row.length W) (hr : up[v]? = some row) : ClP up V v W where
  sub := Q.sub
  self := Q.self
  lt := Q.lt
  reach := Q.reach
  closed x hx hV y hs := by
    by_cases e : x = v
    · subst e
      obtain ⟨r, hr', hy⟩ := hs
      rw [hr] at hr'
      cases hr'
      obtain ⟨i, hi, e⟩ := List.mem_iff_getElem.1 hy
      have := Q.done i _ hi (List.getElem?_eq_getElem hi)
      rw [e] at this
      simpa using this
    · exact Q.closed x hx hV e y hs

def climbF (mU mV : AVal) (r1 r2 : Nat) : AVal := .func (.func 57) [] [.ptr r1 0 0, .lptr [mU, mV], .ptr r2 0 0]
/-- the memory that a climb meets -/
structure ClH (mU mV : AVal) (r1 r2 rm : Nat) (V : List Nat) (h : Heap) : Prop where
  h1 : h r1 = some (.row 1 [.mapr rm])
  h2 : h r2 = some (.row 1 [climbF mU mV r1 r2])
  hm : h rm = some (.map (mapV V))
  n1 : r1 ≠ rm
  n2 : r2 ≠ rm
theorem ClH.put {r1 r2 rm : Nat} {V : List Nat} {h : Heap} (H : ClH mU mV r1 r2 rm V h) (W : List Nat) : ClH mU mV r1 r2 rm W (h.set rm (.map (mapV W))) :=
  ⟨by rw [Heap.set_ne _ _ H.n1]; exact H.h1, by rw [Heap.set_ne _ _ H.n2]; exact H.h2, Heap.set_same _ _ _, H.n1, H.n2⟩

theorem climb_l1 (hn : up.length ≤ 512) {r1 r2 rm d : Nat} (ih : ∀ (V : List Nat) (v : Nat) (h : Heap) (K : AVal → Heap → Prop), outN up.length V ≤ d → (∀ x ∈ V, x < up.length) → v < up.length → ClH mU mV r1 r2 rm V h →
      (∀ W, ClP up V v W → K (.tuple []) (h.set rm (.map (mapV W)))) → callV prog (climbF mU mV r1 r2) [.int .i64 (v : Int)] h K)
    {V : List Nat} {v : Nat} {row : List Int} {e : AVal} (he : Ints e row) (hrl : row.length ≤ 1048576) (hr : up[v]? = some row) (hrow : ∀ b ∈ row, 0 ≤ b ∧ b < up.length) (hd : outN up.length (V ++ [v]) ≤ d) {h : Heap}
    (good : ∀ W, ClP up V v W → K (.tuple []) (h.set rm (.map (mapV W)))) :
    ∀ k j : Nat, j + k = row.length → ∀ W, ClQ up V v row j W → ClH mU mV r1 r2 rm W (h.set rm (.map (mapV W))) → s57l1 K (k + 1) (.ptr r2 0 0) e (row.length : Int) (j : Int) (h.set rm (.map (mapV W)))
  | 0, j, hj, W, Q, H => by
    unfold s57l1
    obtain rfl : j = row.length := by omega
    exact ifT_neg (by simp) (retG_of (good W (Q.end hr)))
  | k + 1, j, hj, W, Q, H => by
    have hjl : j < row.length := by omega
    have hb := hrow _ (List.getElem_mem hjl)
    unfold s57l1
    refine ifT_pos (by simp; omega) ?_
    rw [he.ix hjl, ld1_lptr, tInt_int, ld1_one H.h2 rfl]
    have hle : outN up.length W ≤ d := Nat.le_trans (outN_le fun x hx => by
      rcases List.mem_append.1 hx with hx | hx
      · exact Q.sub x hx
      · rw [List.mem_singleton.1 hx]; exact Q.self) hd
    have hcast : row[j] = ((row[j].toNat : Nat) : Int) := by omega
    rw [hcast]
    refine ih W row[j].toNat _ _ hle Q.lt (by omega) H fun W' P => ?_
    rw [Heap.set_set]
    refine rg_of (by omega) (by omega) (s57l1_go ?_)
    have H' : ClH mU mV r1 r2 rm W' (h.set rm (.map (mapV W'))) := by
      have := H.put W'
      rwa [Heap.set_set] at this
    exact climb_l1 hn ih he hrl hr hrow hd good k (j + 1) (by omega) W' (Q.next hr (List.getElem?_eq_getElem hjl) hb.1 P) H'

theorem climb_call (hn : up.length ≤ 512) (hU : Intss mU up) (hrl : ∀ r ∈ up, r.length ≤ 1048576) (hi : InR up) {r1 r2 rm : Nat} : ∀ (d : Nat) (V : List Nat) (v : Nat) (h : Heap) (K : AVal → Heap → Prop), outN up.length V ≤ d → (∀ x ∈ V, x < up.length) → v < up.length →
    ClH mU mV r1 r2 rm V h → (∀ W, ClP up V v W → K (.tuple []) (h.set rm (.map (mapV W)))) → callV prog (climbF mU mV r1 r2) [.int .i64 (v : Int)] h K := by
  intro d
  induction d with
  | zero =>
    intro V v h K hd hlt hv H good
    show callG prog 57 ([] ++ [.int .i64 (v : Int)] ++ [.ptr r1 0 0, .lptr [mU, mV], .ptr r2 0 0]) h K
    refine callG_of (s57_ok ?_)
    unfold s57
    have hin : v ∈ V := by
      by_cases e : v ∈ V
      · exact e
      · have := outN_lt hv e
        omega
    rw [ld1_one H.h1 rfl]
    refine mapGet_in H.hm hin ?_
    rw [tInt_int]
    refine ifT_pos rfl (retG_of ?_)
    have := good V ⟨fun x hx => hx, hin, hlt, fun x hx => .inl hx, fun x hx hx' => absurd hx hx'⟩
    rwa [Heap.set_self H.hm] at this
  | succ d ih =>
    intro V v h K hd hlt hv H good
    show callG prog 57 ([] ++ [.int .i64 (v : Int)] ++ [.ptr r1 0 0, .lptr [mU, mV], .ptr r2 0 0]) h K
    refine callG_of (s57_ok ?_)
    unfold s57
    rw [ld1_one H.h1 rfl]
    by_cases hin : v ∈ V
    · refine mapGet_in H.hm hin ?_
      rw [tInt_int]
      refine ifT_pos rfl (retG_of ?_)
      have := good V ⟨fun x hx => hx, hin, hlt, fun x hx => .inl hx, fun x hx hx' => absurd hx hx'⟩
      rwa [Heap.set_self H.hm] at this
    · refine mapGet_out H.hm hin ?_
      rw [tInt_int]
      refine ifT_neg rfl ?_
      rw [ld1_one H.h1 rfl]
      refine mapPut_out H.hm hin ?_
      obtain ⟨e, he, hie⟩ := hU.ix hv
      rw [addOff_lptr]
      simp only [List.drop_zero, ld1_lptr]
      rw [hie, ld1_lptr, he.len]
      have hlt2 := outN_lt hv hin
      refine s57l1_in (up[v].length + 1) ?_
      refine climb_l1 (V := V) (d := d) hn ih he (hrl _ (List.getElem_mem hv)) (List.getElem?_eq_getElem hv) (hi _ (List.getElem_mem hv)) (by omega) good up[v].length 0 (by omega) (V ++ [v]) ⟨fun x hx => List.mem_append_left _ hx, by simp, fun x hx => ?_, fun x hx => ?_, fun x hx h1 h2 => ?_, fun i b hi => absurd hi (by omega)⟩ (H.put _)
      · rcases List.mem_append.1 hx with hx | hx
        · exact hlt x hx
        · rw [List.mem_singleton.1 hx]; exact hv
      · rcases List.mem_append.1 hx with hx | hx
        · exact .inl hx
        · rw [List.mem_singleton.1 hx]; exact .inr .refl
      · rcases List.mem_append.1 hx with hx | hx
        · exact absurd hx h1
        · exact absurd (List.mem_singleton.1 hx) h2

/-- from nothing, a climb finds all that are above -/
theorem ClP.all {v : Nat} {W : List Nat} (P : ClP up [] v W) (x : Nat) : x ∈ W ↔ Reach up v x := by
  constructor
  · intro hx
    rcases P.reach x hx with h | h
    · simp at h
    · exact h
  · intro h
    induction h with
    | refl => exact P.self
    | tail _ hs ih => exact P.closed _ ih (by simp) _ hs
end Go.Proofs.Ytinficcdpggiaaa

namespace Go.Proofs.Ytinficcdpggiaaa
open Go Go.Sym Go.Proofs.Try

variable {K : AVal → Heap → Prop} {h0 : Heap} {up : List (List Int)} {val : List (List ByteArray)} {mU mV : AVal}

noncomputable def aboveL (up : List (List Int)) (a : Nat) : List Nat := (List.range up.length).filter (rb up a)
noncomputable def ordUp (up : List (List Int)) : List (List Int) := (List.range up.length).map fun a => natI (aboveL up a)

theorem Own.ne {hb h : Heap} {os : List Ow} (W : Own hb os h) {i j p q : Nat} {o o' : AObj} (hi : os[i]? = some (.cell p o)) (hj : os[j]? = some (.cell q o')) (hij : i ≠ j) : p ≠ q := fun e => by
  subst e
  exact hij (W.one i j _ _ p hi hj rfl rfl)

theorem st_one {h : Heap} {r es : Nat} {e c : AVal} {K : Heap → Prop} (hr : h r = some (.row es [e])) (ha : e.isAgg = false) (hk : K (h.set r (.row es [c]))) : st true h (.ptr r 0 0) [c] K := st_elem hr rfl ha hk

/-- the rows that are done -/
structure RT (up : List (List Int)) (a : Nat) (R : List AVal) : Prop where
  len : R.length = up.length
  done : ∀ a', a' < a → ∃ e, R[a']? = some e ∧ Ints e (natI (aboveL up a'))
  rest : ∀ a', a' < up.length → a ≤ a' → R[a']? = some .nilsl

theorem reckonM_l2 (hn : up.length ≤ 512) {a : Nat} (ha : a < up.length) {ro r1 r2 rm : Nat} {Wc : List Nat} (hW : ∀ x, x ∈ Wc ↔ Reach up a x) {F : AVal → AVal → Int → Int → Heap → Prop} {N : Int} {fv : AVal}
    (good : ∀ R' h', RT up (a + 1) R' → Own h0 [.cell ro (.row 1 R')] h' → F (.lptr [mU, mV]) (.sl ro 1 0 up.length) N ((a : Int) + 1) h') :
    ∀ d b : Nat, b + d = up.length → ∀ R x h, R.length = up.length → (∀ a', a' < a → ∃ e, R[a']? = some e ∧ Ints e (natI (aboveL up a'))) → (∀ a', a' < up.length → a < a' → R[a']? = some .nilsl) → R[a]? = some x →
      Own h0 [.cell ro (.row 1 R), .slc 1 x ((natI ((List.range b).filter (rb up a))).map (.int .i64)), .cell rm (.map (mapV Wc)), .cell r1 (.row 1 [.mapr rm]), .cell r2 (.row 1 [fv])] h →
      s28l2 K (s28l1_G F) (d + 1) (.lptr [mU, mV]) (.sl ro 1 0 up.length) (a : Int) (.ptr r1 0 0) N (a : Int) (up.length : Int) (b : Int) h
  | 0, b, hd, R, x, h, hl, hdone, hrest, hx, W => by
    obtain rfl : b = up.length := by omega
    unfold s28l2
    refine ifT_neg (by simp) (rg_of (by omega) (by omega) ?_)
    obtain ⟨x', lx, sx⟩ := W.lit (i := 1) rfl (S := nameOf x) (fun _ h => h) (Lits.refl _)
    obtain ⟨h', g, W'⟩ := W.step (nameOf x) [.cell ro (.row 1 (R.set a x'))] (fun n hn => W.new 1 _ n rfl hn) (fun j y' hj => by
      match j, hj with
      | 0, hj =>
        cases hj
        exact ⟨_, rfl, trivial, fun n hn => ⟨hn, fun hm => absurd (W.one 0 1 _ _ n rfl rfl hn hm) (by decide)⟩, .row (Lits.set hx lx)⟩
      | j + 1, hj => simp at hj)
    refine ⟨_, _, h', Lits.refl _, g, rfl, good (R.set a x') h' ⟨by simp [hl], fun a' ha' => ?_, fun a' ha' hle => ?_⟩ W'⟩
    · by_cases e : a' = a
      · subst e
        exact ⟨x', List.getElem?_set_self (by rw [hl]; exact ha), sx⟩
      · rw [List.getElem?_set_ne (Ne.symm e)]
        exact hdone a' (by omega)
    · rw [List.getElem?_set_ne (by omega)]
      exact hrest a' ha' (by omega)
  | d + 1, b, hd, R, x, h, hl, hdone, hrest, hx, W => by
    have hb : b < up.length := by omega
    unfold s28l2
    refine ifT_pos (by simp; omega) ?_
    rw [ld1_one (W.get 3 _ r1 rfl rfl) rfl]
    have hlen : ((natI ((List.range b).filter (rb up a))).map (AVal.int .i64)).length ≤ b := by
      simp only [natI, List.length_map]
      have := List.length_filter_le (rb up a) (List.range b)
      simpa using this
    have hsucc := range_filter_succ (rb up a) b
    by_cases hin : b ∈ Wc
    · have hrb : rb up a b = true := rb_iff.2 ((hW b).1 hin)
      refine mapGet_in (W.get 2 _ rm rfl rfl) hin ?_
      rw [tInt_int]
      have hagg := (W.sc (i := 1) rfl).2.2
      refine ifT_pos rfl (ixS_sl0 ha ?_)
      rw [ld1_ptr (W.get 0 _ ro rfl rfl) hx hagg]
      refine W.app (i := 1) rfl (by omega) (by omega) fun x2 h2 W2 => ixS_sl0 ha (chk_iff.2 ⟨(W2.sc (i := 1) rfl).1, st_elem (W2.get 0 _ ro rfl rfl) hx hagg ?_⟩)
      refine rg_of (by omega) (by omega) (s28l2_go ?_)
      refine reckonM_l2 (r1 := r1) (r2 := r2) (rm := rm) (fv := fv) hn ha hW good d (b + 1) (by omega) (R.set a x2) x2 _ (by simp [hl]) (fun a' ha' => ?_) (fun a' ha' hlt => ?_) (List.getElem?_set_self (by rw [hl]; exact ha)) ?_
      · rw [List.getElem?_set_ne (by omega)]; exact hdone a' ha'
      · rw [List.getElem?_set_ne (by omega)]; exact hrest a' ha' hlt
      · rw [hsucc, if_pos hrb]
        have W3 := W2.put (i := 0) rfl (.row 1 (R.set a x2))
        simpa [natI] using W3
    · have hrb : rb up a b = false := by
        cases e : rb up a b with
        | false => rfl
        | true => exact absurd ((hW b).2 (rb_iff.1 e)) hin
      refine mapGet_out (W.get 2 _ rm rfl rfl) hin ?_
      rw [tInt_int]
      refine ifT_neg rfl (rg_of (by omega) (by omega) (s28l2_go ?_))
      refine reckonM_l2 (r1 := r1) (r2 := r2) (rm := rm) (fv := fv) hn ha hW good d (b + 1) (by omega) R x h hl hdone hrest hx ?_
      rw [hsucc, hrb]
      simpa using W

theorem reckonM_l1 (hn : up.length ≤ 512) (hU : Intss mU up) (hrl : ∀ r ∈ up, r.length ≤ 1048576) (hi : InR up) {ro : Nat} (good : ∀ o, Intss o (ordUp up) → K (.tuple [o, .int .i64 0]) h0) :
    ∀ d a : Nat, a + d = up.length → ∀ R h, RT up a R → Own h0 [.cell ro (.row 1 R)] h → s28l1 K (d + 1) (.lptr [mU, mV]) (.sl ro 1 0 up.length) (up.length : Int) (a : Int) h
  | 0, a, hd, R, h, T, W => by
    obtain rfl : a = up.length := by omega
    unfold s28l1
    refine ifT_neg (by simp) ?_
    refine ⟨fun q => q = ro, .tuple [.lsl 1 R, .int .i64 0], h0, .tuple (.cons (.whole rfl (W.get 0 _ ro rfl rfl) T.len.symm) (.cons (.refl _) .nil)), ⟨fun _ _ => trivial, fun q o hq => ⟨o, W.old q o hq, (fun e => by
      have := W.new 0 _ q rfl e
      rw [this] at hq; cases hq), .refl o⟩⟩, good _ ⟨R, .lsl 1 R, ?_⟩⟩
    have all : ∀ (L : List AVal) (M : List (List Int)), L.length = M.length → (∀ i (h1 : i < L.length) (h2 : i < M.length), Ints L[i] M[i]) → All2 Ints L M := by
      intro L
      induction L with
      | nil => intro M hl _; cases M with
        | nil => exact .nil
        | cons _ _ => simp at hl
      | cons x L ih => intro M hl hg; cases M with
        | nil => simp at hl
        | cons y M => exact .cons (hg 0 (by simp) (by simp)) (ih M (by simpa using hl) (fun i h1 h2 => hg (i + 1) (by simpa using h1) (by simpa using h2)))
    refine all R (ordUp up) (by rw [T.len]; simp [ordUp]) fun i h1 h2 => ?_
    obtain ⟨e, he, hI⟩ := T.done i (by rw [← T.len]; exact h1)
    rw [List.getElem?_eq_getElem h1] at he
    cases he
    simpa [ordUp] using hI
  | d + 1, a, hd, R, h, T, W => by
    have ha : a < up.length := by omega
    unfold s28l1
    refine ifT_pos (by simp; omega) (fun rm hrm _ => newRow_in fun r1 hr1 => ?_)
    have W1 := ((W.newN 1).newC hrm (.map [])).newC hr1 (.row 1 [.nilmap])
    refine st_one (e := .nilmap) (W1.get 3 _ r1 rfl rfl) rfl ?_
    have W2 := W1.put (i := 3) rfl (.row 1 [.mapr rm])
    refine newRow_in fun r2 hr2 => ?_
    have W3 := W2.newC hr2 (.row 1 [.nilfunc])
    refine st_one (e := .nilfunc) (W3.get 4 _ r2 rfl rfl) rfl ?_
    have W4 := W3.put (i := 4) rfl (.row 1 [climbF mU mV r1 r2])
    have e2 := ld1_one (W4.get 4 _ r2 rfl rfl) rfl
    refine Eq.mpr (e2 _) ?_
    have H : ClH mU mV r1 r2 rm [] _ := ⟨W4.get 3 _ r1 rfl rfl, W4.get 4 _ r2 rfl rfl, W4.get 2 _ rm rfl rfl, Own.ne W4 (i := 3) (j := 2) rfl rfl (by decide), Own.ne W4 (i := 4) (j := 2) rfl rfl (by decide)⟩
    refine climb_call hn hU hrl hi _ [] a _ _ (Nat.le_refl _) (by simp) ha H fun Wc P => ?_
    have W5 := W4.put (i := 2) rfl (.map (mapV Wc))
    rw [lenN_sl]
    refine s28l2_in (up.length + 1) ?_
    refine reckonM_l2 (Wc := Wc) hn ha P.all (fun R' h' T' W' => ?_) up.length 0 (by omega) R .nilsl _ T.len (fun a' ha' => T.done a' ha') (fun a' ha' hlt => T.rest a' ha' (by omega)) (T.rest a ha (Nat.le_refl _)) W5
    exact reckonM_l1 hn hU hrl hi good d (a + 1) (by omega) R' h' T' W'

theorem reckonM_ok (S : Small up val) (hU : Intss mU up) (hV : Strss mV val) (bad : ¬ WF up val → K (.tuple [.nilsl, .int .i64 170]) h0) (good : WF up val → ∀ o, Intss o (ordUp up) → K (.tuple [o, .int .i64 0]) h0) : ACalls prog 28 [.agg [mU, mV]] h0 K := by
  refine s28_ok ?_
  unfold s28
  refine callG_of (check_ok S hU hV (fun hW => ?_) (fun hW => ?_))
  · rw [tInt_int]
    exact ifT_pos rfl (retG_of (bad hW))
  · rw [tInt_int]
    refine ifT_neg rfl ?_
    have hmax := hW.max
    rw [hU.len]
    refine mkS_own (by omega) (by omega) fun ro hro => ?_
    rw [lenN_sl]
    refine s28l1_in (up.length + 1) ?_
    exact reckonM_l1 (mV := mV) hmax hU S.row hW.inR (good hW) up.length 0 (by omega) (List.replicate up.length .nilsl) _ ⟨by simp, fun a' ha' => by omega, fun a' ha' _ => by simp [ha']⟩ ((Own.start h0).newC hro _)
end Go.Proofs.Ytinficcdpggiaaa

namespace Go.Proofs.Ytinficcdpggiaaa
open Go Go.Sym Go.Proofs.Try

variable {K : AVal → Heap → Prop} {h h0 : Heap} {up up' : List (List Int)} {val val' : List (List ByteArray)} {mU mV nU nV : AVal}

theorem equal_l1 {a b : AVal} {la lb : List ByteArray} (ha : Strs a la) (hb : Strs b lb) (hl : la.length = lb.length) (hm : la.length ≤ 1073741824) : ∀ d i : Nat, i + d = la.length →
    K (.bool (decide (la.drop i = lb.drop i))) h → s53l1 K (d + 1) a b (la.length : Int) (i : Int) h
  | 0, i, hd, hk => by
    unfold s53l1
    rw [List.drop_eq_nil_of_le (by omega), List.drop_eq_nil_of_le (by omega)] at hk
    exact ifT_neg (by simp; omega) (retG_of (by simpa using hk))
  | d + 1, i, hd, hk => by
    have hi : i < la.length := by omega
    have hi' : i < lb.length := by omega
    unfold s53l1
    refine ifT_pos (by simp; omega) ?_
    rw [ha.ix hi, ld1_lptr, tStr_str, hb.ix hi', ld1_lptr, tStr_str, strEq_dec]
    rw [drop_eq_step hi hi'] at hk
    by_cases he : la[i] = lb[i]
    · refine ifT_neg (by simp [he]) (rg_of (by omega) (by omega) ?_)
      exact s53l1_go (equal_l1 ha hb hl hm d (i + 1) (by omega) (by simpa [he] using hk))
    · exact ifT_pos (by simp [he]) (retG_of (by simpa [he] using hk))
theorem equal_ok {a b : AVal} {la lb : List ByteArray} (ha : Strs a la) (hb : Strs b lb) (hm : la.length ≤ 1073741824) (hk : K (.bool (decide (la = lb))) h) : ACalls prog 53 [a, b] h K := by
  refine s53_ok ?_
  unfold s53
  rw [ha.len, hb.len]
  by_cases hl : la.length = lb.length
  · refine ifT_neg (by simp [hl]) ?_
    rw [ha.len]
    exact s53l1_in (la.length + 1) (equal_l1 ha hb hl hm la.length 0 (by omega) (by simpa using hk))
  · refine ifT_pos (by simp; omega) (retG_of ?_)
    rwa [show decide (la = lb) = false by simp; intro e; exact hl (by rw [e])] at hk

/- ---- a map that counts ---- -/
def mapC (M : List (Int × Int)) : List (AVal × AVal) := M.map fun e => (.int .i64 e.1, .int .i64 e.2)
def findC (c : Int) : List (Int × Int) → Nat → Option (Nat × Int)
  | [], _ => none
  | e :: M, i => if c = e.1 then some (i, e.2) else findC c M (i + 1)
def putC (c v : Int) (M : List (Int × Int)) : List (Int × Int) := match findC c M 0 with
  | some (j, _) => M.set j (c, v)
  | none => M ++ [(c, v)]
theorem findM_mapC (c : Int) : ∀ (M : List (Int × Int)) (i : Nat), findM (.int .i64 c) (mapC M) i = some ((findC c M i).map fun x => (x.1, .int .i64 x.2))
  | [], _ => rfl
  | e :: M, i => by
    show findM (.int .i64 c) ((.int .i64 e.1, .int .i64 e.2) :: mapC M) i = _
    unfold findM keyEq findC
    simp only [decide_true]
    by_cases h : c = e.1
    · rw [if_pos h, show (c == e.1) = true by simpa using h]
      rfl
    · rw [if_neg h, show (c == e.1) = false by simpa using h]
      exact findM_mapC c M (i + 1)
theorem findC_spec (c : Int) : ∀ (M : List (Int × Int)) (i : Nat), (∀ x, findC c M i = some x → ∃ j, x.1 = i + j ∧ M[j]? = some (c, x.2)) ∧ (findC c M i = none → ∀ e ∈ M, e.1 ≠ c)
  | [], _ => ⟨fun x h => by simp [findC] at h, fun _ e h => by simp at h⟩
  | e :: M, i => by
    have ih := findC_spec c M (i + 1)
    unfold findC
    split
    · rename_i h
      refine ⟨fun x hx => ?_, fun hx => by cases hx⟩
      cases hx
      exact ⟨0, rfl, by rw [h]; rfl⟩
    · rename_i h
      refine ⟨fun x hx => ?_, fun hx y hy => ?_⟩
      · obtain ⟨j, h1, h2⟩ := ih.1 x hx
        exact ⟨j + 1, by omega, h2⟩
      · rcases List.mem_cons.1 hy with rfl | hy
        · exact fun e => h e.symm
        · exact ih.2 hx y hy
theorem mapGetC {h : Heap} {rm : Nat} {M : List (Int × Int)} (hm : h rm = some (.map (mapC M))) (c : Int) {K : AVal → Bool → Prop} (hin : ∀ v, (c, v) ∈ M → K (.int .i64 v) true) (hout : (∀ e ∈ M, e.1 ≠ c) → K (.int .i64 0) false) : mapGet (.int .i64 0) h (.mapr rm) (.int .i64 c) K := by
  unfold mapGet mapGetR entsA
  simp only [hm, findM_mapC]
  have hs := findC_spec c M 0
  cases e : findC c M 0 with
  | none => exact hout (hs.2 e)
  | some x =>
    obtain ⟨j, _, h2⟩ := hs.1 x e
    exact hin x.2 (List.mem_of_getElem? h2)
theorem mapPutC {h : Heap} {rm : Nat} {M : List (Int × Int)} (hm : h rm = some (.map (mapC M))) (c v : Int) {K : Heap → Prop} (hk : K (h.set rm (.map (mapC (putC c v M))))) : mapPut h (.mapr rm) (.int .i64 c) (.int .i64 v) K := by
  unfold mapPut mapPutR putM
  simp only [hm, findM_mapC]
  unfold putC at hk
  cases e : findC c M 0 with
  | none => rw [e] at hk; simpa [mapC] using hk
  | some x => rw [e] at hk; simpa [mapC, List.map_set] using hk
theorem putC_keys {c v : Int} {M : List (Int × Int)} (d : Int) : (∃ e ∈ putC c v M, e.1 = d) ↔ (d = c ∨ ∃ e ∈ M, e.1 = d) := by
  have hs := findC_spec c M 0
  unfold putC
  cases e : findC c M 0 with
  | none =>
    simp only [List.mem_append, List.mem_singleton]
    constructor
    · rintro ⟨y, hy | rfl, rfl⟩
      · exact .inr ⟨y, hy, rfl⟩
      · exact .inl rfl
    · rintro (rfl | ⟨y, hy, rfl⟩)
      · exact ⟨_, .inr rfl, rfl⟩
      · exact ⟨y, .inl hy, rfl⟩
  | some x =>
    obtain ⟨j, h1, h2⟩ := hs.1 x e
    have hj : x.1 = j := by omega
    simp only [hj]
    have hlt := (List.getElem?_eq_some_iff.1 h2).1
    constructor
    · rintro ⟨y, hy, rfl⟩
      rcases List.mem_or_eq_of_mem_set hy with hy | rfl
      · exact .inr ⟨y, hy, rfl⟩
      · exact .inl rfl
    · rintro (rfl | ⟨y, hy, rfl⟩)
      · exact ⟨(d, v), List.mem_set hlt _, rfl⟩
      · obtain ⟨i, hi, rfl⟩ := List.mem_iff_getElem.1 hy
        by_cases e : i = j
        · subst e
          refine ⟨(c, v), List.mem_set hlt _, ?_⟩
          rw [List.getElem?_eq_getElem hi] at h2
          rw [Option.some.inj h2]
        · exact ⟨M[i], List.mem_iff_getElem.2 ⟨i, by simpa using hi, by rw [List.getElem_set_ne (Ne.symm e)]⟩, rfl⟩
theorem putC_vals {c v : Int} {M : List (Int × Int)} : ∀ e ∈ putC c v M, e = (c, v) ∨ e ∈ M := by
  intro y hy
  unfold putC at hy
  split at hy
  · rcases List.mem_or_eq_of_mem_set hy with hy | rfl
    · exact .inr hy
    · exact .inl rfl
  · rcases List.mem_append.1 hy with hy | hy
    · exact .inr hy
    · exact .inl (List.mem_singleton.1 hy)

theorem intss_sc {v : AVal} {l : List (List Int)} (h : Intss v l) : Go.Sym.sc v = true ∧ v.isAgg = false := by
  obtain ⟨L, h1, _⟩ := h
  rcases h1 with rfl | ⟨rfl, _⟩ <;> exact ⟨rfl, rfl⟩

/- ---- the law of the test ---- -/
def gOf (f : List Int) (x : Nat) : Nat := (f.getD x 0).toNat
def IsB (up : List (List Int)) (val : List (List ByteArray)) (up' : List (List Int)) (val' : List (List ByteArray)) (f : List Int) : Prop :=
  ∀ a, a < up.length → val.getD a [] = val'.getD (gOf f a) [] ∧ (∀ b, Reach up a b → Reach up' (gOf f a) (gOf f b)) ∧ ∀ c, Reach up' (gOf f a) c → ∃ b, Reach up a b ∧ gOf f b = c
structure FitF (up up' : List (List Int)) (f : List Int) : Prop where
  len : f.length = up.length
  rng : ∀ w ∈ f, 0 ≤ w ∧ w < up'.length
theorem FitF.get {f : List Int} (F : FitF up up' f) {x : Nat} (hx : x < f.length) : f[x] = ((gOf f x : Nat) : Int) ∧ gOf f x < up'.length := by
  have := F.rng _ (List.getElem_mem hx)
  have e : gOf f x = f[x].toNat := by unfold gOf; rw [List.getD_eq_getElem?_getD, List.getElem?_eq_getElem hx]; rfl
  rw [e]
  omega
theorem mem_aboveL {a x : Nat} (hi : InR up) (ha : a < up.length) : x ∈ aboveL up a ↔ Reach up a x := by
  unfold aboveL
  rw [List.mem_filter, List.mem_range, rb_iff]
  exact ⟨fun h => h.2, fun h => ⟨h.lt hi ha, h⟩⟩
theorem ordUp_get {a : Nat} (ha : a < up.length) : (ordUp up)[a]'(by simpa [ordUp] using ha) = natI (aboveL up a) := by simp [ordUp]
theorem ordUp_len : (ordUp up).length = up.length := by simp [ordUp]
theorem above_len {a : Nat} : (aboveL up a).length ≤ up.length := by
  have := List.length_filter_le (rb up a) (List.range up.length)
  simpa [aboveL] using this

theorem hit_call {rm r2 : Nat} {M : List (Int × Int)} {h : Heap} (hm : h rm = some (.map (mapC M))) (h2 : h r2 = some (.row 1 [.mapr rm])) (hv : ∀ e ∈ M, 1 ≤ e.2) (c : Int) (K : AVal → Heap → Prop) {p : Bool} (hp : p = true ↔ ∀ e ∈ M, e.1 ≠ c) (hk : K (.bool p) h) :
    callV prog (.func (.func 55) [] [.ptr r2 0 0]) [.int .i64 c] h K := by
  show callG prog 55 ([] ++ [.int .i64 c] ++ [.ptr r2 0 0]) h K
  refine callG_of (s55_ok ?_)
  unfold s55
  rw [ld1_one h2 rfl]
  refine mapGetC hm c (fun v hin => ?_) (fun hout => ?_)
  · rw [tInt_int]
    have h1 := hv _ hin
    have : p = false := by
      cases p with
      | false => rfl
      | true => exact absurd rfl (hp.1 rfl _ hin)
    rw [this] at hk
    refine retG_of ?_
    rwa [show (v == 0) = false by simpa using (by simp only at h1; omega : v ≠ 0)]
  · rw [tInt_int]
    rw [hp.2 hout] at hk
    exact retG_of hk

/-- what is known behind j of the worlds above -/
structure HM (f : List Int) (row : List Nat) (j : Nat) (M : List (Int × Int)) : Prop where
  keys : ∀ c : Int, (∃ e ∈ M, e.1 = c) ↔ ∃ (i : Nat) (b : Nat), i < j ∧ row[i]? = some b ∧ ((gOf f b : Nat) : Int) = c
  vals : ∀ e ∈ M, 1 ≤ e.2 ∧ e.2 ≤ j

theorem bounded_l3 (W' : WF up' val') (Wm : WF up val) {f : List Int} (F : FitF up up' f) {vf o p : AVal} (hf : Ints vf f) (hP : Intss p (ordUp up')) {a : Nat} (ha : a < up.length) {e : AVal} (he : Ints e (natI (aboveL up a)))
    (bad : ¬ ((∀ b, Reach up a b → Reach up' (gOf f a) (gOf f b)) ∧ ∀ c, Reach up' (gOf f a) c → ∃ b, Reach up a b ∧ gOf f b = c) → K (.tuple [.bool false, .int .i64 0]) h0) {rm r2 : Nat} {N : Int} {G : AVal → AVal → AVal → AVal → AVal → Int → Int → Heap → Prop} {m n : AVal}
    (next : ((∀ b, Reach up a b → Reach up' (gOf f a) (gOf f b)) ∧ ∀ c, Reach up' (gOf f a) c → ∃ b, Reach up a b ∧ gOf f b = c) → G vf m n o (.lptr [p]) N ((a : Int) + 1) h0) :
    ∀ d j : Nat, j + d = (aboveL up a).length → ∀ M h, HM f (aboveL up a) j M → (∀ (i b : Nat), i < j → (aboveL up a)[i]? = some b → Reach up' (gOf f a) (gOf f b)) → Own h0 [.cell rm (.map (mapC M)), .cell r2 (.row 1 [.mapr rm])] h →
      s25l3 K (s25l2_G G) (d + 1) vf m n o (.lptr [p]) (a : Int) (.ptr r2 0 0) N (a : Int) e ((aboveL up a).length : Int) (j : Int) h
  | 0, j, hd, M, h, HMj, hR, W => by
    obtain rfl : j = (aboveL up a).length := by omega
    have haf : a < f.length := by rw [F.len]; exact ha
    obtain ⟨hfa, hga⟩ := F.get haf
    obtain ⟨e2, he2, hie⟩ := hP.ix (by rw [ordUp_len]; exact hga)
    rw [ordUp_get hga] at he2
    have hmax' := W'.max
    have hal := above_len (up := up') (a := gOf f a)
    have hmaxm := Wm.max
    unfold s25l3
    refine ifT_neg (by simp) ?_
    rw [ld1_lptr, hf.ix haf, ld1_lptr, tInt_int, hfa, hie, ld1_lptr]
    have fwd : ∀ b, Reach up a b → Reach up' (gOf f a) (gOf f b) := fun b hb => by
      obtain ⟨i, hi, e⟩ := List.mem_iff_getElem.1 ((mem_aboveL Wm.inR ha).2 hb)
      exact hR i b hi (by rw [List.getElem?_eq_getElem hi, e])
    have keyR : ∀ c : Nat, (∃ e ∈ M, e.1 = (c : Int)) ↔ ∃ b, Reach up a b ∧ gOf f b = c := fun c => by
      rw [HMj.keys]
      constructor
      · rintro ⟨i, b, hi, hb, e⟩
        exact ⟨b, (mem_aboveL Wm.inR ha).1 (List.mem_of_getElem? hb), by omega⟩
      · rintro ⟨b, hb, rfl⟩
        obtain ⟨i, hi, e⟩ := List.mem_iff_getElem.1 ((mem_aboveL Wm.inR ha).2 hb)
        exact ⟨i, b, hi, by rw [List.getElem?_eq_getElem hi, e], rfl⟩
    refine callG_of (containsFI_ok he2 (by simp [natI]; omega) (p := fun c => decide (∀ e ∈ M, e.1 ≠ c)) (fun c _ K' hk' => hit_call (W.get 0 _ rm rfl rfl) (W.get 1 _ r2 rfl rfl) (fun e he => (HMj.vals e he).1) c K' (by simp) hk') ?_)
    rw [tBool_bool]
    cases hany : (natI (aboveL up' (gOf f a))).any fun c => decide (∀ e ∈ M, e.1 ≠ c) with
    | true =>
      refine ifT_pos rfl (retG_drop W.old (bad fun hh => ?_))
      obtain ⟨c, hc, hc2⟩ := List.any_eq_true.1 hany
      obtain ⟨x, hx, rfl⟩ := mem_natI.1 hc
      have hx' := (mem_aboveL W'.inR hga).1 hx
      obtain ⟨y, hy, hy2⟩ := (keyR x).2 (hh.2 x hx')
      exact (of_decide_eq_true hc2) y hy hy2
    | false =>
      refine ifT_neg rfl (rg_of (by omega) (by omega) ⟨fun _ => False, _, h0, Lits.refl _, GStep.drop W.old, rfl, next ⟨fwd, fun c hc => ?_⟩⟩)
      have hm := List.any_eq_false.1 hany ((c : Nat) : Int) (mem_natI.2 ⟨c, (mem_aboveL W'.inR hga).2 hc, rfl⟩)
      refine (keyR c).1 ?_
      simpa using hm
  | d + 1, j, hd, M, h, HMj, hR, W => by
    have hj : j < (aboveL up a).length := by omega
    have haf : a < f.length := by rw [F.len]; exact ha
    obtain ⟨hfa, hga⟩ := F.get haf
    have hbR := (mem_aboveL Wm.inR ha).1 (List.getElem_mem hj)
    have hbl := hbR.lt Wm.inR ha
    have hbf : (aboveL up a)[j] < f.length := by rw [F.len]; exact hbl
    obtain ⟨hfb, hgb⟩ := F.get hbf
    obtain ⟨e2, he2, hie⟩ := hP.ix (by rw [ordUp_len]; exact hga)
    rw [ordUp_get hga] at he2
    have hmax' := W'.max
    have hmaxm := Wm.max
    have hal := above_len (up := up') (a := gOf f a)
    have halm := above_len (up := up) (a := a)
    unfold s25l3
    refine ifT_pos (by simp; omega) ?_
    rw [he.ix (i := j) (by simpa [natI] using hj), ld1_lptr, tInt_int, ld1_one (W.get 1 _ r2 rfl rfl) rfl]
    have hrow : (natI (aboveL up a))[j]'(by simpa [natI] using hj) = (((aboveL up a)[j] : Nat) : Int) := by simp [natI]
    rw [hrow, hf.ix hbf, ld1_lptr, tInt_int, hfb]
    have go : ∀ v : Int, 0 ≤ v → v ≤ j → rg (v + 1) (mapPut h (.mapr rm) (.int .i64 ((gOf f (aboveL up a)[j] : Nat) : Int)) (.int .i64 (v + 1)) fun h_8 => ld1 h_8 (.lptr [p]) fun v24 => ixS 1 vf (a : Int) fun p11 => ld1 h_8 p11 fun v25 => tInt .i64 v25 fun v26 => ixS 1 v24 v26 fun p12 => ld1 h_8 p12 fun v27 =>
        ixS 1 vf (((aboveL up a)[j] : Nat) : Int) fun p13 => ld1 h_8 p13 fun v28 => tInt .i64 v28 fun v29 => callG prog 54 [v27, (.int .i64 v29)] h_8 fun v30 h_9 => tBool v30 fun v31 => ifT (!v31) (retG (.tuple [(.bool false), (.int .i64 0)]) h_9 K)
          (rg ((j : Int) + 1) (s25l3_G (s25l3 K (s25l2_G G) (d + 1)) vf m n o (.lptr [p]) (a : Int) (.ptr r2 0 0) N (a : Int) e ((aboveL up a).length : Int) ((j : Int) + 1) h_9))) := by
      intro v hv0 hvj
      refine rg_of (by omega) (by omega) (mapPutC (W.get 0 _ rm rfl rfl) _ _ ?_)
      have W2 := W.put (i := 0) rfl (.map (mapC (putC ((gOf f (aboveL up a)[j] : Nat) : Int) (v + 1) M)))
      rw [ld1_lptr, hf.ix haf, ld1_lptr, tInt_int, hfa, hie, ld1_lptr, hf.ix hbf, ld1_lptr, tInt_int, hfb]
      refine callG_of (containsI_ok he2 (by simp [natI]; omega) ?_)
      rw [tBool_bool]
      by_cases hin : Reach up' (gOf f a) (gOf f (aboveL up a)[j])
      · have hin2 : ((gOf f (aboveL up a)[j] : Nat) : Int) ∈ natI (aboveL up' (gOf f a)) := mem_natI.2 ⟨_, (mem_aboveL W'.inR hga).2 hin, rfl⟩
        refine ifT_neg (by simpa using hin2) (rg_of (by omega) (by omega) (s25l3_go ?_))
        refine bounded_l3 W' Wm F hf hP ha he bad next d (j + 1) (by omega) _ _ ⟨fun c => ?_, fun y hy => ?_⟩ (fun i b hi hb => ?_) W2
        · rw [putC_keys, HMj.keys]
          constructor
          · rintro (rfl | ⟨i, b, hi, hb, e⟩)
            · exact ⟨j, _, by omega, List.getElem?_eq_getElem hj, rfl⟩
            · exact ⟨i, b, by omega, hb, e⟩
          · rintro ⟨i, b, hi, hb, e⟩
            by_cases h1 : i = j
            · subst h1
              rw [List.getElem?_eq_getElem hj] at hb
              cases hb
              exact .inl e.symm
            · exact .inr ⟨i, b, by omega, hb, e⟩
        · rcases putC_vals y hy with rfl | hy
          · simp only; omega
          · have := HMj.vals y hy; omega
        · by_cases h1 : i = j
          · subst h1
            rw [List.getElem?_eq_getElem hj] at hb
            cases hb
            exact hin
          · exact hR i b (by omega) hb
      · have hin2 : ((gOf f (aboveL up a)[j] : Nat) : Int) ∉ natI (aboveL up' (gOf f a)) := fun hh => by
          obtain ⟨x, hx, e⟩ := mem_natI.1 hh
          obtain rfl : gOf f (aboveL up a)[j] = x := by omega
          exact hin ((mem_aboveL W'.inR hga).1 hx)
        exact ifT_pos (by simpa using hin2) (retG_drop W2.old (bad fun hh => hin (hh.1 _ hbR)))
    refine mapGetC (W.get 0 _ rm rfl rfl) _ (fun v hin => ?_) (fun _ => ?_)
    · rw [tInt_int]
      have := HMj.vals _ hin
      simp only at this
      exact go v (by omega) (by omega)
    · rw [tInt_int]
      exact go 0 (by omega) (by omega)
end Go.Proofs.Ytinficcdpggiaaa

namespace Go.Proofs.Ytinficcdpggiaaa
open Go Go.Sym Go.Proofs.Try

variable {K : AVal → Heap → Prop} {h h0 : Heap}

theorem mid_eq (a : Nat) (ha : a < 1000000000) : Int.fdiv (IntKind.u64.wrap (a : Int)) (2 ^ (min (Int.toNat 1) (IntKind.u64.bits))) = ((a / 2 : Nat) : Int) := by
  have h1 : IntKind.u64.wrap (a : Int) = (a : Int) := by
    simp only [IntKind.wrap, IntKind.bits, IntKind.signed, Bool.false_and, Bool.false_eq_true, if_false]
    omega
  rw [h1, show (2 : Int) ^ (min (Int.toNat 1) (IntKind.u64.bits)) = 2 by rfl, Int.fdiv_eq_ediv_of_nonneg _ (by decide)]
  omega
theorem less_ok (x y : Int) (hk : K (.bool (decide (x < y))) h) : ACalls prog 81 [.int .i64 x, .int .i64 y] h K := by
  refine s81_ok ?_
  unfold s81
  refine callG_of (s86_ok (retG_of ?_))
  rw [tBool_bool]
  exact ifT_neg (by simp) (retG_of hk)
/-- numbers that rise -/
def Rise (l : List Int) : Prop := ∀ (i j : Nat) (hi : i < l.length) (hj : j < l.length), i < j → l[i] < l[j]
theorem search_l1 {v : AVal} {l : List Int} (hv : Ints v l) (hl : l.length ≤ 1048576) (hr : Rise l) (t : Int) (yes : ∀ k : Nat, l[k]? = some t → K (.tuple [.int .i64 k, .bool true]) h) (no : t ∉ l → ∀ k : Int, K (.tuple [.int .i64 k, .bool false]) h) :
    ∀ d i j : Nat, j - i ≤ d → i ≤ j → j ≤ l.length → (∀ x (hx : x < l.length), x < i → l[x] < t) → (∀ x (hx : x < l.length), j ≤ x → t ≤ l[x]) → s58l1 K (d + 1) v t (l.length : Int) (i : Int) (j : Int) h := by
  intro d
  induction d with
  | zero =>
    intro i j hd hij hjl hlo hhi
    obtain rfl : i = j := by omega
    unfold s58l1
    refine ifT_neg (by simp) ?_
    by_cases hi : i < l.length
    · refine ifT_pos (by simp; omega) ?_
      rw [hv.ix hi, ld1_lptr, tInt_int]
      by_cases e : l[i] = t
      · refine ifT_pos (by simpa using e) (retG_of (yes i (by rw [List.getElem?_eq_getElem hi, e])))
      · refine ifT_neg (by simpa using e) ?_
        rw [hv.ix hi, ld1_lptr, tInt_int]
        refine callG_of (s82_ok (retG_of ?_))
        rw [tBool_bool]
        refine ifT_neg (by simp) (retG_of (no (fun hm => ?_) i))
        obtain ⟨x, hx, hxt⟩ := List.mem_iff_getElem.1 hm
        by_cases h1 : x < i
        · have := hlo x hx h1; omega
        · by_cases h2 : x = i
          · subst h2; exact e hxt
          · have := hr i x hi hx (by omega)
            have := hhi i hi (Nat.le_refl _)
            omega
    · refine ifT_neg (by simp; omega) (retG_of (no (fun hm => ?_) i))
      obtain ⟨x, hx, hxt⟩ := List.mem_iff_getElem.1 hm
      have := hlo x hx (by omega)
      omega
  | succ d ih =>
    intro i j hd hij hjl hlo hhi
    by_cases e : i < j
    · unfold s58l1
      refine ifT_pos (by simp; omega) ?_
      have hcast : ((i : Int) + (j : Int)) = ((i + j : Nat) : Int) := by omega
      rw [hcast, mid_eq (i + j) (by omega)]
      have hm : (i + j) / 2 < l.length := by omega
      refine rg_of (by omega) (by omega) ⟨by decide, rg_of (by omega) (by omega) ?_⟩
      rw [hv.ix hm, ld1_lptr, tInt_int]
      refine callG_of (less_ok _ _ ?_)
      rw [tBool_bool]
      by_cases hlt : l[(i + j) / 2] < t
      · refine ifT_pos (decide_eq_true hlt) (rg_of (by omega) (by omega) (s58l1_go ?_))
        refine ih ((i + j) / 2 + 1) j (by omega) (by omega) hjl (fun x hx hxm => ?_) hhi
        by_cases h2 : x = (i + j) / 2
        · subst h2; exact hlt
        · have := hr x ((i + j) / 2) hx hm (by omega)
          omega
      · refine ifT_neg (decide_eq_false hlt) (s58l1_go ?_)
        refine ih i ((i + j) / 2) (by omega) (by omega) (by omega) hlo (fun x hx hxm => ?_)
        by_cases h2 : x = (i + j) / 2
        · subst h2; omega
        · have := hr ((i + j) / 2) x hm hx (by omega)
          omega
    · have := ih i j (by omega) hij hjl hlo hhi
      unfold s58l1 at this ⊢
      obtain rfl : i = j := by omega
      have e1 : decide ((i : Int) < (i : Int)) = false := by simp
      rw [e1, ifT_false] at this ⊢
      exact this
theorem search_ok {v : AVal} {l : List Int} (hv : Ints v l) (hl : l.length ≤ 1048576) (hr : Rise l) (t : Int) (yes : ∀ k : Nat, l[k]? = some t → K (.tuple [.int .i64 k, .bool true]) h) (no : t ∉ l → ∀ k : Int, K (.tuple [.int .i64 k, .bool false]) h) :
    ACalls prog 58 [v, .int .i64 t] h K := by
  refine s58_ok ?_
  unfold s58
  rw [hv.len]
  exact s58l1_in (l.length + 1) (search_l1 hv hl hr t yes no l.length 0 l.length (by omega) (by omega) (by omega) (by intro x hx h; omega) (by intro x hx h; omega))
end Go.Proofs.Ytinficcdpggiaaa

namespace Go.Proofs.Ytinficcdpggiaaa
open Go Go.Sym Go.Proofs.Try

variable {up : List (List Int)} {val : List (List ByteArray)}

theorem tidyUp_len : (tidyUp up).length = up.length := by simp [tidyUp]
theorem tidy_step (hi : InR up) {a b : Nat} : Step (tidyUp up) a b ↔ a < up.length ∧ b < up.length ∧ coverB up a b = true := by
  unfold Step
  constructor
  · rintro ⟨r, hr, hb⟩
    have ha : a < up.length := by
      have := (List.getElem?_eq_some_iff.1 hr).1
      rwa [tidyUp_len] at this
    rw [tidyUp_get ha] at hr
    cases hr
    obtain ⟨c, hc, e⟩ := mem_natI.1 hb
    obtain rfl : b = c := by omega
    unfold tidyRow at hc
    rw [List.mem_filter, List.mem_range] at hc
    exact ⟨ha, hc.1, hc.2⟩
  · rintro ⟨ha, hb, hc⟩
    refine ⟨_, tidyUp_get ha, mem_natI.2 ⟨b, ?_, rfl⟩⟩
    unfold tidyRow
    rw [List.mem_filter, List.mem_range]
    exact ⟨hb, hc⟩
/-- how many worlds stand between -/
noncomputable def ivl (up : List (List Int)) (a b : Nat) : Nat := ((List.range up.length).filter fun x => rb up a x && rb up x b).length
theorem reach_tidy (W : WF up val) {a b : Nat} (ha : a < up.length) : Reach (tidyUp up) a b ↔ Reach up a b := by
  have iT : InR (tidyUp up) := fun r hr b hb => by
    obtain ⟨i, hi, e⟩ := List.mem_iff_getElem.1 hr
    rw [tidyUp_len] at hi
    have h1 := tidyUp_get hi
    rw [List.getElem?_eq_getElem (by rw [tidyUp_len]; exact hi), e] at h1
    cases h1
    obtain ⟨c, hc, rfl⟩ := mem_natI.1 hb
    unfold tidyRow at hc
    rw [List.mem_filter, List.mem_range] at hc
    rw [tidyUp_len]
    omega
  constructor
  · intro h
    induction h with
    | refl => exact .refl
    | tail _ hs ih =>
      obtain ⟨_, _, hc⟩ := (tidy_step W.inR).1 hs
      unfold coverB startB at hc
      simp only [Bool.and_eq_true] at hc
      exact ih.trans (rb_iff.1 hc.1.2)
  · have main : ∀ n a b, a < up.length → ivl up a b ≤ n → Reach up a b → Reach (tidyUp up) a b := by
      intro n
      induction n with
      | zero =>
        intro a b ha hn h
        have hb := h.lt W.inR ha
        have : (List.range up.length).filter (fun x => rb up a x && rb up x b) = [] := List.eq_nil_of_length_eq_zero (by unfold ivl at hn; omega)
        have hm : a ∈ (List.range up.length).filter (fun x => rb up a x && rb up x b) := by
          rw [List.mem_filter, List.mem_range]
          exact ⟨ha, by rw [rb_iff.2 .refl, rb_iff.2 h]; rfl⟩
        rw [this] at hm
        simp at hm
      | succ n ih =>
        intro a b ha hn h
        have hb := h.lt W.inR ha
        by_cases e : a = b
        · subst e; exact .refl
        · by_cases hc : coverB up a b = true
          · exact Reach.tail .refl ((tidy_step W.inR).2 ⟨ha, hb, hc⟩)
          · have hst : startB up a b = true := by unfold startB; rw [rb_iff.2 h]; simpa using e
            unfold coverB at hc
            rw [hst, Bool.true_and] at hc
            have hc2 : ((List.range up.length).all (okc up a b)) = false := by simpa using hc
            obtain ⟨c, hcm, hco⟩ := List.all_eq_false.1 hc2
            have hcl := List.mem_range.1 hcm
            have hco : okc up a b c = false := by simpa using hco
            unfold okc at hco
            simp only [Bool.or_eq_false_iff, Bool.not_eq_false'] at hco
            obtain ⟨h1, h2, h3, h4⟩ := hco
            have hca : c ≠ a := by simpa using h1
            have hcb : c ≠ b := by simpa using h2
            have r1 := rb_iff.1 h3
            have r2 := rb_iff.1 h4
            have l1 : ivl up a c < ivl up a b := filter_lt (x := b) _ (fun x hx => by
              simp only [Bool.and_eq_true] at hx ⊢
              exact ⟨hx.1, rb_iff.2 ((rb_iff.1 hx.2).trans r2)⟩) (List.mem_range.2 hb) (by rw [rb_iff.2 h, rb_iff.2 .refl]; rfl) (by
              have : rb up b c = false := by
                cases hh : rb up b c with
                | false => rfl
                | true => exact absurd (rb_iff.1 hh) (W.cond c b hcl hb r2 hcb).1
              rw [this, Bool.and_false])
            have l2 : ivl up c b < ivl up a b := filter_lt (x := a) _ (fun x hx => by
              simp only [Bool.and_eq_true] at hx ⊢
              exact ⟨rb_iff.2 (r1.trans (rb_iff.1 hx.1)), hx.2⟩) (List.mem_range.2 ha) (by rw [rb_iff.2 h, rb_iff.2 .refl]; rfl) (by
              have : rb up c a = false := by
                cases hh : rb up c a with
                | false => rfl
                | true => exact absurd (rb_iff.1 hh) (W.cond a c ha hcl r1 (Ne.symm hca)).1
              rw [this, Bool.false_and])
            exact (ih a c ha (by omega) r1).trans (ih c b hcl (by omega) r2)
    exact main _ a b ha (Nat.le_refl _)
theorem wf_tidy (W : WF up val) : WF (tidyUp up) val where
  pos := by rw [tidyUp_len]; exact W.pos
  max := by rw [tidyUp_len]; exact W.max
  len := by rw [tidyUp_len]; exact W.len
  inR := fun r hr b hb => by
    obtain ⟨i, hi, e⟩ := List.mem_iff_getElem.1 hr
    rw [tidyUp_len] at hi
    have h1 := tidyUp_get hi
    rw [List.getElem?_eq_getElem (by rw [tidyUp_len]; exact hi), e] at h1
    cases h1
    obtain ⟨c, hc, rfl⟩ := mem_natI.1 hb
    unfold tidyRow at hc
    rw [List.mem_filter, List.mem_range] at hc
    rw [tidyUp_len]
    omega
  fine := W.fine
  cond a b ha hb := by
    rw [tidyUp_len] at ha hb
    intro h hne
    have := W.cond a b ha hb ((reach_tidy W ha).1 h) hne
    exact ⟨fun h' => this.1 ((reach_tidy W hb).1 h'), this.2⟩
end Go.Proofs.Ytinficcdpggiaaa

namespace Go.Proofs.Ytinficcdpggiaaa
open Go Go.Sym Go.Proofs.Try

variable {K : AVal → Heap → Prop} {h h0 hb : Heap} {up : List (List Int)} {val : List (List ByteArray)} {mU mV : AVal}

/- ---- plain law ---- -/
/-- worlds that rise -/
structure Worlds (up : List (List Int)) (L : List Nat) : Prop where
  pos : L ≠ []
  lt : ∀ x ∈ L, x < up.length
  rise : ∀ (i j : Nat) (hi : i < L.length) (hj : j < L.length), i < j → L[i] < L[j]
noncomputable def subRow (up : List (List Int)) (L : List Nat) (a : Nat) : List Nat := (List.range L.length).filter fun k => rb up (L.getD a 0) (L.getD k 0)
noncomputable def subUp (up : List (List Int)) (L : List Nat) : List (List Int) := (List.range L.length).map fun a => natI (subRow up L a)
def subVal (val : List (List ByteArray)) (L : List Nat) : List (List ByteArray) := L.map fun x => val.getD x []
/-- rows that say who is above whom among them, each world itself being there or not -/
structure SubRows (up : List (List Int)) (L : List Nat) (rows : List (List Int)) : Prop where
  len : rows.length = L.length
  has : ∀ a k, a < L.length → k < L.length → k ≠ a → Reach up (L.getD a 0) (L.getD k 0) → Step rows a k
  only : ∀ a r, rows[a]? = some r → ∀ b ∈ r, ∃ k, b = ((k : Nat) : Int) ∧ k < L.length ∧ Reach up (L.getD a 0) (L.getD k 0)
theorem SubRows.inR {L : List Nat} {rows : List (List Int)} (R : SubRows up L rows) : InR rows := fun r hr b hb => by
  obtain ⟨a, ha, e⟩ := List.mem_iff_getElem.1 hr
  obtain ⟨k, rfl, hk, _⟩ := R.only a r (by rw [List.getElem?_eq_getElem ha, e]) b hb
  rw [R.len]
  omega
theorem SubRows.reach {L : List Nat} {rows : List (List Int)} (R : SubRows up L rows) {a b : Nat} (ha : a < L.length) : Reach rows a b ↔ b < L.length ∧ Reach up (L.getD a 0) (L.getD b 0) := by
  constructor
  · intro h
    induction h with
    | refl => exact ⟨ha, .refl⟩
    | @tail b c _ hs ih =>
      obtain ⟨r, hr, hc⟩ := hs
      obtain ⟨k, e, hk, hR⟩ := R.only _ r hr _ hc
      obtain rfl : c = k := by omega
      exact ⟨hk, ih.2.trans hR⟩
  · rintro ⟨hb, hR⟩
    by_cases e : b = a
    · subst e; exact .refl
    · exact .tail .refl (R.has a b ha hb e hR)
theorem subUp_rows (up : List (List Int)) (L : List Nat) : SubRows up L (subUp up L) where
  len := by simp [subUp]
  has a k ha hk _ hR := by
    refine ⟨natI (subRow up L a), by simp [subUp, ha], mem_natI.2 ⟨k, ?_, rfl⟩⟩
    unfold subRow
    rw [List.mem_filter, List.mem_range]
    exact ⟨hk, rb_iff.2 hR⟩
  only a r hr b hb := by
    have ha : a < L.length := by
      have := (List.getElem?_eq_some_iff.1 hr).1
      simpa [subUp] using this
    have e : r = natI (subRow up L a) := by simpa [subUp, ha] using hr.symm
    subst e
    obtain ⟨k, hk, rfl⟩ := mem_natI.1 hb
    unfold subRow at hk
    rw [List.mem_filter, List.mem_range] at hk
    exact ⟨k, rfl, hk.1, rb_iff.1 hk.2⟩
theorem SubRows.tidy {L : List Nat} {rows : List (List Int)} (R : SubRows up L rows) : tidyUp rows = tidyUp (subUp up L) := by
  have R2 := subUp_rows up L
  refine tidyUp_congr (by rw [R.len, R2.len]) fun a b ha hb => ?_
  rw [R.len] at ha hb
  rw [Bool.eq_iff_iff, rb_iff, rb_iff, R.reach ha, R2.reach ha]
theorem getD_mem {L : List Nat} {a : Nat} (ha : a < L.length) : L.getD a 0 = L[a] := by simp [List.getD, ha]
theorem subVal_get (val : List (List ByteArray)) {L : List Nat} {a : Nat} (ha : a < L.length) : (subVal val L).getD a [] = val.getD (L.getD a 0) [] := by
  simp [subVal, List.getD, ha]
theorem SubRows.wf {L : List Nat} {rows : List (List Int)} (R : SubRows up L rows) (W : WF up val) (hL : Worlds up L) (hmax : L.length ≤ up.length) : WF rows (subVal val L) where
  pos := by
    rw [R.len]
    have := hL.pos
    cases L with
    | nil => exact absurd rfl this
    | cons _ _ => simp
  max := by rw [R.len]; exact Nat.le_trans hmax W.max
  len := by rw [R.len]; simp [subVal]
  inR := R.inR
  fine l hl := by
    simp only [subVal, List.mem_map] at hl
    obtain ⟨x, hx, rfl⟩ := hl
    have hxl : x < val.length := by rw [W.len]; exact hL.lt x hx
    rw [getD_val hxl]
    exact W.fine _ (List.getElem_mem hxl)
  cond a b ha hb := by
    rw [R.len] at ha hb
    intro h hne
    obtain ⟨_, hR⟩ := (R.reach ha).1 h
    have hlt := fun x (hx : x < L.length) => hL.lt _ (List.getElem_mem hx)
    have hne2 : L.getD a 0 ≠ L.getD b 0 := by
      rw [getD_mem ha, getD_mem hb]
      intro e
      rcases Nat.lt_or_gt_of_ne hne with h1 | h1
      · have := hL.rise a b ha hb h1; omega
      · have := hL.rise b a hb ha h1; omega
    have := W.cond (L.getD a 0) (L.getD b 0) (by rw [getD_mem ha]; exact hlt a ha) (by rw [getD_mem hb]; exact hlt b hb) hR hne2
    refine ⟨fun h' => this.1 ((R.reach hb).1 h').2, ?_⟩
    rw [subVal_get val ha, subVal_get val hb]
    exact this.2
theorem above_worlds (W : WF up val) {w : Nat} (hw : w < up.length) : Worlds up (aboveL up w) where
  pos e := by
    have : w ∈ aboveL up w := (mem_aboveL W.inR hw).2 .refl
    rw [e] at this
    simp at this
  lt x hx := by
    unfold aboveL at hx
    rw [List.mem_filter, List.mem_range] at hx
    exact hx.1
  rise i j hi hj hij := by
    have hp : (aboveL up w).Pairwise (· < ·) := List.Pairwise.filter _ List.pairwise_lt_range
    exact (List.pairwise_iff_getElem.1 hp) i j hi hj hij
theorem Worlds.inj {L : List Nat} (hL : Worlds up L) {i j : Nat} (hi : i < L.length) (hj : j < L.length) (e : L[i] = L[j]) : i = j := by
  rcases Nat.lt_trichotomy i j with h1 | h1 | h1
  · have := hL.rise i j hi hj h1; omega
  · exact h1
  · have := hL.rise j i hj hi h1; omega
theorem Worlds.natRise {L : List Nat} (hL : Worlds up L) : Rise (natI L) := fun i j hi hj hij => by
  simp only [natI, List.length_map] at hi hj
  have := hL.rise i j hi hj hij
  simp only [natI, List.getElem_map]
  omega
end Go.Proofs.Ytinficcdpggiaaa

namespace Go.Proofs.Ytinficcdpggiaaa
open Go Go.Sym Go.Proofs.Try

variable {K : AVal → Heap → Prop} {h h0 hb : Heap} {up : List (List Int)} {val : List (List ByteArray)} {mU mV : AVal}

theorem Own.toBase {hb h : Heap} {os : List Ow} (W : Own hb os h) (S : Nat → Prop) (hS : ∀ n, S n → hb n = none) : Go.Sym.GStep h hb S :=
  ⟨fun _ _ => trivial, fun q o hq => ⟨o, W.old q o hq, (fun hs => by rw [hS q hs] at hq; cases hq), .refl o⟩⟩
/-- what has been told of a world behind j of the worlds above it -/
structure PQ (up : List (List Int)) (L : List Nat) (a j : Nat) (R : List Nat) : Prop where
  has : ∀ k, k < L.length → k ≠ a → (∃ i : Nat, i < j ∧ (aboveL up (L.getD a 0))[i]? = some (L.getD k 0)) → k ∈ R
  only : ∀ k ∈ R, k < L.length ∧ Reach up (L.getD a 0) (L.getD k 0)
  len : R.length ≤ j
theorem PQ.rows {L : List Nat} {a : Nat} {R : List Nat} (W : WF up val) (hL : Worlds up L) (ha : a < L.length) (P : PQ up L a (aboveL up (L.getD a 0)).length R) :
    (∀ k, k < L.length → k ≠ a → Reach up (L.getD a 0) (L.getD k 0) → ((k : Nat) : Int) ∈ natI R) ∧ ∀ b ∈ natI R, ∃ k, b = ((k : Nat) : Int) ∧ k < L.length ∧ Reach up (L.getD a 0) (L.getD k 0) := by
  have hal : L.getD a 0 < up.length := by rw [getD_mem ha]; exact hL.lt _ (List.getElem_mem ha)
  refine ⟨fun k hk hne hR => mem_natI.2 ⟨k, P.has k hk hne ?_, rfl⟩, fun b hb => ?_⟩
  · obtain ⟨i, hi, e⟩ := List.mem_iff_getElem.1 ((mem_aboveL W.inR hal).2 hR)
    exact ⟨i, hi, by rw [List.getElem?_eq_getElem hi, e]⟩
  · obtain ⟨k, hk, rfl⟩ := mem_natI.1 hb
    exact ⟨k, rfl, P.only k hk⟩

/-- the memory of a model under way -/
abbrev UV (hb : Heap) (ro : Nat) (sU sV vU : AVal) (LU : List AVal) (vV : AVal) (LV : List AVal) (h : Heap) : Prop := Own hb [.cell ro (.row 2 [.agg [sU, sV]]), .slc 1 vU LU, .slc 1 vV LV] h

theorem part_l2 (S : Small up val) (W : WF up val) (hV : Strss mV val) {L : List Nat} (hL : Worlds up L) (hLl : L.length ≤ 512) {vl o t6 : AVal} (hl : Ints vl (natI L)) {a : Nat} (ha : a < L.length) {e : AVal} (he : Ints e (natI (aboveL up (L.getD a 0)))) {ro : Nat} {vU vV : AVal} {LU LV : List AVal} (hLU : LU.length ≤ 512) (hLV : LV.length ≤ 512)
    {F : AVal → AVal → AVal → AVal → AVal → AVal → Int → Int → Heap → Prop}
    (next : ∀ vU' vV' row' cp R h', PQ up L a (aboveL up (L.getD a 0)).length R → Ints row' (natI R) → Strs cp (val.getD (L.getD a 0) []) → UV hb ro vU' vV' vU' (LU ++ [row']) vV' (LV ++ [cp]) h' → F o vl (.lptr [mU, mV]) t6 (.ptr ro 0 0) vl (L.length : Int) ((a : Int) + 1) h') :
    ∀ d j : Nat, j + d = (aboveL up (L.getD a 0)).length → ∀ R row h, PQ up L a j R → Own hb [.cell ro (.row 2 [.agg [vU, vV]]), .slc 1 vU LU, .slc 1 vV LV, .slc 1 row ((natI R).map (.int .i64))] h →
      s30l2 K (s30l1_G F) (d + 1) o vl (.lptr [mU, mV]) t6 (.ptr ro 0 0) ((L.getD a 0 : Nat) : Int) row vl (L.length : Int) (a : Int) e ((aboveL up (L.getD a 0)).length : Int) (j : Int) h
  | 0, j, hd, R, row, h, P, Ow => by
    have hal : L.getD a 0 < val.length := by rw [W.len, getD_mem ha]; exact hL.lt _ (List.getElem_mem ha)
    obtain ⟨c, hc, hic⟩ := hV.ix hal
    obtain rfl : j = (aboveL up (L.getD a 0)).length := by omega
    unfold s30l2
    refine ifT_neg (by simp) ?_
    rw [addOff_ptr, ld1_fld (Ow.get 0 _ ro rfl rfl) rfl]
    refine chk_iff.2 ⟨(Ow.sc (i := 3) rfl).1, Ow.app (i := 1) rfl (by omega) (by omega) fun v2 h2 W2 => ?_⟩
    refine chk_iff.2 ⟨(W2.sc (i := 1) rfl).1, st_fst (W2.get 0 _ ro rfl rfl) ?_⟩
    have W3 := W2.put (i := 0) rfl (.row 2 [.agg [v2, vV]])
    rw [addOff_ptr, ld1_fld (W3.get 0 _ ro rfl rfl) rfl, addOff_lptr]
    simp only [List.drop_succ_cons, List.drop_zero, ld1_lptr]
    rw [hic, ld1_lptr]
    refine callG_of (cloneS_ok hc ((S.names _ (List.getElem_mem hal)).1.1) fun cp hcp => ⟨by rw [ld1_fld (W3.get 0 _ ro rfl rfl) rfl], chk_iff.2 ⟨hcp.notAgg.2, ⟨by rw [ld1_fld (W3.get 0 _ ro rfl rfl) rfl], W3.app (i := 2) rfl (by omega) (by omega) fun v3 h3 W4 => ?_⟩⟩⟩)
    refine chk_iff.2 ⟨(W4.sc (i := 2) rfl).1, st_snd (W4.get 0 _ ro rfl rfl) (rg_of (by omega) (by omega) ?_)⟩
    have W5 : Own hb ([.cell ro (.row 2 [.agg [v2, v3]]), .slc 1 v2 (LU ++ [row]), .slc 1 v3 (LV ++ [cp])] ++ [.slc 1 row ((natI R).map (.int .i64))]) _ := W4.put (i := 0) rfl (.row 2 [.agg [v2, v3]])
    obtain ⟨Sg, h', row', s1, g, W6⟩ := W5.settleL (i := 1) rfl
    exact ⟨Sg, _, h', Lits.refl _, g, rfl, next v2 v3 row' cp R h' P s1 (by rw [getD_val hal]; exact hcp) W6⟩
  | d + 1, j, hd, R, row, h, P, Ow => by
    have hj : j < (aboveL up (L.getD a 0)).length := by omega
    have hmax := W.max
    have hal2 := above_len (up := up) (a := L.getD a 0)
    have hrl := P.len
    have hal : L.getD a 0 < up.length := by rw [getD_mem ha]; exact hL.lt _ (List.getElem_mem ha)
    have hRb := (mem_aboveL W.inR hal).1 (List.getElem_mem hj)
    unfold s30l2
    refine ifT_pos (decide_eq_true (by omega)) ?_
    rw [he.ix (i := j) (by simpa [natI] using hj), ld1_lptr, tInt_int]
    have hrow : (natI (aboveL up (L.getD a 0)))[j]'(by simpa [natI] using hj) = (((aboveL up (L.getD a 0))[j] : Nat) : Int) := by simp [natI]
    rw [hrow]
    have skip : ((aboveL up (L.getD a 0))[j] ∈ L → (aboveL up (L.getD a 0))[j] = L.getD a 0) → ∀ k : Int, s30c4 K (s30l1_G F) (s30l2_G (s30l2 K (s30l1_G F) (d + 1))) o vl (.lptr [mU, mV]) t6 (.ptr ro 0 0) ((L.getD a 0 : Nat) : Int) row k vl (L.length : Int) (a : Int) e ((aboveL up (L.getD a 0)).length : Int) (j : Int) false h := by
      intro hs k
      refine ifT_neg rfl (rg_of (by omega) (by omega) (s30l2_go ?_))
      refine part_l2 S W hV hL hLl hl ha he hLU hLV next d (j + 1) (by omega) R row h ⟨fun k hk hne hi => ?_, P.only, by omega⟩ Ow
      obtain ⟨i, hi, hi2⟩ := hi
      by_cases e1 : i = j
      · subst e1
        rw [List.getElem?_eq_getElem hj] at hi2
        have e2 : (aboveL up (L.getD a 0))[i] = L.getD k 0 := Option.some.inj hi2
        have e3 := hs (by rw [e2, getD_mem hk]; exact List.getElem_mem hk)
        rw [e2, getD_mem hk, getD_mem ha] at e3
        exact absurd (hL.inj hk ha e3) hne
      · exact P.has k hk hne ⟨i, by omega, hi2⟩
    refine callG_of (search_ok hl (by simp [natI]; omega) hL.natRise _ (fun k hk => ?_) (fun hno k => ?_))
    · simp only [tTup_tuple, tCons_cons, tInt_int, tBool_bool, tNil_nil]
      refine ifT_pos rfl ?_
      have hkl : k < L.length := by
        have := (List.getElem?_eq_some_iff.1 hk).1
        simpa [natI] using this
      have hke : L[k] = (aboveL up (L.getD a 0))[j] := by
        have : ((L[k] : Nat) : Int) = (((aboveL up (L.getD a 0))[j] : Nat) : Int) := by simpa [natI, hkl] using hk
        omega
      by_cases e1 : (aboveL up (L.getD a 0))[j] = L.getD a 0
      · rw [show ((((aboveL up (L.getD a 0))[j] : Nat) : Int) != ((L.getD a 0 : Nat) : Int)) = false from bne_eq_false_iff_eq.2 (by rw [e1])]
        exact skip (fun _ => e1) _
      · rw [show ((((aboveL up (L.getD a 0))[j] : Nat) : Int) != ((L.getD a 0 : Nat) : Int)) = true from bne_iff_ne.2 (by omega)]
        refine ifT_pos rfl (Ow.app (i := 3) rfl (by simp [natI]; omega) (by simp [natI]; omega) fun row2 h2 W2 => rg_of (by omega) (by omega) (s30l2_go ?_))
        refine part_l2 (vU := vU) (vV := vV) S W hV hL hLl hl ha he hLU hLV next d (j + 1) (by omega) (R ++ [k]) row2 h2 ⟨fun k' hk' hne hi => ?_, fun k' hk' => ?_, by simp; omega⟩ ?_
        · obtain ⟨i, hi, hi2⟩ := hi
          by_cases e2 : i = j
          · subst e2
            rw [List.getElem?_eq_getElem hj, getD_mem hk'] at hi2
            have e3 := Option.some.inj hi2
            rw [← hke] at e3
            rw [hL.inj hkl hk' e3]
            simp
          · exact List.mem_append_left _ (P.has k' hk' hne ⟨i, by omega, hi2⟩)
        · rcases List.mem_append.1 hk' with hk' | hk'
          · exact P.only k' hk'
          · rw [List.mem_singleton.1 hk', getD_mem hkl, hke]
            exact ⟨hkl, hRb⟩
        · simpa [natI] using W2
    · simp only [tTup_tuple, tCons_cons, tInt_int, tBool_bool, tNil_nil]
      refine ifT_neg rfl (skip (fun hm => absurd (mem_natI.2 ⟨_, hm, rfl⟩) hno) _)

theorem part_l1 (S : Small up val) (W : WF up val) (hV : Strss mV val) {L : List Nat} (hL : Worlds up L) (hLl : L.length ≤ 512) (hLu : L.length ≤ up.length) {vl o : AVal} (hl : Ints vl (natI L)) (hO : Intss o (ordUp up)) {ro rt : Nat} {X Y : AVal} (ht : hb rt = some (.row 2 [.agg [X, Y]])) (hsub : ∀ q o, h0 q = some o → q ≠ rt ∧ hb q = some o)
    (good : ∀ vU vV, Intss vU (tidyUp (subUp up L)) → Strss vV (subVal val L) → K (.agg [vU, vV]) h0) :
    ∀ d a : Nat, a + d = L.length → ∀ vU vV LU LV h (rows : List (List Int)), All2 Ints LU rows → rows.length = a → (∀ a' k, a' < a → k < L.length → k ≠ a' → Reach up (L.getD a' 0) (L.getD k 0) → Step rows a' k) →
      (∀ a' r, rows[a']? = some r → r.length ≤ 512 ∧ ∀ b ∈ r, ∃ k, b = ((k : Nat) : Int) ∧ k < L.length ∧ Reach up (L.getD a' 0) (L.getD k 0)) → All2 Strs LV ((subVal val L).take a) → UV hb ro vU vV vU LU vV LV h →
      s30l1 K (d + 1) o vl (.lptr [mU, mV]) (.ptr rt 0 0) (.ptr ro 0 0) vl (L.length : Int) (a : Int) h
  | 0, a, hd, vU, vV, LU, LV, h, rows, hR, hrl, hhas, honly, hLV, Ow => by
    obtain rfl : a = L.length := by omega
    have hsv : (subVal val L).length = L.length := by simp [subVal]
    rw [List.take_of_length_le (by omega)] at hLV
    have SR : SubRows up L rows := ⟨hrl, hhas, fun a' r hr => (honly a' r hr).2⟩
    unfold s30l1
    refine ifT_neg (by simp) ?_
    rw [ldN2 (Ow.get 0 _ ro rfl rfl), tCons_cons, tCons_cons, tNil_nil]
    let Sg : Nat → Prop := fun n => nameOf vU n ∨ nameOf vV n
    obtain ⟨u', lu, su⟩ := Ow.lit (i := 1) rfl (S := Sg) (fun n h => .inl h) (Lits.refl LU)
    obtain ⟨v', lv, sv⟩ := Ow.lit (i := 2) rfl (S := Sg) (fun n h => .inr h) (Lits.refl LV)
    have SS : Small rows (subVal val L) := ⟨by omega, by omega, fun r hr => by
      obtain ⟨i, hi, e⟩ := List.mem_iff_getElem.1 hr
      have := (honly i r (by rw [List.getElem?_eq_getElem hi, e])).1
      omega, fun l hl => by
      simp only [subVal, List.mem_map] at hl
      obtain ⟨x, hx, rfl⟩ := hl
      have hxl : x < val.length := by rw [W.len]; exact hL.lt x hx
      rw [getD_val hxl]
      exact S.names _ (List.getElem_mem hxl)⟩
    refine ⟨Sg, [.agg [u', v']], hb, .cons (.agg (.cons lu (.cons lv .nil))) .nil, Own.toBase Ow Sg (fun n hn => by
      rcases hn with hn | hn
      · exact Ow.new 1 _ n rfl hn
      · exact Ow.new 2 _ n rfl hn), tidied_ok (up := rows) (val := subVal val L) SS ⟨_, su, hR⟩ ⟨_, sv, hLV⟩ (SR.wf W hL hLu) fun a b ha hbv => ?_⟩
    simp only [tAgg_agg, tCons_cons, tNil_nil]
    refine st_all ht rfl ?_
    rw [ldN2 (Heap.set_same _ _ _), tCons_cons, tCons_cons, tNil_nil]
    rw [SR.tidy] at ha
    refine retG_drop (fun q o hq => ?_) (good a b ha hbv)
    rw [Heap.set_ne _ _ (hsub q o hq).1]
    exact (hsub q o hq).2
  | d + 1, a, hd, vU, vV, LU, LV, h, rows, hR, hrl, hhas, honly, hLV, Ow => by
    have ha : a < L.length := by omega
    have hmax := W.max
    have hsv : (subVal val L).length = L.length := by simp [subVal]
    have hal : L.getD a 0 < up.length := by rw [getD_mem ha]; exact hL.lt _ (List.getElem_mem ha)
    have hUl := hR.length
    have hVl := hLV.length
    rw [List.length_take] at hVl
    obtain ⟨e, he, hie⟩ := hO.ix (i := L.getD a 0) (by rw [ordUp_len]; exact hal)
    rw [ordUp_get hal] at he
    unfold s30l1
    refine ifT_pos (by simp; omega) ?_
    rw [hl.ix (i := a) (by simpa [natI] using ha), ld1_lptr, tInt_int]
    have hrow : (natI L)[a]'(by simpa [natI] using ha) = ((L.getD a 0 : Nat) : Int) := by rw [getD_mem ha]; simp [natI]
    rw [hrow, hie, ld1_lptr, he.len, show (natI (aboveL up (L.getD a 0))).length = (aboveL up (L.getD a 0)).length by simp [natI]]
    refine s30l2_in ((aboveL up (L.getD a 0)).length + 1) ?_
    have hab := above_len (up := up) (a := L.getD a 0)
    refine part_l2 S W hV hL hLl hl ha he (by omega) (by omega) (fun vU' vV' row' cp R h' P hr hc W' => ?_) _ 0 (by omega) [] .nilsl h ⟨fun k hk hne hi => by obtain ⟨i, hi, _⟩ := hi; omega, fun k hk => by simp at hk, by simp⟩ (Ow.newN 1)
    obtain ⟨p1, p2⟩ := P.rows W hL ha
    have hPl := P.len
    refine part_l1 S W hV hL hLl hLu hl hO ht hsub good d (a + 1) (by omega) vU' vV' _ _ h' (rows ++ [natI R]) (hR.append (.cons hr .nil)) (by simp [hrl]) (fun a' k ha' hk hne hRe => ?_) (fun a' r hr' => ?_) ?_ W'
    · by_cases e1 : a' = a
      · subst e1
        exact ⟨natI R, by rw [List.getElem?_append_right (by omega)]; simp [hrl], p1 k hk hne hRe⟩
      · obtain ⟨r, hr1, hr2⟩ := hhas a' k (by omega) hk hne hRe
        exact ⟨r, by rw [List.getElem?_append_left (List.getElem?_eq_some_iff.1 hr1).1]; exact hr1, hr2⟩
    · by_cases e1 : a' < rows.length
      · rw [List.getElem?_append_left e1] at hr'
        exact honly a' r hr'
      · rw [List.getElem?_append_right (by omega)] at hr'
        have h3 := (List.getElem?_eq_some_iff.1 hr').1
        simp only [List.length_singleton] at h3
        obtain rfl : a' = a := by omega
        have e2 : r = natI R := by simpa [hrl] using hr'.symm
        subst e2
        exact ⟨by simp [natI]; omega, p2⟩
    · rw [List.take_succ_eq_append_getElem (by omega)]
      refine hLV.append (.cons ?_ .nil)
      have : (subVal val L)[a] = val.getD (L.getD a 0) [] := by rw [getD_mem ha]; simp [subVal]
      rw [this]
      exact hc

theorem part_ok (S : Small up val) (W : WF up val) (hV : Strss mV val) {L : List Nat} (hL : Worlds up L) (hLu : L.length ≤ up.length) {vl o : AVal} (hl : Ints vl (natI L)) (hO : Intss o (ordUp up))
    (good : ∀ vU vV, Intss vU (tidyUp (subUp up L)) → Strss vV (subVal val L) → K (.agg [vU, vV]) h0) : ACalls prog 30 [.agg [mU, mV], o, vl] h0 K := by
  have hmax := W.max
  refine s30_ok ?_
  unfold s30
  refine newRow_in fun rt hrt => newRow_in fun ro hro => ?_
  rw [hl.len, show (natI L).length = L.length by simp [natI]]
  refine s30l1_in (L.length + 1) ?_
  refine part_l1 (X := .nilsl) (Y := .nilsl) (hb := h0.set rt (.row 2 [.agg [.nilsl, .nilsl]])) S W hV hL (by omega) hLu hl hO (Heap.set_same _ _ _) (fun q o hq => ⟨(fun e => by rw [e, hrt] at hq; cases hq), Heap.set_sub hrt q o hq⟩) good L.length 0 (by omega) .nilsl .nilsl [] [] _ [] .nil rfl (fun a' k h => by omega) (fun a' r h => by simp at h) .nil ?_
  exact (((Own.start _).newC hro (.row 2 [.agg [.nilsl, .nilsl]])).newN 1).newN 1

theorem above_ok (S : Small up val) (hU : Intss mU up) (hV : Strss mV val) (w : Int) (bad : ¬ WF up val → K (.tuple [.agg [.nilsl, .nilsl], .nilsl, .int .i64 170]) h0) (out : WF up val → ¬ (0 ≤ w ∧ w < up.length) → K (.tuple [.agg [.nilsl, .nilsl], .nilsl, .int .i64 2]) h0)
    (good : WF up val → ∀ x : Nat, w = x → x < up.length → ∀ vU vV vl, Intss vU (tidyUp (subUp up (aboveL up x))) → Strss vV (subVal val (aboveL up x)) → Ints vl (natI (aboveL up x)) → K (.tuple [.agg [vU, vV], vl, .int .i64 0]) h0) :
    ACalls prog 9 [.agg [mU, mV], .int .i64 w] h0 K := by
  refine s9_ok ?_
  unfold s9
  refine newRow_in fun rt hrt => ?_
  have ht := Heap.set_same h0 rt (.row 2 [.agg [.nilsl, .nilsl]])
  have hsub : ∀ q o, h0 q = some o → q ≠ rt ∧ (h0.set rt (.row 2 [.agg [.nilsl, .nilsl]])) q = some o := fun q o hq => ⟨(fun e => by rw [e, hrt] at hq; cases hq), Heap.set_sub hrt q o hq⟩
  refine callG_of (reckonM_ok S hU hV (fun hW => ?_) (fun W o hO => ?_))
  · simp only [tTup_tuple, tCons_cons, tInt_int, tNil_nil]
    exact ifT_pos rfl (fail_ok ht hsub (bad hW))
  · simp only [tTup_tuple, tCons_cons, tInt_int, tNil_nil]
    refine ifT_neg rfl ?_
    by_cases h1 : w < 0
    · exact ifT_pos (decide_eq_true h1) (ifT_pos rfl (fail_ok ht hsub (out W (by omega))))
    · refine ifT_neg (decide_eq_false h1) ?_
      rw [hO.len, ordUp_len]
      by_cases h2 : (up.length : Int) ≤ w
      · exact ifT_pos (decide_eq_true h2) (fail_ok ht hsub (out W (by omega)))
      · obtain ⟨x, rfl⟩ := Int.eq_ofNat_of_zero_le (by omega : 0 ≤ w)
        have hx : x < up.length := by omega
        have hmax := W.max
        have hab := above_len (up := up) (a := x)
        obtain ⟨e, he, hie⟩ := hO.ix (i := x) (by rw [ordUp_len]; exact hx)
        rw [ordUp_get hx] at he
        refine ifT_neg (decide_eq_false h2) ?_
        rw [hie, ld1_lptr]
        refine callG_of (cloneI_ok he (by simp [natI]; omega) fun vl hl => ?_)
        rw [ldN_agg2]
        simp only [tCons_cons, tNil_nil]
        refine callG_of (part_ok S W hV (above_worlds W hx) hab hl hO fun a b ha hbv => ?_)
        simp only [tAgg_agg, tCons_cons, tNil_nil]
        refine st_all ht rfl ?_
        rw [ldN2 (Heap.set_same _ _ _), tCons_cons, tCons_cons, tNil_nil]
        refine retG_drop (fun q o hq => ?_) (good W x rfl hx a b vl ha hbv hl)
        rw [Heap.set_ne _ _ (hsub q o hq).1]
        exact (hsub q o hq).2
end Go.Proofs.Ytinficcdpggiaaa

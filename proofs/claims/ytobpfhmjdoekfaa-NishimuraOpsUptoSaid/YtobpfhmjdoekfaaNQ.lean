/- Contracts: the document's rungs: Has, worlds, below, named. No condition. Contracts: the document's Below, Meet, Join, Imp; NishimuraOps over its inputs. No condition. -/
import Derived.Test.YtobpfhmjdoekfaaNP

set_option linter.unusedVariables false
set_option linter.unusedSimpArgs false

namespace Go.Proofs.Ytobpfhmjdoekfaa
open Go Go.Sym Go.Proofs.Try

variable {K : AVal → Heap → Prop} {h : Heap}

/-- a number's rung, of any number -/
def rK (k : Int) : Rung := if k = -1 then ⟨true, 0, false⟩ else if k = 0 then Rung.zero else if k % 2 = 1 then ⟨false, ((k + 1) / 2).toNat, false⟩ else ⟨false, (k / 2 - 1).toNat, true⟩
theorem ofK_rK (k : Int) : ofK k = if -1 ≤ k ∧ k ≤ 4096 then some (rK k) else none := by
  by_cases h1 : k = -1
  · subst h1; rfl
  · by_cases h2 : k < 0 ∨ 4096 < k
    · rw [if_neg (show ¬(-1 ≤ k ∧ k ≤ 4096) by omega)]
      unfold ofK
      rw [if_neg h1, if_pos h2]
    · rw [if_pos (show -1 ≤ k ∧ k ≤ 4096 by omega)]
      unfold ofK rK
      rw [if_neg h1, if_neg h2, if_neg h1]
      split
      · rfl
      · split <;> rfl
theorem num_rK {k : Int} (hk : -1 ≤ k) : (rK k).num = k := by
  unfold rK
  by_cases h1 : k = -1
  · subst h1; rfl
  · rw [if_neg h1]
    by_cases h3 : k = 0
    · subst h3; rfl
    · rw [if_neg h3]
      by_cases h4 : k % 2 = 1
      · rw [if_pos h4]
        simp only [Rung.num, Bool.false_eq_true, if_false]
        rw [if_neg (by omega)]
        omega
      · rw [if_neg h4]
        simp only [Rung.num, Bool.false_eq_true, if_false, if_true]
        omega

theorem hasD_ok {k : Int} (h1 : -1 ≤ k) (h2 : k ≤ 1000000) (w : Nat) (hk : K (.bool ((rK k).has w)) h) : ACalls prog 43 [.int .i64 k, .int .i64 w] h K := by
  refine s43_ok ?_
  unfold s43
  by_cases e1 : k = -1
  · subst e1
    exact rg_of (by decide) (by decide) ⟨by decide, rg_of (by decide) (by decide) (ifT_pos rfl (retG_of (by simpa [rK, Rung.has] using hk)))⟩
  · by_cases e2 : k = 0
    · subst e2
      exact rg_of (by decide) (by decide) ⟨by decide, rg_of (by decide) (by decide) (ifT_neg rfl (ifT_pos rfl (retG_of (by simpa [rK, Rung.has, Rung.zero] using hk))))⟩
    · rw [Int.tdiv_eq_ediv_of_nonneg (show 0 ≤ k - 1 by omega), Int.tdiv_eq_ediv_of_nonneg (show 0 ≤ k by omega), Int.tmod_eq_emod_of_nonneg (show 0 ≤ k by omega)]
      refine rg_of (by omega) (by omega) ⟨by decide, rg_of (by omega) (by omega) (ifT_neg (by simpa using e1) (ifT_neg (by simpa using e2) ⟨by decide, ?_⟩))⟩
      unfold rK at hk
      rw [if_neg e1, if_neg e2] at hk
      by_cases e3 : k % 2 = 1
      · rw [if_pos e3] at hk
        refine ifT_pos (by simpa using e3) (retG_of ?_)
        have : decide ((w : Int) ≤ (k - 1) / 2) = (Rung.mk false ((k + 1) / 2).toNat false).has w := by
          rw [Bool.eq_iff_iff, has_iff]
          simp only [decide_eq_true_eq, Bool.false_eq_true, false_or, false_and, or_false]
          omega
        rw [this]
        exact hk
      · rw [if_neg e3] at hk
        refine ifT_neg (by simpa using e3) ⟨by decide, rg_of (by omega) (by omega) (rg_of (by omega) (by omega) ?_)⟩
        by_cases e4 : (w : Int) < k / 2 - 1
        · refine ifT_pos (by simpa using e4) (retG_of ?_)
          have : (Rung.mk false (k / 2 - 1).toNat true).has w = true := (has_iff _ _).2 (.inr (.inl (by show w < (k / 2 - 1).toNat; omega)))
          rw [this] at hk
          exact hk
        · refine ifT_neg (by simpa using e4) ⟨by decide, rg_of (by omega) (by omega) (retG_of ?_)⟩
          have : ((w : Int) == k / 2) = (Rung.mk false (k / 2 - 1).toNat true).has w := by
            rw [Bool.eq_iff_iff, has_iff]
            simp only [beq_iff_eq, Bool.false_eq_true, false_or, true_and]
            omega
          rw [this]
          exact hk

/-- so many worlds tell two rungs -/
def wN (a b : Int) : Nat := if max a b < 0 then 5 else (max a b / 2).toNat + 5
theorem wN_low {a b : Int} (ha : -1 ≤ a) (hb : -1 ≤ b) : max (rK a).low (rK b).low + 4 ≤ wN a b := by
  have one : ∀ k : Int, -1 ≤ k → (rK k).low = 0 ∨ ((rK k).low : Int) ≤ k / 2 + 1 := by
    intro k h
    unfold rK
    by_cases h1 : k = -1
    · rw [if_pos h1]; exact .inl rfl
    · rw [if_neg h1]
      by_cases h3 : k = 0
      · rw [if_pos h3]; exact .inl rfl
      · rw [if_neg h3]
        by_cases h4 : k % 2 = 1
        · rw [if_pos h4]; dsimp only; omega
        · rw [if_neg h4]; dsimp only; omega
  have x := one a ha
  have y := one b hb
  unfold wN
  split <;> omega
theorem worlds_ok {a b : Int} (ha : -1 ≤ a) (hb : -1 ≤ b) (ha2 : a ≤ 1000000) (hb2 : b ≤ 1000000) (hk : K (.int .i64 (wN a b)) h) : ACalls prog 42 [.int .i64 a, .int .i64 b] h K := by
  refine s42_ok ?_
  unfold s42
  have e : Int.tdiv (max a b) 2 + 5 = (wN a b : Int) := by
    unfold wN
    split
    · rw [show max a b = -1 by omega]; rfl
    · rw [Int.tdiv_eq_ediv_of_nonneg (by omega)]; omega
  have b1 : (wN a b : Int) ≤ 600000 := by
    unfold wN
    split <;> omega
  rw [e]
  exact ⟨by decide, rg_of (by omega) (by omega) (rg_of (by omega) (by omega) (retG_of hk))⟩

theorem is_ok (k : Int) (hk : K (.bool (ofK k).isSome) h) : ACalls prog 23 [.int .i64 k] h K := by
  refine s23_ok ?_
  unfold s23
  rw [ofK_rK] at hk
  by_cases h1 : -1 ≤ k
  · refine ifT_pos (by simpa using h1) (retG_of ?_)
    by_cases h2 : k ≤ 4096
    · rw [if_pos ⟨h1, h2⟩] at hk
      rw [decide_eq_true h2]
      exact hk
    · rw [if_neg (fun h => h2 h.2)] at hk
      rw [decide_eq_false h2]
      exact hk
  · rw [if_neg (fun h => h1 h.1)] at hk
    exact ifT_neg (by simpa using h1) (retG_of hk)
theorem told_ok {k : Int} (hk : K (.tuple [.int .i64 (if 4096 < k then 0 else k), .int .i64 (if 4096 < k then 2 else 0)]) h) : ACalls prog 27 [.int .i64 k] h K := by
  refine s27_ok ?_
  unfold s27
  by_cases e : 4096 < k
  · rw [if_pos e, if_pos e] at hk
    exact ifT_pos (by simpa using e) (retG_of hk)
  · rw [if_neg e, if_neg e] at hk
    exact ifT_neg (by simpa using e) (retG_of hk)

theorem belowD_loop {a b : Int} (ha : -1 ≤ a) (hb : -1 ≤ b) (ha2 : a ≤ 1000000) (hb2 : b ≤ 1000000) (hk : ∀ c : Bool, (c = true ↔ ∀ w, w < wN a b → (rK a).has w = true → (rK b).has w = true) → K (.bool c) h) :
    ∀ d w : Nat, w + d = wN a b → (∀ v, v < w → (rK a).has v = true → (rK b).has v = true) → s24l1 K (d + 1) a b (w : Int) h
  | 0, w, hd, hi => by
    unfold s24l1
    refine callG_of (worlds_ok ha hb ha2 hb2 ?_)
    rw [tInt_int]
    exact ifT_neg (by simp; omega) (retG_of (hk true ⟨fun _ v hv => hi v (by omega), fun _ => rfl⟩))
  | d + 1, w, hd, hi => by
    unfold s24l1
    refine callG_of (worlds_ok ha hb ha2 hb2 ?_)
    rw [tInt_int]
    have hw : w < wN a b := by omega
    have b1 : wN a b ≤ 600000 := by unfold wN; split <;> omega
    refine ifT_pos (by simpa using hw) (callG_of (hasD_ok ha ha2 w ?_))
    rw [tBool_bool]
    have go : ((rK a).has w = true → (rK b).has w = true) → s24c2 K (s24l1_G (s24l1 K (d + 1))) a b (w : Int) false h := fun e => by
      unfold s24c2
      refine ifT_neg rfl (rg_of (by omega) (by omega) (s24l1_go (belowD_loop ha hb ha2 hb2 hk d (w + 1) (by omega) fun v hv h1 => ?_)))
      rcases Nat.lt_or_ge v w with h2 | h2
      · exact hi v h2 h1
      · obtain rfl : v = w := by omega
        exact e h1
    cases e1 : (rK a).has w with
    | false => exact ifT_neg rfl (go fun h => by rw [e1] at h; cases h)
    | true =>
      refine ifT_pos rfl (callG_of (hasD_ok hb hb2 w ?_))
      rw [tBool_bool]
      cases e2 : (rK b).has w with
      | true => exact go fun _ => e2
      | false =>
        unfold s24c2
        exact ifT_pos rfl (retG_of (hk false ⟨(fun h => by cases h), (fun h => by have := h w hw e1; rw [e2] at this; cases this)⟩))
theorem belowD_ok {a b : Int} (ha : -1 ≤ a) (hb : -1 ≤ b) (ha2 : a ≤ 1000000) (hb2 : b ≤ 1000000) (hk : K (.bool (impR (rK a) (rK b)).all) h) : ACalls prog 24 [.int .i64 a, .int .i64 b] h K := by
  refine s24_ok ?_
  unfold s24
  refine s24l1_in (wN a b + 1) (belowD_loop ha hb ha2 hb2 (fun c hc => ?_) (wN a b) 0 (by omega) (fun v hv => by omega))
  have : c = (impR (rK a) (rK b)).all := by
    rw [Bool.eq_iff_iff, hc, imp_all]
    constructor
    · intro H w hw
      have hl := wN_low ha hb
      rcases Nat.lt_or_ge w (wN a b) with e | e
      · exact H w e hw
      · rw [far_has (by omega)] at hw
        have := H (wN a b - 1) (by omega) (all_has hw _)
        rw [far_has (by omega)] at this
        exact all_has this w
    · exact fun H w _ => H w
  rw [this]
  exact hk

/- ---- a row of truths ---- -/
def bRow (n : Nat) (p : Nat → Bool) : AObj := .row 1 ((List.range n).map fun w => .bool (p w))
theorem bRow_zero (n : Nat) : AObj.row 1 (List.replicate n (.bool false)) = bRow n fun _ => false := by
  unfold bRow
  congr 1
  apply List.ext_getElem <;> simp
theorem bRow_rd {r n : Nat} {p : Nat → Bool} {hh : Heap} (hr : hh r = some (bRow n p)) {w : Nat} (hw : w < n) {K : AVal → Prop} (hk : K (.bool (p w))) : ixS 1 (.sl r 1 0 n) (w : Int) fun q => ld1 hh q K := by
  refine ixS_sl0 hw ?_
  rw [ld1_ptr hr (e := .bool (p w)) (by simp [hw]) rfl]
  exact hk
theorem bRow_wr {r n : Nat} {p : Nat → Bool} {hh : Heap} (hr : hh r = some (bRow n p)) {w : Nat} (hw : w < n) (b : Bool) {K : Heap → Prop} (hk : K (hh.set r (bRow n fun v => if v = w then b else p v))) : ixS 1 (.sl r 1 0 n) (w : Int) fun q => st true hh q [.bool b] K := by
  refine ixS_sl0 hw (st_elem hr (e := .bool (p w)) (by simp [hw]) rfl ?_)
  have : ((List.range n).map fun v => AVal.bool (p v)).set w (.bool b) = (List.range n).map fun v => .bool (if v = w then b else p v) := by
    apply List.ext_getElem
    · simp
    · intro i h1 h2
      rw [List.getElem_set]
      simp only [List.getElem_map, List.getElem_range]
      by_cases e : w = i
      · subst e; simp
      · rw [if_neg e, if_neg (fun h => e h.symm)]
  rw [this]
  exact hk

/-- the first worlds tell a rung -/
theorem tell_one {n : Nat} {k : Int} {R : Rung} (h0 : 0 ≤ k) (hR : R.all = false) (hl : R.low + 1 < n) (hkR : k ≤ R.num) (hs : ∀ w, w < n → (rK k).has w = R.has w) : k = R.num := by
  have hk : (rK k).all = false := by
    unfold rK
    rw [if_neg (by omega)]
    split
    · rfl
    · split <;> rfl
  have hn := num_rK (show -1 ≤ k by omega)
  have e0 := low_not hR
  have e1 := low_not hk
  have b0 : (rK k).low ≤ R.low := by
    rcases Nat.lt_or_ge R.low (rK k).low with e | e
    · have := hs R.low (by omega)
      rw [e0, (has_iff _ _).2 (.inr (.inl e))] at this
      cases this
    · exact e
  have el : (rK k).low = R.low := by
    rcases Nat.lt_or_ge (rK k).low R.low with e | e
    · have := hs (rK k).low (by omega)
      rw [e1, (has_iff _ _).2 (.inr (.inl e))] at this
      cases this
    · omega
  have eg : (rK k).gap = R.gap := by
    have h1 := hs (R.low + 1) hl
    have f : ∀ r : Rung, r.all = false → r.has (r.low + 1) = r.gap := fun r hr => by
      rw [Bool.eq_iff_iff, has_iff, hr]
      constructor
      · rintro (h | h | ⟨h, _⟩)
        · cases h
        · omega
        · exact h
      · exact fun h => .inr (.inr ⟨h, rfl⟩)
    rw [f R hR, ← el, f _ hk] at h1
    exact h1
  rw [← hn]
  unfold Rung.num
  rw [hk, hR, el, eg]

theorem named_l4 {n r : Nat} {p : Nat → Bool} {k : Int} (h0 : -1 ≤ k) (h1 : k ≤ 900000) (hn : n ≤ 1000000) (hr : h r = some (bRow n p)) {L3 : AVal → Int → Int → Heap → Prop}
    (hyes : (∀ v, v < n → (rK k).has v = p v) → K (.tuple [.int .i64 k, .bool true]) h) (hno : (∃ v, v < n ∧ (rK k).has v ≠ p v) → L3 (.sl r 1 0 n) n (k + 1) h) :
    ∀ d w : Nat, w + d = n → (∀ v, v < w → (rK k).has v = p v) → s49l4 K L3 (d + 2) (.sl r 1 0 n) n k true (w : Int) h
  | 0, w, hd, hi => by
    unfold s49l4
    refine ifT_neg (by simp; omega) ?_
    unfold s49c5
    exact ifT_neg rfl (ifT_pos rfl (retG_of (hyes fun v hv => hi v (by omega))))
  | d + 1, w, hd, hi => by
    unfold s49l4
    refine ifT_pos (by simp; omega) ?_
    unfold s49c5
    refine ifT_pos rfl ?_
    have hw : w < n := by omega
    refine ixS_sl0 hw ?_
    rw [ld1_ptr hr (e := .bool (p w)) (by simp [hw]) rfl, tBool_bool]
    refine callG_of (hasD_ok h0 (by omega) w ?_)
    rw [tBool_bool]
    refine ⟨by rw [ld1_ptr hr (e := .bool (p w)) (by simp [hw]) rfl], eqQ_bool ?_⟩
    refine rg_of (by omega) (by omega) (s49l4_go ?_)
    by_cases e : (rK k).has w = p w
    · rw [show ((rK k).has w == p w) = true by simp [e]]
      refine named_l4 h0 h1 hn hr hyes hno d (w + 1) (by omega) fun v hv => ?_
      rcases Nat.lt_or_ge v w with h2 | h2
      · exact hi v h2
      · obtain rfl : v = w := by omega
        exact e
    · rw [show ((rK k).has w == p w) = false by simp [e]]
      have stop : ∀ m : Nat, s49l4 K L3 (m + 1) (.sl r 1 0 n) n k false ((w : Int) + 1) h := fun m => by
        unfold s49l4
        have end5 : s49c5 K L3 (s49l4_G (s49l4 K L3 m)) (.sl r 1 0 n) n k false ((w : Int) + 1) false h := by
          unfold s49c5
          exact ifT_neg rfl (ifT_neg rfl (rg_of (by omega) (by omega) (hno ⟨w, by omega, e⟩)))
        by_cases e2 : (w : Int) + 1 < n
        · exact ifT_pos (by simpa using e2) end5
        · exact ifT_neg (by simpa using e2) end5
      exact stop _
theorem named_l3 {n r : Nat} {p : Nat → Bool} {R : Rung} (hn : n ≤ 300000) (hr : h r = some (bRow n p)) (hR : R.all = false) (hl : R.low + 1 < n) (hs : ∀ w, w < n → p w = R.has w) (hk : K (.tuple [.int .i64 R.num, .bool true]) h) :
    ∀ d k : Nat, (k : Int) + d = R.num → s49l3 K (d + 1) (.sl r 1 0 n) n (k : Int) h
  | d, k, hd => by
    have hnum : R.num ≤ 2 * R.low + 2 := by
      unfold Rung.num
      rw [hR]
      simp only [Bool.false_eq_true, if_false]
      split
      · omega
      · split <;> omega
    unfold s49l3
    refine rg_of (by omega) (by omega) (ifT_pos (by simp; omega) ?_)
    refine s49l4_in (n + 2) (named_l4 (by omega) (by omega) (by omega) hr (fun h1 => ?_) (fun h1 => ?_) n 0 (by omega) (fun v hv => by omega))
    · have := tell_one (R := R) (k := (k : Int)) (by omega) hR hl (by omega) fun w hw => by rw [h1 w hw, hs w hw]
      rw [this]
      exact hk
    · match d, hd with
      | 0, hd =>
        exfalso
        obtain ⟨v, hv, e⟩ := h1
        have e2 : (rK (k : Int)).has v = R.has v := by
          have e3 : (k : Int) = R.num := by omega
          rw [e3]
          have hasN : ∀ r : Rung, r.all = false → ∀ v, (rK r.num).has v = r.has v := by
            intro r hr v
            obtain ⟨a, low, gap⟩ := r
            cases hr
            unfold Rung.num rK
            simp only [Bool.false_eq_true, if_false]
            cases gap with
            | true =>
              simp only [if_true]
              rw [if_neg (by omega), if_neg (by omega), if_neg (by omega)]
              rw [show ((2 * (low : Int) + 2) / 2 - 1).toNat = low by omega]
            | false =>
              simp only [Bool.false_eq_true, if_false]
              by_cases e : low = 0
              · subst e; rfl
              · rw [if_neg e, if_neg (by omega), if_neg (by omega), if_pos (by omega)]
                rw [show ((2 * (low : Int) - 1 + 1) / 2).toNat = low by omega]
          exact hasN R hR v
        exact e (by rw [e2, hs v hv])
      | d + 1, hd =>
        refine s49l3_go ?_
        exact named_l3 hn hr hR hl hs hk d (k + 1) (by omega)
theorem named_l1 {n r : Nat} {p : Nat → Bool} {R : Rung} (hn : n ≤ 300000) (hr : h r = some (bRow n p)) (hl : R.all = false → R.low + 1 < n) (hs : ∀ w, w < n → p w = R.has w) (hk : K (.tuple [.int .i64 R.num, .bool true]) h) :
    ∀ d w : Nat, w + d = n → ∀ c : Bool, (c = true ↔ ∀ v, v < w → p v = true) → s49l1 K (d + 1) (.sl r 1 0 n) n c (w : Int) h
  | 0, w, hd, c, hc => by
    unfold s49l1
    refine ifT_neg (by simp; omega) ?_
    cases c with
    | true =>
      have hp := hc.1 rfl
      cases hR : R.all with
      | true => exact ifT_pos rfl (retG_of (by simpa [Rung.num, hR] using hk))
      | false =>
        exfalso
        have h1 := hl hR
        have h2 := hp R.low (by omega)
        rw [hs _ (by omega), low_not hR] at h2
        cases h2
    | false =>
      have hR : R.all = false := by
        cases hR : R.all with
        | false => rfl
        | true =>
          have : false = true := hc.2 fun v hv => by rw [hs v (by omega)]; exact all_has hR v
          cases this
      have hnum : 0 ≤ R.num := by
        unfold Rung.num
        rw [hR]
        simp only [Bool.false_eq_true, if_false]
        split
        · omega
        · split <;> omega
      obtain ⟨m, hm⟩ := Int.eq_ofNat_of_zero_le hnum
      exact ifT_neg rfl (s49l3_in (m + 1) (named_l3 hn hr hR (hl hR) hs hk m 0 (by omega)))
  | d + 1, w, hd, c, hc => by
    unfold s49l1
    refine ifT_pos (by simp; omega) ?_
    have go : ∀ c' : Bool, (c' = true ↔ ∀ v, v < w + 1 → p v = true) → s49c2 K (s49l1_G (s49l1 K (d + 1))) (.sl r 1 0 n) n c' (w : Int) h := fun c' hc' => by
      unfold s49c2
      exact rg_of (by omega) (by omega) (s49l1_go (named_l1 hn hr hl hs hk d (w + 1) (by omega) c' hc'))
    cases c with
    | true =>
      refine ifT_pos rfl (bRow_rd hr (by omega) ?_)
      rw [tBool_bool]
      refine go _ ⟨fun h1 v hv => ?_, fun h1 => h1 w (by omega)⟩
      rcases Nat.lt_or_ge v w with h2 | h2
      · exact hc.1 rfl v h2
      · obtain rfl : v = w := by omega
        exact h1
    | false =>
      refine ifT_neg rfl (go _ ⟨(fun h1 => by cases h1), fun h1 => hc.2 fun v hv => h1 v (by omega)⟩)
theorem named_ok {n r : Nat} {p : Nat → Bool} {R : Rung} (hn : n ≤ 300000) (hr : h r = some (bRow n p)) (hl : R.all = false → R.low + 1 < n) (hs : ∀ w, w < n → p w = R.has w) (hk : K (.tuple [.int .i64 R.num, .bool true]) h) :
    ACalls prog 49 [.sl r 1 0 n] h K := by
  refine s49_ok ?_
  unfold s49
  rw [lenN_sl]
  exact s49l1_in (n + 1) (named_l1 hn hr hl hs hk n 0 (by omega) true ⟨fun _ v hv => by omega, fun _ => rfl⟩)
end Go.Proofs.Ytobpfhmjdoekfaa

namespace Go.Proofs.Ytobpfhmjdoekfaa
open Go Go.Sym Go.Proofs.Try

variable {K : AVal → Heap → Prop} {h : Heap}

theorem wN_le {a b : Int} (ha2 : a ≤ 500000) (hb2 : b ≤ 500000) : wN a b ≤ 300000 := by unfold wN; split <;> omega
theorem setR_reach {p : Nat → Bool} {d : Nat} (h : (setR p d 0).all = false) : (setR p d 0).low < d := by
  rcases setR_cases (p := p) d 0 with ⟨_, h2⟩ | ⟨F, h1, h2, h3, h4, h5⟩
  · rw [h2] at h; cases h
  · rw [h5]; dsimp only; omega
theorem two_reach {a b : Int} (ha : -1 ≤ a) (hb : -1 ≤ b) {R : Rung} (hR : R.all = false → R.low < farN (rK a) (rK b)) : R.all = false → R.low + 1 < wN a b := fun h => by
  have := hR h
  have := wN_low ha hb
  unfold farN at *
  omega

theorem meetD_loop {a b : Int} (ha : -1 ≤ a) (hb : -1 ≤ b) (ha2 : a ≤ 500000) (hb2 : b ≤ 500000) {r : Nat} {h0 : Heap} (hn : h0 r = none) (hk : ∀ h', Ext h0 h' → K (.int .i64 (meetR (rK a) (rK b)).num) h') :
    ∀ (d w : Nat) (p : Nat → Bool) (hh : Heap), w + d = wN a b → hh r = some (bRow (wN a b) p) → Ext h0 hh → (∀ v, v < w → p v = ((rK a).has v && (rK b).has v)) → s28l1 K (d + 1) a b (.sl r 1 0 (wN a b)) (w : Int) hh
  | 0, w, p, hh, hd, hr, x, hp => by
    unfold s28l1
    rw [lenN_sl]
    refine ifT_neg (by simp; omega) (callG_of (named_ok (R := meetR (rK a) (rK b)) (wN_le ha2 hb2) hr (two_reach ha hb fun h => setR_reach h) (fun w' hw => ?_) ?_))
    · rw [hp w' (by omega), Bool.eq_iff_iff, meet_has]
      simp
    · rw [tTup_tuple, tCons_cons, tInt_int, tCons_cons, tBool_bool, tNil_nil]
      exact retG_of (hk _ x)
  | d + 1, w, p, hh, hd, hr, x, hp => by
    unfold s28l1
    rw [lenN_sl]
    have hw : w < wN a b := by omega
    have b1 := wN_le ha2 hb2
    have go : ∀ c : Bool, c = ((rK a).has w && (rK b).has w) → s28c2 K (s28l1_G (s28l1 K (d + 1))) a b (.sl r 1 0 (wN a b)) (w : Int) (hh.set r (bRow (wN a b) fun v => if v = w then c else p v)) := fun c hc => by
      unfold s28c2
      refine rg_of (by omega) (by omega) (s28l1_go (meetD_loop ha hb ha2 hb2 hn hk d (w + 1) _ _ (by omega) (Heap.set_same _ _ _) (x.put hn _) fun v hv => ?_))
      by_cases e : v = w
      · subst e; rw [if_pos rfl]; exact hc
      · rw [if_neg e]; exact hp v (by omega)
    refine ifT_pos (by simpa using hw) (callG_of (hasD_ok ha (by omega) w ?_))
    rw [tBool_bool]
    cases e : (rK a).has w with
    | false => exact ifT_neg rfl (bRow_wr hr hw false (go _ (by rw [e]; rfl)))
    | true =>
      refine ifT_pos rfl (callG_of (hasD_ok hb (by omega) w ?_))
      rw [tBool_bool]
      exact bRow_wr hr hw _ (go _ (by rw [e]; rfl))
theorem meetD_ok {a b : Int} (ha : -1 ≤ a) (hb : -1 ≤ b) (ha2 : a ≤ 500000) (hb2 : b ≤ 500000) (hk : ∀ h', Ext h h' → K (.int .i64 (meetR (rK a) (rK b)).num) h') : ACalls prog 28 [.int .i64 a, .int .i64 b] h K := by
  refine s28_ok ?_
  unfold s28
  refine callG_of (worlds_ok ha hb (by omega) (by omega) ?_)
  rw [tInt_int]
  have b1 := wN_le ha2 hb2
  refine mkS_own (by omega) (by omega) fun r hr => ?_
  rw [bRow_zero]
  exact s28l1_in (wN a b + 1) (meetD_loop ha hb ha2 hb2 hr hk (wN a b) 0 _ _ (by omega) (Heap.set_same _ _ _) (Ext.new hr _) fun v hv => by omega)

theorem joinD_loop {a b : Int} (ha : -1 ≤ a) (hb : -1 ≤ b) (ha2 : a ≤ 500000) (hb2 : b ≤ 500000) {r : Nat} {h0 : Heap} (hn : h0 r = none) (hk : ∀ h', Ext h0 h' → K (.int .i64 (joinR (rK a) (rK b)).num) h') :
    ∀ (d w : Nat) (p : Nat → Bool) (hh : Heap), w + d = wN a b → hh r = some (bRow (wN a b) p) → Ext h0 hh → (∀ v, v < w → p v = ((rK a).has v || (rK b).has v)) → s30l1 K (d + 1) a b (.sl r 1 0 (wN a b)) (w : Int) hh
  | 0, w, p, hh, hd, hr, x, hp => by
    unfold s30l1
    rw [lenN_sl]
    refine ifT_neg (by simp; omega) (callG_of (named_ok (R := joinR (rK a) (rK b)) (wN_le ha2 hb2) hr (two_reach ha hb fun h => setR_reach h) (fun w' hw => ?_) ?_))
    · rw [hp w' (by omega), Bool.eq_iff_iff, join_has]
      simp
    · rw [tTup_tuple, tCons_cons, tInt_int, tCons_cons, tBool_bool, tNil_nil]
      exact retG_of (hk _ x)
  | d + 1, w, p, hh, hd, hr, x, hp => by
    unfold s30l1
    rw [lenN_sl]
    have hw : w < wN a b := by omega
    have b1 := wN_le ha2 hb2
    have go : ∀ c : Bool, c = ((rK a).has w || (rK b).has w) → s30c2 K (s30l1_G (s30l1 K (d + 1))) a b (.sl r 1 0 (wN a b)) (w : Int) (hh.set r (bRow (wN a b) fun v => if v = w then c else p v)) := fun c hc => by
      unfold s30c2
      refine rg_of (by omega) (by omega) (s30l1_go (joinD_loop ha hb ha2 hb2 hn hk d (w + 1) _ _ (by omega) (Heap.set_same _ _ _) (x.put hn _) fun v hv => ?_))
      by_cases e : v = w
      · subst e; rw [if_pos rfl]; exact hc
      · rw [if_neg e]; exact hp v (by omega)
    refine ifT_pos (by simpa using hw) (callG_of (hasD_ok ha (by omega) w ?_))
    rw [tBool_bool]
    cases e : (rK a).has w with
    | true => exact ifT_pos rfl (bRow_wr hr hw true (go _ (by rw [e]; rfl)))
    | false =>
      refine ifT_neg rfl (callG_of (hasD_ok hb (by omega) w ?_))
      rw [tBool_bool]
      exact bRow_wr hr hw _ (go _ (by rw [e]; rfl))
theorem joinD_ok {a b : Int} (ha : -1 ≤ a) (hb : -1 ≤ b) (ha2 : a ≤ 500000) (hb2 : b ≤ 500000) (hk : ∀ h', Ext h h' → K (.int .i64 (joinR (rK a) (rK b)).num) h') : ACalls prog 30 [.int .i64 a, .int .i64 b] h K := by
  refine s30_ok ?_
  unfold s30
  refine callG_of (worlds_ok ha hb (by omega) (by omega) ?_)
  rw [tInt_int]
  have b1 := wN_le ha2 hb2
  refine mkS_own (by omega) (by omega) fun r hr => ?_
  rw [bRow_zero]
  exact s30l1_in (wN a b + 1) (joinD_loop ha hb ha2 hb2 hr hk (wN a b) 0 _ _ (by omega) (Heap.set_same _ _ _) (Ext.new hr _) fun v hv => by omega)

theorem barD (x y : Rung) (w : Nat) : barB x y w = (!x.has w || y.has w) := by unfold barB; cases x.has w <;> cases y.has w <;> rfl
def impOK (x y : Rung) (w u : Nat) : Prop := barB x y w = true ∧ ∀ v, v < u → barB x y v = true
theorem impD_in {a b : Int} (ha : -1 ≤ a) (hb : -1 ≤ b) (ha2 : a ≤ 500000) (hb2 : b ≤ 500000) {r w : Nat} {h0 : Heap} (hn : h0 r = none) (hw : w < wN a b) {L1 : Int → Int → AVal → Int → Heap → Prop} {p0 : Nat → Bool}
    (hk : ∀ (p : Nat → Bool) (hh : Heap), hh r = some (bRow (wN a b) p) → Ext h0 hh → (∀ v, v ≠ w → p v = p0 v) → (p w = true ↔ barB (rK a) (rK b) w = true ∧ ∀ v, v + 2 ≤ w → barB (rK a) (rK b) v = true) → L1 a b (.sl r 1 0 (wN a b)) ((w : Int) + 1) hh) :
    ∀ (d u : Nat) (p : Nat → Bool) (hh : Heap), u + d = w - 1 → hh r = some (bRow (wN a b) p) → Ext h0 hh → (∀ v, v ≠ w → p v = p0 v) → (p w = true ↔ impOK (rK a) (rK b) w u) → s32l3 K L1 (d + 1) a b (.sl r 1 0 (wN a b)) (w : Int) (u : Int) hh
  | 0, u, p, hh, hd, hr, x, hp, hi => by
    unfold s32l3
    have b1 := wN_le ha2 hb2
    refine rg_of (by omega) (by omega) (ifT_neg (by simp; omega) (rg_of (by omega) (by omega) (hk p hh hr x hp ?_)))
    rw [hi]
    unfold impOK
    exact ⟨fun h => ⟨h.1, fun v hv => h.2 v (by omega)⟩, fun h => ⟨h.1, fun v hv => h.2 v (by omega)⟩⟩
  | d + 1, u, p, hh, hd, hr, x, hp, hi => by
    unfold s32l3
    have b1 := wN_le ha2 hb2
    have go : ∀ c : Bool, (c = true ↔ p w = true ∧ barB (rK a) (rK b) u = true) → s32c4 K L1 (s32l3_G (s32l3 K L1 (d + 1))) a b (.sl r 1 0 (wN a b)) (w : Int) (u : Int) (hh.set r (bRow (wN a b) fun v => if v = w then c else p v)) := fun c hc => by
      unfold s32c4
      refine rg_of (by omega) (by omega) (s32l3_go (impD_in ha hb ha2 hb2 hn hw hk d (u + 1) _ _ (by omega) (Heap.set_same _ _ _) (x.put hn _) (fun v hv => by rw [if_neg hv]; exact hp v hv) ?_))
      rw [if_pos rfl, hc, hi]
      unfold impOK
      constructor
      · rintro ⟨⟨h1, h2⟩, h3⟩
        refine ⟨h1, fun v hv => ?_⟩
        rcases Nat.lt_or_ge v u with e | e
        · exact h2 v e
        · obtain rfl : v = u := by omega
          exact h3
      · exact fun h => ⟨⟨h.1, fun v hv => h.2 v (by omega)⟩, h.2 u (by omega)⟩
    refine rg_of (by omega) (by omega) (ifT_pos (by simp; omega) (bRow_rd hr hw ?_))
    rw [tBool_bool]
    cases e : p w with
    | false => exact ifT_neg rfl (bRow_wr hr hw _ (go _ (by rw [e]; simp)))
    | true =>
      refine ifT_pos rfl (callG_of (hasD_ok ha (by omega) u ?_))
      rw [tBool_bool]
      cases e2 : (rK a).has u with
      | false => exact ifT_pos rfl (bRow_wr hr hw _ (go _ (by rw [e, barD, e2]; simp)))
      | true =>
        refine ifT_neg rfl (callG_of (hasD_ok hb (by omega) u ?_))
        rw [tBool_bool]
        exact bRow_wr hr hw _ (go _ (by rw [e, barD, e2]; simp))
theorem impD_loop {a b : Int} (ha : -1 ≤ a) (hb : -1 ≤ b) (ha2 : a ≤ 500000) (hb2 : b ≤ 500000) {r : Nat} {h0 : Heap} (hn : h0 r = none) (hk : ∀ h', Ext h0 h' → K (.int .i64 (impR (rK a) (rK b)).num) h') :
    ∀ (d w : Nat) (p : Nat → Bool) (hh : Heap), w + d = wN a b → hh r = some (bRow (wN a b) p) → Ext h0 hh → (∀ v, v < w → p v = (impR (rK a) (rK b)).has v) → s32l1 K (d + 1) a b (.sl r 1 0 (wN a b)) (w : Int) hh
  | 0, w, p, hh, hd, hr, x, hp => by
    unfold s32l1
    rw [lenN_sl]
    refine ifT_neg (by simp; omega) (callG_of (named_ok (R := impR (rK a) (rK b)) (wN_le ha2 hb2) hr (two_reach ha hb fun h => setR_reach h) (fun w' hw => hp w' (by omega)) ?_))
    rw [tTup_tuple, tCons_cons, tInt_int, tCons_cons, tBool_bool, tNil_nil]
    exact retG_of (hk _ x)
  | d + 1, w, p, hh, hd, hr, x, hp => by
    unfold s32l1
    rw [lenN_sl]
    have hw : w < wN a b := by omega
    have b1 := wN_le ha2 hb2
    have go : ∀ c : Bool, c = barB (rK a) (rK b) w → s32c2 K (s32l1_G (s32l1 K (d + 1))) a b (.sl r 1 0 (wN a b)) (w : Int) (hh.set r (bRow (wN a b) fun v => if v = w then c else p v)) := fun c hc => by
      unfold s32c2
      refine s32l3_in (w - 1 + 1) ?_
      exact impD_in (K := K) ha hb ha2 hb2 hn hw (p0 := p) (fun p2 h2 hr2 x2 hp2 hi2 => by
          refine s32l1_go (impD_loop ha hb ha2 hb2 hn hk d (w + 1) p2 h2 (by omega) hr2 x2 fun v hv => ?_)
          by_cases e : v = w
          · subst e
            rw [Bool.eq_iff_iff, hi2, imp_has]
          · rw [hp2 v e]
            exact hp v (by omega)) (w - 1) 0 _ _ (by omega) (Heap.set_same _ _ _) (x.put hn _) (fun v hv => by rw [if_neg hv]) (by
          rw [if_pos rfl, hc]
          unfold impOK
          exact ⟨fun h => ⟨h, fun v hv => by omega⟩, fun h => h.1⟩)
    refine ifT_pos (by simpa using hw) (callG_of (hasD_ok ha (by omega) w ?_))
    rw [tBool_bool]
    cases e : (rK a).has w with
    | false => exact ifT_pos rfl (bRow_wr hr hw true (go _ (by rw [barD, e]; rfl)))
    | true =>
      refine ifT_neg rfl (callG_of (hasD_ok hb (by omega) w ?_))
      rw [tBool_bool]
      exact bRow_wr hr hw _ (go _ (by rw [barD, e]; rfl))
theorem impD_ok {a b : Int} (ha : -1 ≤ a) (hb : -1 ≤ b) (ha2 : a ≤ 500000) (hb2 : b ≤ 500000) (hk : ∀ h', Ext h h' → K (.int .i64 (impR (rK a) (rK b)).num) h') : ACalls prog 32 [.int .i64 a, .int .i64 b] h K := by
  refine s32_ok ?_
  unfold s32
  refine callG_of (belowD_ok ha hb (by omega) (by omega) ?_)
  rw [tBool_bool]
  cases e : (impR (rK a) (rK b)).all with
  | true => exact ifT_pos rfl (retG_of (by simpa [Rung.num, e] using hk _ (Ext.refl _)))
  | false =>
    refine ifT_neg rfl (callG_of (worlds_ok ha hb (by omega) (by omega) ?_))
    rw [tInt_int]
    have b1 := wN_le ha2 hb2
    refine mkS_own (by omega) (by omega) fun r hr => ?_
    rw [bRow_zero]
    exact s32l1_in (wN a b + 1) (impD_loop ha hb ha2 hb2 hr hk (wN a b) 0 _ _ (by omega) (Heap.set_same _ _ _) (Ext.new hr _) fun v hv => by omega)

theorem ofK_some {k : Int} {r : Rung} (e : ofK k = some r) : -1 ≤ k ∧ k ≤ 4096 ∧ r = rK k := by
  rw [ofK_rK] at e
  split at e
  · rename_i h; cases e; exact ⟨h.1, h.2, rfl⟩
  · cases e
theorem MeetDP_ok (a b : Int) (hk : ∀ h', Ext h h' → K (.tuple [.int .i64 (twoV meetR a b).1, .int .i64 (twoV meetR a b).2]) h') : ACalls prog 10 [.int .i64 a, .int .i64 b] h K := by
  refine s10_ok ?_
  unfold s10
  unfold twoV at hk
  have out : (∀ h', Ext h h' → K (.tuple [.int .i64 0, .int .i64 2]) h') → s10c1 K a b true h := fun hk => by
    unfold s10c1
    exact ifT_pos rfl (retG_of (hk _ (Ext.refl _)))
  refine callG_of (is_ok a ?_)
  rw [tBool_bool]
  cases ea : ofK a with
  | none => rw [ea] at hk; exact ifT_pos rfl (out hk)
  | some x =>
    rw [ea] at hk
    refine ifT_neg rfl (callG_of (is_ok b ?_))
    rw [tBool_bool]
    cases eb : ofK b with
    | none => rw [eb] at hk; exact out hk
    | some y =>
      rw [eb] at hk
      obtain ⟨a1, a2, rfl⟩ := ofK_some ea
      obtain ⟨b1, b2, rfl⟩ := ofK_some eb
      unfold s10c1
      refine ifT_neg rfl (callG_of (meetD_ok a1 b1 (by omega) (by omega) fun h' x => ?_))
      rw [tInt_int]
      refine callG_of (told_ok ?_)
      rw [tTup_tuple, tCons_cons, tInt_int, tCons_cons, tInt_int, tNil_nil]
      have := hk _ x
      dsimp only at this
      refine retG_of ?_
      split at this
      · rename_i e; rw [if_pos e, if_pos e]; exact this
      · rename_i e; rw [if_neg e, if_neg e]; exact this
theorem JoinDP_ok (a b : Int) (hk : ∀ h', Ext h h' → K (.tuple [.int .i64 (twoV joinR a b).1, .int .i64 (twoV joinR a b).2]) h') : ACalls prog 12 [.int .i64 a, .int .i64 b] h K := by
  refine s12_ok ?_
  unfold s12
  unfold twoV at hk
  have out : (∀ h', Ext h h' → K (.tuple [.int .i64 0, .int .i64 2]) h') → s12c1 K a b true h := fun hk => by
    unfold s12c1
    exact ifT_pos rfl (retG_of (hk _ (Ext.refl _)))
  refine callG_of (is_ok a ?_)
  rw [tBool_bool]
  cases ea : ofK a with
  | none => rw [ea] at hk; exact ifT_pos rfl (out hk)
  | some x =>
    rw [ea] at hk
    refine ifT_neg rfl (callG_of (is_ok b ?_))
    rw [tBool_bool]
    cases eb : ofK b with
    | none => rw [eb] at hk; exact out hk
    | some y =>
      rw [eb] at hk
      obtain ⟨a1, a2, rfl⟩ := ofK_some ea
      obtain ⟨b1, b2, rfl⟩ := ofK_some eb
      unfold s12c1
      refine ifT_neg rfl (callG_of (joinD_ok a1 b1 (by omega) (by omega) fun h' x => ?_))
      rw [tInt_int]
      refine callG_of (told_ok ?_)
      rw [tTup_tuple, tCons_cons, tInt_int, tCons_cons, tInt_int, tNil_nil]
      have := hk _ x
      dsimp only at this
      refine retG_of ?_
      split at this
      · rename_i e; rw [if_pos e, if_pos e]; exact this
      · rename_i e; rw [if_neg e, if_neg e]; exact this
theorem ImpDP_ok (a b : Int) (hk : ∀ h', Ext h h' → K (.tuple [.int .i64 (twoV impR a b).1, .int .i64 (twoV impR a b).2]) h') : ACalls prog 14 [.int .i64 a, .int .i64 b] h K := by
  refine s14_ok ?_
  unfold s14
  unfold twoV at hk
  have out : (∀ h', Ext h h' → K (.tuple [.int .i64 0, .int .i64 2]) h') → s14c1 K a b true h := fun hk => by
    unfold s14c1
    exact ifT_pos rfl (retG_of (hk _ (Ext.refl _)))
  refine callG_of (is_ok a ?_)
  rw [tBool_bool]
  cases ea : ofK a with
  | none => rw [ea] at hk; exact ifT_pos rfl (out hk)
  | some x =>
    rw [ea] at hk
    refine ifT_neg rfl (callG_of (is_ok b ?_))
    rw [tBool_bool]
    cases eb : ofK b with
    | none => rw [eb] at hk; exact out hk
    | some y =>
      rw [eb] at hk
      obtain ⟨a1, a2, rfl⟩ := ofK_some ea
      obtain ⟨b1, b2, rfl⟩ := ofK_some eb
      unfold s14c1
      refine ifT_neg rfl (callG_of (impD_ok a1 b1 (by omega) (by omega) fun h' x => ?_))
      rw [tInt_int]
      refine callG_of (told_ok ?_)
      rw [tTup_tuple, tCons_cons, tInt_int, tCons_cons, tInt_int, tNil_nil]
      have := hk _ x
      dsimp only at this
      refine retG_of ?_
      split at this
      · rename_i e; rw [if_pos e, if_pos e]; exact this
      · rename_i e; rw [if_neg e, if_neg e]; exact this
theorem BelowDP_ok (a b : Int) (hk : K (.tuple [.bool (belowV a b).1, .int .i64 (belowV a b).2]) h) : ACalls prog 8 [.int .i64 a, .int .i64 b] h K := by
  refine s8_ok ?_
  unfold s8
  unfold belowV at hk
  have out : K (.tuple [.bool false, .int .i64 2]) h → s8c1 K a b true h := fun hk => by
    unfold s8c1
    exact ifT_pos rfl (retG_of hk)
  refine callG_of (is_ok a ?_)
  rw [tBool_bool]
  cases ea : ofK a with
  | none => rw [ea] at hk; exact ifT_pos rfl (out hk)
  | some x =>
    rw [ea] at hk
    refine ifT_neg rfl (callG_of (is_ok b ?_))
    rw [tBool_bool]
    cases eb : ofK b with
    | none => rw [eb] at hk; exact out hk
    | some y =>
      rw [eb] at hk
      obtain ⟨a1, a2, rfl⟩ := ofK_some ea
      obtain ⟨b1, b2, rfl⟩ := ofK_some eb
      unfold s8c1
      refine ifT_neg rfl (callG_of (belowD_ok a1 b1 (by omega) (by omega) ?_))
      rw [tBool_bool]
      exact retG_of hk

theorem opsL_ok (H : HeadsOK) (a b : Int) (hk : ∀ h', K (.bool true) h') : ACalls prog 3 [.int .i64 a, .int .i64 b] h K := by
  refine s3_ok ?_
  unfold s3
  refine callG_of (belowP_ok _ _ fun k1 _ => ?_)
  rw [tTup_tuple, tCons_cons, tBool_bool, tCons_cons, tInt_int, tNil_nil]
  refine callG_of (BelowDP_ok _ _ ?_)
  rw [tTup_tuple, tCons_cons, tBool_bool, tCons_cons, tInt_int, tNil_nil]
  refine callG_of (meetP_ok _ _ fun kMeet _ => ?_)
  rw [tTup_tuple, tCons_cons, tInt_int, tCons_cons, tInt_int, tNil_nil]
  refine callG_of (MeetDP_ok _ _ fun kMeet2 _ => ?_)
  rw [tTup_tuple, tCons_cons, tInt_int, tCons_cons, tInt_int, tNil_nil]
  refine callG_of (joinP_ok _ _ fun kJoin _ => ?_)
  rw [tTup_tuple, tCons_cons, tInt_int, tCons_cons, tInt_int, tNil_nil]
  refine callG_of (JoinDP_ok _ _ fun kJoin2 _ => ?_)
  rw [tTup_tuple, tCons_cons, tInt_int, tCons_cons, tInt_int, tNil_nil]
  refine callG_of (impP_ok _ _ fun kImp _ => ?_)
  rw [tTup_tuple, tCons_cons, tInt_int, tCons_cons, tInt_int, tNil_nil]
  refine callG_of (ImpDP_ok _ _ fun kImp2 _ => ?_)
  rw [tTup_tuple, tCons_cons, tInt_int, tCons_cons, tInt_int, tNil_nil]
  refine eqQ_bool (ifT_pos (by simp) (callG_of (num26_ok ?_)))
  rw [tInt_int]
  refine ifT_pos (by simp) (ifT_pos (by simp) (callG_of (num26_ok ?_)))
  rw [tInt_int]
  refine ifT_pos (by simp) (ifT_pos (by simp) (callG_of (num26_ok ?_)))
  rw [tInt_int]
  refine ifT_pos (by simp) (ifT_pos (by simp) (callG_of (num26_ok ?_)))
  rw [tInt_int]
  exact ifT_pos (by simp) (headsRet H hk)
end Go.Proofs.Ytobpfhmjdoekfaa

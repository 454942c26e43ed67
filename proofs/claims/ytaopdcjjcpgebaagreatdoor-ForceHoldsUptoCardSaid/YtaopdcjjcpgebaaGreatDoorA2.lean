/- Contracts: a table of formulas is owned: a row is put in (the program's and the document's). No condition. Contracts: tables out of rows: From, Both. No condition. Contracts: the program's Node, Below. No condition. What an eye knows: a memo of truths; where a formula is forced; a look for one with a memory. No condition. Contracts: an eye's forces. No condition. Contracts: an eye's forces, whole. No condition. Contracts: maps whose keys are nodes; the program's Copy. No condition. Contracts: who is above whom, by the program (worlds). No condition. Contracts: which models are well-formed, by the program (worlds). No condition. Contracts: a look at a model (the program). No condition. Contracts: the worlds that force a formula (the program). No condition. Contracts: tables of formulas that are read (the program's and the document's). No condition. Contracts: the set of some numbers; a right sequent; what a world forces (At, All, Valid, Holds of the program). No condition. From a reading to a sequent. No condition. Contracts: does a sequent hold in a model (the program)? No condition. Plain: the order of texts; names that rise are all different; rising numbers are few. No condition. -/
import Derived.Test.YtaopdcjjcpgebaaGreatDoorA1
import Derived.Test.YtaopdcjjcpgebaaGreatDoorM6
import Derived.Sort.Walk0

set_option linter.unusedVariables false
set_option linter.unusedSimpArgs false

namespace Go.Proofs.YtaopdcjjcpgebaaGreatDoor
open Go Go.Sym Go.Proofs.Tryz
variable {K : AVal → Heap → Prop} {h h0 hb : Heap}
def ents : Nat → List Nd → List (AVal × AVal)
  | _, [] => []
  | s, x :: xs => (nodeV x, .int .i64 (s : Int)) :: ents (s + 1) xs
theorem ents_snoc (y : Nd) : ∀ (xs : List Nd) (s : Nat), ents s (xs ++ [y]) = ents s xs ++ [(nodeV y, .int .i64 ((s + xs.length : Nat) : Int))]
  | [], s => rfl
  | x :: xs, s => by
    simp only [List.cons_append, ents, ents_snoc y xs (s + 1), List.length_cons]
    rw [show s + 1 + xs.length = s + (xs.length + 1) by omega]
theorem keyEq_node (y x : Nd) : keyEq (nodeV y) (nodeV x) = some (ndB y x) := rfl
theorem findM_ents (y : Nd) : ∀ (xs : List Nd) (s p : Nat), findM (nodeV y) (ents s xs) p = some ((ndIx y xs).map fun i => (p + i, .int .i64 ((s + i : Nat) : Int)))
  | [], s, p => rfl
  | x :: xs, s, p => by
    unfold ents findM
    rw [keyEq_node, ndB_comm]
    unfold ndIx
    rw [List.findIdx?_cons]
    cases e : ndB x y with
    | true => simp
    | false =>
      simp only [Bool.false_eq_true, if_false]
      rw [findM_ents y xs (s + 1) (p + 1)]
      unfold ndIx
      cases List.findIdx? (fun x => ndB x y) xs with
      | none => rfl
      | some i =>
        simp only [Option.map_some]
        rw [show p + 1 + i = p + (i + 1) by omega, show s + 1 + i = s + (i + 1) by omega]
theorem putM_ents {y : Nd} {xs : List Nd} (hy : ndIx y xs = none) : putM (nodeV y) (.int .i64 (xs.length : Int)) (ents 0 xs) = some (ents 0 (xs ++ [y])) := by
  unfold putM
  rw [findM_ents, hy, ents_snoc]
  simp
def PP (hb : Heap) (rt : Nat) (xs : List Nd) (R : List Ow) (h : Heap) : Prop := ∃ vN q, Own hb ([.slc 4 vN (xs.map nodeV), .cell rt (.row 2 [.agg [vN, .mapr q]]), .cell q (.map (ents 0 xs))] ++ R) h
def DD (hb : Heap) (rd : Nat) (ys : List Nd) (R : List Ow) (h : Heap) : Prop := ∃ vM, Own hb ([.slc 4 vM (ys.map nodeV), .cell rd (.row 1 [.agg [vM]])] ++ R) h
theorem rd_own {os : List Ow} {i : Nat} {v : AVal} {xs : List Nd} (W : Own hb os h) (hi : os[i]? = some (.slc 4 v (xs.map nodeV))) : RdN h v xs := by
  rcases W.fit i _ hi with ⟨rfl, e⟩ | ⟨r, rfl⟩
  · exact .inl ⟨rfl, List.map_eq_nil_iff.1 e⟩
  · refine .inr (.inl ⟨r, xs.map nodeV, by rw [List.length_map], W.get i _ r hi rfl, fun j x hj => ?_⟩)
    rw [List.getElem?_map, hj]
    rfl
theorem PP.prd {rt : Nat} {xs : List Nd} {R : List Ow} (W : PP hb rt xs R h) : PRd h (.ptr rt 0 0) xs := by
  obtain ⟨vN, q, W⟩ := W
  exact ⟨rt, vN, q, _, rfl, W.get 1 _ rt rfl rfl, W.get 2 _ q rfl rfl, rd_own W (i := 0) rfl⟩
theorem DD.drd {rd : Nat} {ys : List Nd} {R : List Ow} (W : DD hb rd ys R h) : DRd h (.ptr rd 0 0) ys := by
  obtain ⟨vM, W⟩ := W
  exact ⟨rd, vM, rfl, W.get 1 _ rd rfl rfl, rd_own W (i := 0) rfl⟩
theorem Own.rot {A B R : List Ow} (W : Own hb (A ++ (B ++ R)) h) : Own hb (B ++ (A ++ R)) h := by
  refine W.renum _ (fun j => if j < B.length then A.length + j else if j < A.length + B.length then j - B.length else j) (fun j y hj => ?_) (fun j hj k hk e => ?_)
  · by_cases h1 : j < B.length
    · rw [if_pos h1]
      rw [List.getElem?_append_left h1] at hj
      rw [List.getElem?_append_right (by omega), Nat.add_sub_cancel_left, List.getElem?_append_left h1]
      exact hj
    · rw [if_neg h1]
      rw [List.getElem?_append_right (by omega)] at hj
      by_cases h2 : j < A.length + B.length
      · rw [if_pos h2]
        rw [List.getElem?_append_left (by omega)] at hj
        rw [List.getElem?_append_left (by omega)]
        exact hj
      · rw [if_neg h2]
        rw [List.getElem?_append_right (by omega)] at hj
        rw [List.getElem?_append_right (by omega), List.getElem?_append_right (by omega)]
        rw [show j - A.length - B.length = j - B.length - A.length by omega]
        exact hj
  · split at e <;> split at e <;> (try split at e) <;> (try split at e) <;> omega
def fitE (n : Nat) (y : Nd) : Int :=
  if y.k = 1 then (if y.l = 0 ∧ y.r = 0 then (if wordB y.s = true then 0 else 32) else 31)
  else if y.k = 2 then (if ndB y ⟨2, ByteArray.mk #[], 0, 0⟩ = true then 0 else 31)
  else if y.k = 3 ∨ y.k = 4 ∨ y.k = 5 then (if strEq y.s (ByteArray.mk #[]) = true ∧ hasN n y.l = true ∧ hasN n y.r = true then 0 else 31)
  else 31
def putE (xs : List Nd) (y : Nd) : Int := if fitE xs.length y ≠ 0 then fitE xs.length y else match ndIx y xs with
  | some _ => 0
  | none => if 1024 ≤ xs.length then 30 else 0
def putI (xs : List Nd) (y : Nd) : Int := if fitE xs.length y ≠ 0 then 0 else match ndIx y xs with
  | some i => (i : Int)
  | none => if 1024 ≤ xs.length then 0 else (xs.length : Int)
def putR (xs : List Nd) (y : Nd) : List Nd := if fitE xs.length y ≠ 0 then xs else match ndIx y xs with
  | some _ => xs
  | none => if 1024 ≤ xs.length then xs else xs ++ [y]
theorem DD.app {rd : Nat} {ys : List Nd} {R : List Ow} {vM : AVal} (W : Own hb ([.slc 4 vM (ys.map nodeV), .cell rd (.row 1 [.agg [vM]])] ++ R) h) (hl : ys.length < 1048576) {y : Nd} {K : AVal → Heap → Prop}
    (hk : ∀ v' h', Own hb ([.slc 4 v' ((ys ++ [y]).map nodeV), .cell rd (.row 1 [.agg [vM]])] ++ R) h' → K v' h') : appC 4 40 h vM (.lsl 4 [nodeV y]) K := by
  refine W.app (i := 0) rfl (by simp; omega) (by simp; omega) fun v' h' W2 => hk v' h' ?_
  rw [List.map_append]
  exact W2
theorem putT_c1 {rd : Nat} {ys : List Nd} {R : List Ow} (W : DD hb rd ys R h) (hx : ys.length ≤ 1024) {y : Nd} (hf : fitE ys.length y = 0)
    (hk : ∀ h', DD hb rd (putR ys y) R h' → K (.tuple [.int .i64 (putI ys y), .int .i64 (putE ys y)]) h') : s117c1 K (.ptr rd 0 0) (.lptr (nodeC y)) h := by
  have hp : ¬ fitE ys.length y ≠ 0 := fun h => h hf
  unfold putR putI putE at hk
  rw [if_neg hp, if_neg hp, if_neg hp] at hk
  unfold s117c1
  rw [ldN_node, nodeC, tCons_cons, tInt_int, tCons_cons, tStr_str, tCons_cons, tInt_int, tCons_cons, tInt_int, tNil_nil]
  refine callG_of (findT_ok W.drd (by omega) y (fun i hi => ?_) (fun hi => ?_))
  · rw [hi] at hk
    rw [tTup_tuple, tCons_cons, tInt_int, tCons_cons, tBool_bool, tNil_nil]
    exact ifT_pos rfl (retG_of (hk h W))
  · rw [hi] at hk
    simp only at hk
    rw [tTup_tuple, tCons_cons, tInt_int, tCons_cons, tBool_bool, tNil_nil]
    refine ifT_neg rfl ?_
    obtain ⟨vM, O⟩ := W
    have rc := O.get 1 _ rd rfl rfl
    rw [nilCheck_ptr, addOff_ptr, ld1_fld rc rfl, O.len (i := 0) rfl, List.length_map]
    by_cases hl : ys.length < 1024
    · rw [if_neg (by omega), if_neg (by omega), if_neg (by omega)] at hk
      refine ifT_neg (decide_eq_false (by omega)) ?_
      rw [nilCheck_ptr, addOff_ptr, ld1_fld rc rfl]
      have e0 := ldN_node h y
      rw [nodeC] at e0
      rw [e0, tCons_cons, tInt_int, tCons_cons, tStr_str, tCons_cons, tInt_int, tCons_cons, tInt_int, tNil_nil]
      refine ⟨by rw [ld1_fld rc rfl], DD.app (y := y) O (by omega) fun v' h' W2 => ?_⟩
      rw [nilCheck_ptr, addOff_ptr]
      refine chk_iff.2 ⟨(W2.sc (i := 0) rfl).1, st_fld (W2.get 1 _ rd rfl rfl) (by simp) ?_⟩
      have W3 := W2.put (i := 1) rfl (.row 1 [.agg [v']])
      rw [nilCheck_ptr, addOff_ptr]
      have r3 := W3.get 1 _ rd rfl rfl
      refine Eq.mpr (ld1_fld r3 rfl _) ?_
      rw [W3.len (i := 0) rfl]
      simp only [List.length_map, List.length_append, List.length_singleton]
      refine rg_of (by omega) (by omega) (retG_of ?_)
      rw [show ((ys.length + 1 : Nat) : Int) - 1 = (ys.length : Int) by omega]
      exact hk _ ⟨v', W3⟩
    · rw [if_pos (by omega), if_pos (by omega), if_pos (by omega)] at hk
      exact ifT_pos (decide_eq_true (by omega)) (retG_of (hk h ⟨vM, O⟩))
theorem hasN_iff {n : Nat} {i : Int} : hasN n i = true ↔ 0 ≤ i ∧ i < n := by unfold hasN; simp
theorem putT_ok {rd : Nat} {ys : List Nd} {R : List Ow} (W : DD hb rd ys R h) (hx : ys.length ≤ 1024) (y : Nd)
    (hk : ∀ h', DD hb rd (putR ys y) R h' → K (.tuple [.int .i64 (putI ys y), .int .i64 (putE ys y)]) h') : ACalls prog 117 [.ptr rd 0 0, nodeV y] h K := by
  have bad : ∀ e : Int, e ≠ 0 → fitE ys.length y = e → retG (.tuple [.int .i64 0, .int .i64 e]) h K := fun e he hf => by
    have hp : fitE ys.length y ≠ 0 := by rw [hf]; exact he
    unfold putR putI putE at hk
    rw [if_pos hp, if_pos hp, if_pos hp, hf] at hk
    exact retG_of (hk h W)
  have good : fitE ys.length y = 0 → s117c1 K (.ptr rd 0 0) (.lptr (nodeC y)) h := fun hf => putT_c1 W hx hf hk
  clear hk
  obtain ⟨k, s, l, r⟩ := y
  refine s117_ok ?_
  unfold s117
  unfold fitE at bad good
  by_cases k1 : k = 1
  · subst k1
    simp only [if_true] at bad good
    have c2 : ∀ t : Bool, (t = true ↔ ¬ (l = 0 ∧ r = 0)) → s117c2 K (.ptr rd 0 0) (.lptr (nodeC ⟨1, s, l, r⟩)) t h := by
      intro t ht
      cases t with
      | true => exact ifT_pos rfl (bad 31 (by decide) (by rw [if_neg (ht.1 rfl)]))
      | false =>
        have hlr : l = 0 ∧ r = 0 := Decidable.not_not.1 fun h => by have := ht.2 h; cases this
        rw [if_pos hlr] at bad good
        refine ifT_neg rfl ?_
        simp only [nodeC, addOff_lptr, List.drop_succ_cons, List.drop_zero, ld1_lptr, tStr_str]
        refine callG_of (word3_ok _ ?_)
        rw [tBool_bool]
        cases hw : wordB s with
        | false => exact ifT_pos rfl (bad 32 (by decide) (by rw [hw, if_neg (by decide)]))
        | true => exact ifT_neg rfl (good (by rw [hw, if_pos rfl]))
    refine ifT_pos rfl ?_
    by_cases hl : l = 0
    · exact ifT_neg (by simp [hl]) (c2 _ (by simp [hl]))
    · exact ifT_pos (by simpa using hl) (c2 _ (by simp [hl]))
  · refine ifT_neg (by simpa using k1) ?_
    simp only [k1, if_false] at bad good
    by_cases k2 : k = 2
    · subst k2
      simp only [if_true] at bad good
      have c3 : ∀ t : Bool, (t = true ↔ ¬ (ndB ⟨2, s, l, r⟩ ⟨2, ByteArray.mk #[], 0, 0⟩ = true)) → s117c3 K (.ptr rd 0 0) (.lptr (nodeC ⟨2, s, l, r⟩)) t h := by
        intro t ht
        cases t with
        | true => exact ifT_pos rfl (bad 31 (by decide) (by rw [if_neg (ht.1 rfl)]))
        | false =>
          have hlr := Decidable.not_not.1 fun h => by have := ht.2 h; cases this
          exact ifT_neg rfl (good (by rw [if_pos hlr]))
      refine ifT_pos rfl ?_
      unfold ndB at c3
      cases hs : strEq s (ByteArray.mk #[]) with
      | false => exact ifT_pos rfl (c3 _ (by simp [hs]))
      | true =>
        refine ifT_neg rfl ?_
        by_cases hl : l = 0
        · exact ifT_neg (by simp [hl]) (c3 _ (by simp [hs, hl]))
        · exact ifT_pos (by simpa using hl) (c3 _ (by simp [hl]))
    · refine ifT_neg (by simpa using k2) ?_
      simp only [k2, if_false] at bad good
      have c5 : (k = 3 ∨ k = 4 ∨ k = 5) → ∀ t : Bool, (t = true ↔ ¬ (strEq s (ByteArray.mk #[]) = true ∧ hasN ys.length l = true ∧ hasN ys.length r = true)) → s117c5 K (.ptr rd 0 0) (.lptr (nodeC ⟨k, s, l, r⟩)) t h := by
        intro hk3 t ht
        rw [if_pos hk3] at bad good
        cases t with
        | true => exact ifT_pos rfl (bad 31 (by decide) (by rw [if_neg (ht.1 rfl)]))
        | false =>
          have hlr := Decidable.not_not.1 fun h => by have := ht.2 h; cases this
          exact ifT_neg rfl (good (by rw [if_pos hlr]))
      have c4 : (k = 3 ∨ k = 4 ∨ k = 5) → s117c4 K (.ptr rd 0 0) (.lptr (nodeC ⟨k, s, l, r⟩)) true h := by
        intro hk3
        have c5 := c5 hk3
        refine ifT_pos rfl ?_
        simp only [nodeC, addOff_lptr, List.drop_succ_cons, List.drop_zero, ld1_lptr, tStr_str, tInt_int]
        cases hs : strEq s (ByteArray.mk #[]) with
        | false => exact ifT_pos rfl (c5 true (by simp [hs]))
        | true =>
          refine ifT_neg rfl (callG_of (hasT_ok W.drd l ?_))
          rw [tBool_bool]
          cases hl : hasN ys.length l with
          | false => exact ifT_pos rfl (c5 true (by simp [hl]))
          | true =>
            refine ifT_neg rfl (callG_of (hasT_ok W.drd r ?_))
            rw [tBool_bool]
            exact c5 _ (by simp [hs, hl])
      by_cases k3 : k = 3
      · refine ifT_pos (by simpa using k3) ?_
        rw [show (k == 3) = true by simpa using k3]
        exact c4 (.inl k3)
      · refine ifT_neg (by simpa using k3) ?_
        by_cases k4 : k = 4
        · refine ifT_pos (by simpa using k4) ?_
          rw [show (k == 4) = true by simpa using k4]
          exact c4 (.inr (.inl k4))
        · refine ifT_neg (by simpa using k4) ?_
          by_cases k5 : k = 5
          · rw [show (k == 5) = true by simpa using k5]
            exact c4 (.inr (.inr k5))
          · rw [show (k == 5) = false by simpa using k5]
            exact ifT_neg rfl (bad 31 (by decide) (by rw [if_neg (by omega)]))
theorem fitsP_ok {t : AVal} {xs : List Nd} (P : PRd h t xs) (y : Nd) (hs : y.s.size ≤ 1073741824) (hk : K (.int .i64 (fitE xs.length y)) h) : ACalls prog 99 [t, nodeV y] h K := by
  obtain ⟨k, s, l, r⟩ := y
  refine s99_ok ?_
  unfold s99
  unfold fitE at hk
  have c1 : K (.int .i64 0) h → s99c1 K h := fun hk => retG_of hk
  by_cases k1 : k = 1
  · subst k1
    simp only [if_true] at hk
    have c2 : ∀ t : Bool, (t = true ↔ ¬ (l = 0 ∧ r = 0)) → s99c2 K (.lptr (nodeC ⟨1, s, l, r⟩)) t h := by
      intro t ht
      cases t with
      | true => exact ifT_pos rfl (retG_of (by rwa [if_neg (ht.1 rfl)] at hk))
      | false =>
        have hlr : l = 0 ∧ r = 0 := Decidable.not_not.1 fun h => by have := ht.2 h; cases this
        rw [if_pos hlr] at hk
        refine ifT_neg rfl ?_
        simp only [nodeC, addOff_lptr, List.drop_succ_cons, List.drop_zero, ld1_lptr, tStr_str]
        refine callG_of (word_ok _ hs ?_)
        rw [tBool_bool]
        cases hw : wordB s with
        | false => exact ifT_pos rfl (retG_of (by rwa [hw, if_neg (by decide)] at hk))
        | true => exact ifT_neg rfl (c1 (by rwa [hw, if_pos rfl] at hk))
    refine ifT_pos rfl ?_
    by_cases hl : l = 0
    · exact ifT_neg (by simp [hl]) (c2 _ (by simp [hl]))
    · exact ifT_pos (by simpa using hl) (c2 _ (by simp [hl]))
  · refine ifT_neg (by simpa using k1) ?_
    simp only [k1, if_false] at hk
    by_cases k2 : k = 2
    · subst k2
      simp only [if_true] at hk
      refine ifT_pos rfl (eqNodeX (x := ⟨2, s, l, r⟩) (y := ⟨2, ByteArray.mk #[], 0, 0⟩) ?_)
      cases e : ndB ⟨2, s, l, r⟩ ⟨2, ByteArray.mk #[], 0, 0⟩ with
      | true => exact ifT_neg rfl (c1 (by rwa [e, if_pos rfl] at hk))
      | false => exact ifT_pos rfl (retG_of (by rwa [e, if_neg (by decide)] at hk))
    · refine ifT_neg (by simpa using k2) ?_
      simp only [k2, if_false] at hk
      have c4 : (k = 3 ∨ k = 4 ∨ k = 5) → ∀ b : Bool, (b = true ↔ ¬ (strEq s (ByteArray.mk #[]) = true ∧ hasN xs.length l = true ∧ hasN xs.length r = true)) → s99c4 K b h := by
        intro hk3 b hb
        rw [if_pos hk3] at hk
        cases b with
        | true => exact ifT_pos rfl (retG_of (by rwa [if_neg (hb.1 rfl)] at hk))
        | false =>
          have hlr := Decidable.not_not.1 fun h => by have := hb.2 h; cases this
          exact ifT_neg rfl (c1 (by rwa [if_pos hlr] at hk))
      have c3 : (k = 3 ∨ k = 4 ∨ k = 5) → s99c3 K t (.lptr (nodeC ⟨k, s, l, r⟩)) true h := by
        intro hk3
        have c4 := c4 hk3
        refine ifT_pos rfl ?_
        simp only [nodeC, addOff_lptr, List.drop_succ_cons, List.drop_zero, ld1_lptr, tStr_str, tInt_int]
        cases hs : strEq s (ByteArray.mk #[]) with
        | false => exact ifT_pos rfl (c4 true (by simp [hs]))
        | true =>
          refine ifT_neg rfl (callG_of (hasP_ok P l ?_))
          rw [tBool_bool]
          cases hl : hasN xs.length l with
          | false => exact ifT_pos rfl (c4 true (by simp [hl]))
          | true =>
            refine ifT_neg rfl (callG_of (hasP_ok P r ?_))
            rw [tBool_bool]
            exact c4 _ (by simp [hs, hl])
      by_cases k3 : k = 3
      · refine ifT_pos (by simpa using k3) ?_
        rw [show (k == 3) = true by simpa using k3]
        exact c3 (.inl k3)
      · refine ifT_neg (by simpa using k3) ?_
        by_cases k4 : k = 4
        · refine ifT_pos (by simpa using k4) ?_
          rw [show (k == 4) = true by simpa using k4]
          exact c3 (.inr (.inl k4))
        · refine ifT_neg (by simpa using k4) ?_
          by_cases k5 : k = 5
          · rw [show (k == 5) = true by simpa using k5]
            exact c3 (.inr (.inr k5))
          · rw [show (k == 5) = false by simpa using k5]
            exact ifT_neg rfl (retG_of (by rwa [if_neg (by omega)] at hk))
theorem mapGet_ents {h : Heap} {q : Nat} {xs : List Nd} (hq : h q = some (.map (ents 0 xs))) (y : Nd) (K : AVal → Bool → Prop) :
    mapGet (.int .i64 0) h (.mapr q) (nodeV y) K = match ndIx y xs with
      | some i => K (.int .i64 (i : Int)) true
      | none => K (.int .i64 0) false := by
  unfold mapGet mapGetR entsA
  simp only [hq, findM_ents]
  cases ndIx y xs with
  | none => rfl
  | some i => simp
theorem mapPut_map {h : Heap} {q : Nat} {l l' : List (AVal × AVal)} {k v : AVal} (hq : h q = some (.map l)) (hl : putM k v l = some l') (K : Heap → Prop) : mapPut h (.mapr q) k v K = K (h.set q (.map l')) := by
  unfold mapPut mapPutR
  simp only [hq, hl]
theorem putP_ok {rt : Nat} {xs : List Nd} {R : List Ow} (W : PP hb rt xs R h) (hx : xs.length ≤ 1024) (y : Nd) (hs : y.s.size ≤ 1073741824)
    (hk : ∀ h', PP hb rt (putR xs y) R h' → K (.tuple [.int .i64 (putI xs y), .int .i64 (putE xs y)]) h') : ACalls prog 64 [.ptr rt 0 0, nodeV y] h K := by
  obtain ⟨k, s, l, r⟩ := y
  refine s64_ok ?_
  unfold s64
  refine callG_of (aliveP_ok W.prd ?_)
  rw [tBool_bool]
  refine ifT_neg rfl (callG_of (fitsP_ok W.prd ⟨k, s, l, r⟩ hs ?_))
  rw [tInt_int]
  unfold putR putI putE at hk
  by_cases hf : fitE xs.length ⟨k, s, l, r⟩ = 0
  · have hp : ¬ fitE xs.length ⟨k, s, l, r⟩ ≠ 0 := fun h => h hf
    rw [if_neg hp, if_neg hp, if_neg hp] at hk
    refine ifT_neg (by simpa using hf) ?_
    obtain ⟨vN, q, O⟩ := W
    have rc := O.get 1 _ rt rfl rfl
    have rq := O.get 2 _ q rfl rfl
    rw [nilCheck_ptr, addOff_ptr, ld1_fld rc rfl]
    refine Eq.mpr (mapGet_ents rq ⟨k, s, l, r⟩ _) ?_
    cases hi : ndIx ⟨k, s, l, r⟩ xs with
    | some i =>
      rw [hi] at hk
      simp only
      rw [tInt_int]
      exact ifT_pos rfl (retG_of (hk h ⟨vN, q, O⟩))
    | none =>
      rw [hi] at hk
      simp only at hk ⊢
      rw [tInt_int]
      refine ifT_neg rfl ?_
      rw [nilCheck_ptr, addOff_ptr, ld1_fld rc rfl, O.len (i := 0) rfl, List.length_map]
      by_cases hl : xs.length < 1024
      · rw [if_neg (by omega), if_neg (by omega), if_neg (by omega)] at hk
        refine ifT_neg (decide_eq_false (by omega)) ?_
        rw [nilCheck_ptr, addOff_ptr, ld1_fld rc rfl]
        refine ⟨by rw [ld1_fld rc rfl], O.app (i := 0) rfl (by simp; omega) (by simp; omega) fun v' h' W2 => ?_⟩
        rw [nilCheck_ptr, addOff_ptr]
        refine chk_iff.2 ⟨(W2.sc (i := 0) rfl).1, st_fld (W2.get 1 _ rt rfl rfl) (by simp) ?_⟩
        have W3 := W2.put (i := 1) rfl (.row 2 [.agg [v', .mapr q]])
        have r3 := W3.get 1 _ rt rfl rfl
        rw [nilCheck_ptr, addOff_ptr]
        refine Eq.mpr (ld1_fld r3 rfl _) ?_
        have q3 := W3.get 2 _ q rfl rfl
        have hput := putM_ents hi
        refine Eq.mpr (mapPut_map q3 hput _) ?_
        refine retG_of (hk _ ⟨v', q, ?_⟩)
        have W4 := W3.put (i := 2) rfl (.map (ents 0 (xs ++ [⟨k, s, l, r⟩])))
        rw [List.map_append]
        exact W4
      · rw [if_pos (by omega), if_pos (by omega), if_pos (by omega)] at hk
        exact ifT_pos (decide_eq_true (by omega)) (retG_of (hk h ⟨vN, q, O⟩))
  · rw [if_pos hf, if_pos hf, if_pos hf] at hk
    exact ifT_pos (by simpa using hf) (retG_of (hk h W))
end Go.Proofs.YtaopdcjjcpgebaaGreatDoor

namespace Go.Proofs.YtaopdcjjcpgebaaGreatDoor
open Go Go.Sym Go.Proofs.Tryz
variable {K : AVal → Heap → Prop} {h h0 hb : Heap}
def okTab (xs : List Nd) : Prop := ∀ (i : Nat) (x : Nd), xs[i]? = some x → putE (xs.take i) x = 0 ∧ putI (xs.take i) x = (i : Int)
theorem put_next {xs : List Nd} {y : Nd} (he : putE xs y = 0) (hi : putI xs y = (xs.length : Int)) : putR xs y = xs ++ [y] ∧ xs.length < 1024 := by
  unfold putE at he
  unfold putI at hi
  unfold putR
  by_cases hf : fitE xs.length y ≠ 0
  · rw [if_pos hf] at he
    exact absurd he hf
  · rw [if_neg hf] at he hi ⊢
    cases h : ndIx y xs with
    | some i =>
      rw [h] at hi
      simp only at hi
      have := (List.getElem?_eq_some_iff.1 (ndIx_some h)).1
      omega
    | none =>
      rw [h] at he hi
      simp only at he hi ⊢
      by_cases hl : 1024 ≤ xs.length
      · rw [if_pos hl] at he
        cases he
      · rw [if_neg hl]
        exact ⟨rfl, by omega⟩
theorem fromT_l1 {rd : Nat} {v : AVal} {xs : List Nd} (hv : Nodes v xs) (hxs : xs.length ≤ 1048576) (bad : ¬ okTab xs → ∀ e : Int, e ≠ 0 → K (.tuple [.nilptr, .int .i64 e]) h0) (good : okTab xs → xs.length ≤ 1024 → ∀ h', DD h0 rd xs [] h' → K (.tuple [.ptr rd 0 0, .int .i64 0]) h') :
    ∀ d i : Nat, i + d = xs.length → i ≤ 1024 → (∀ (j : Nat) (x : Nd), j < i → xs[j]? = some x → putE (xs.take j) x = 0 ∧ putI (xs.take j) x = (j : Int)) → ∀ h, DD h0 rd (xs.take i) [] h → s80l1 K (d + 1) v (.ptr rd 0 0) (i : Int) h
  | 0, i, hd, hi, hok, h, W => by
    unfold s80l1
    rw [hv.len]
    refine ifT_neg (by simp; omega) (retG_of ?_)
    rw [List.take_of_length_le (by omega)] at W
    refine good (fun j x hj => hok j x ?_ hj) (by omega) h W
    have := (List.getElem?_eq_some_iff.1 hj).1
    omega
  | d + 1, i, hd, hi, hok, h, W => by
    have hil : i < xs.length := by omega
    have htl : (xs.take i).length = i := by rw [List.length_take]; omega
    unfold s80l1
    rw [hv.len]
    refine ifT_pos (by simp; omega) ?_
    rw [hv.ix hil, ldN_node, nodeC, tCons_cons, tInt_int, tCons_cons, tStr_str, tCons_cons, tInt_int, tCons_cons, tInt_int, tNil_nil]
    have drop : ∀ h', DD h0 rd (putR (xs.take i) xs[i]) [] h' → ∀ q o, h0 q = some o → h' q = some o := fun h' ⟨_, O⟩ => O.old
    refine callG_of (putT_ok W (by omega) xs[i] fun h' W2 => ?_)
    rw [tTup_tuple, tCons_cons, tInt_int, tCons_cons, tInt_int, tNil_nil]
    by_cases he : putE (xs.take i) xs[i] = 0
    · refine ifT_neg (by simpa using he) ?_
      by_cases hI : putI (xs.take i) xs[i] = (i : Int)
      · refine ifT_neg (by simpa using hI) (rg_of (by omega) (by omega) (s80l1_go ?_))
        obtain ⟨e1, e2⟩ := put_next he (by rw [htl]; exact hI)
        rw [e1, ← List.take_succ_eq_append_getElem hil] at W2
        rw [htl] at e2
        refine fromT_l1 hv hxs bad good d (i + 1) (by omega) (by omega) (fun j x hj hx => ?_) h' W2
        rcases Nat.lt_or_ge j i with h1 | h1
        · exact hok j x h1 hx
        · obtain rfl : j = i := by omega
          rw [List.getElem?_eq_getElem hil] at hx
          cases hx
          exact ⟨he, hI⟩
      · refine ifT_pos (by simpa using hI) (retG_drop (drop h' W2) (bad (fun ok => hI (ok i _ (List.getElem?_eq_getElem hil)).2) 31 (by decide)))
    · exact ifT_pos (by simpa using he) (retG_drop (drop h' W2) (bad (fun ok => he (ok i _ (List.getElem?_eq_getElem hil)).1) _ he))
theorem fromT_ok {v : AVal} {xs : List Nd} (hv : Nodes v xs) (hxs : xs.length ≤ 1048576) (bad : ¬ okTab xs → ∀ e : Int, e ≠ 0 → K (.tuple [.nilptr, .int .i64 e]) h0) (good : okTab xs → xs.length ≤ 1024 → ∀ rd h', DD h0 rd xs [] h' → K (.tuple [.ptr rd 0 0, .int .i64 0]) h') :
    ACalls prog 80 [v] h0 K := by
  refine s80_ok (newRow_in fun rd hrd => s80l1_in (xs.length + 1) (fromT_l1 hv hxs bad (fun ok hl h' W => good ok hl rd h' W) xs.length 0 (by omega) (by omega) (fun j x hj => by omega) _ ⟨.nilsl, ?_⟩))
  exact ((Own.start h0).newN 4).newC hrd (.row 1 [.agg [.nilsl]])
theorem Own.swap13 {a b c : Ow} {R : List Ow} (W : Own hb ([a, b, c] ++ R) h) : Own hb ([c, b, a] ++ R) h := by
  refine W.renum _ (fun j => if j = 0 then 2 else if j = 2 then 0 else j) (fun j y hj => ?_) (fun j _ k _ e => ?_)
  · match j, hj with
    | 0, hj => exact hj
    | 1, hj => exact hj
    | 2, hj => exact hj
    | j + 3, hj => exact hj
  · split at e <;> split at e <;> (try split at e) <;> (try split at e) <;> omega
theorem newP_ok {R : List Ow} (W : Own hb R h) (hk : ∀ rt h', PP hb rt [] R h' → K (.ptr rt 0 0) h') : ACalls prog 44 [] h K := by
  refine s44_ok ?_
  unfold s44
  intro q hq _
  refine newRow_in fun rt hrt => retG_of (hk rt _ ⟨.nilsl, q, ?_⟩)
  have W1 := ((W.newC hq (.map [])).newC hrt (.row 2 [.agg [.nilsl, .mapr q]])).newN 4
  rw [List.append_assoc, List.append_assoc] at W1
  have W2 := Own.rot (A := R) (B := [.cell q (.map [])] ++ ([.cell rt (.row 2 [.agg [.nilsl, .mapr q]])] ++ [.slc 4 .nilsl []])) (R := []) (by rw [List.append_nil]; exact W1)
  rw [List.append_nil] at W2
  exact Own.swap13 W2
theorem Own.skip {os : List Ow} (W : Own hb os h) {r : Nat} (hr : h r = none) (o : AObj) : Own hb os (h.set r o) := (W.newC hr o).pop
theorem PP.skip {rt : Nat} {xs : List Nd} {R : List Ow} (W : PP hb rt xs R h) {r : Nat} (hr : h r = none) (o : AObj) : PP hb rt xs R (h.set r o) := by
  obtain ⟨vN, q, O⟩ := W
  exact ⟨vN, q, Own.skip O hr o⟩
theorem st4 {H : Heap} {r : Nat} {cs ds : List AVal} (hr : H r = some (.row 4 [.agg cs])) (hc : cs.length = 4) (hd : ds.length = 4) {X : Heap → Prop} (hx : X (H.set r (.row 4 [.agg ds]))) : st false H (.ptr r 0 0) ds X := st_all hr (by omega) hx
theorem fromP_l1 {rt : Nat} {R : List Ow} {v : AVal} {xs : List Nd} (hv : Nodes v xs) (ok : okTab xs) (hl : xs.length ≤ 1024) (hs : ∀ x ∈ xs, x.s.size ≤ 1073741824) (good : ∀ h', PP hb rt xs R h' → K (.tuple [.ptr rt 0 0, .int .i64 0]) h') :
    ∀ d i : Nat, i + d = xs.length → ∀ h, PP hb rt (xs.take i) R h → s54l1 K (d + 1) (.ptr rt 0 0) v (xs.length : Int) (i : Int) h
  | 0, i, hd, h, W => by
    unfold s54l1
    refine ifT_neg (by simp; omega) (retG_of ?_)
    rw [List.take_of_length_le (by omega)] at W
    exact good h W
  | d + 1, i, hd, h, W => by
    have hil : i < xs.length := by omega
    have htl : (xs.take i).length = i := by rw [List.length_take]; omega
    unfold s54l1
    refine ifT_pos (by simp; omega) ?_
    rw [hv.ix hil, ldN_node, nodeC, tCons_cons, tInt_int, tCons_cons, tStr_str, tCons_cons, tInt_int, tCons_cons, tInt_int, tNil_nil]
    refine newRow_in fun r hr => st4 (Heap.set_same _ _ _) rfl rfl ?_
    rw [Heap.set_set, ldN_elem (n := 4) (i := 0) (cs := nodeC xs[i]) (Heap.set_same _ _ _) rfl rfl]
    rw [nodeC, tCons_cons, tInt_int, tCons_cons, tStr_str, tCons_cons, tInt_int, tCons_cons, tInt_int, tNil_nil]
    refine callG_of (putP_ok (W.skip hr _) (by omega) xs[i] (hs _ (List.getElem_mem hil)) fun h' W2 => ?_)
    rw [tTup_tuple, tCons_cons, tInt_int, tCons_cons, tInt_int, tNil_nil]
    obtain ⟨he, hI⟩ := ok i _ (List.getElem?_eq_getElem hil)
    obtain ⟨e1, e2⟩ := put_next he (by rw [htl]; exact hI)
    rw [e1, ← List.take_succ_eq_append_getElem hil] at W2
    rw [he, hI]
    refine ifT_pos rfl ?_
    unfold s54c3
    refine ifT_neg (by simp) ?_
    unfold s54c2
    refine ifT_neg rfl (rg_of (by omega) (by omega) (s54l1_go ?_))
    exact fromP_l1 hv ok hl hs good d (i + 1) (by omega) h' W2
theorem fromP_ok {R : List Ow} (W : Own hb R h) {v : AVal} {xs : List Nd} (hv : Nodes v xs) (ok : okTab xs) (hl : xs.length ≤ 1024) (hs : ∀ x ∈ xs, x.s.size ≤ 1073741824) (good : ∀ rt h', PP hb rt xs R h' → K (.tuple [.ptr rt 0 0, .int .i64 0]) h') :
    ACalls prog 54 [v] h K := by
  refine s54_ok ?_
  unfold s54
  refine callG_of (newP_ok W fun rt h' W' => ?_)
  rw [hv.len]
  exact s54l1_in (xs.length + 1) (fromP_l1 hv ok hl hs (good rt) xs.length 0 (by omega) h' (by simpa using W'))
def TT (hb : Heap) (rt rd : Nat) (xs ys : List Nd) (R : List Ow) (h : Heap) : Prop := ∃ vM, PP hb rt xs ([.slc 4 vM (ys.map nodeV), .cell rd (.row 1 [.agg [vM]])] ++ R) h
theorem both_ok {v : AVal} {xs : List Nd} (hv : Nodes v xs) (hxs : xs.length ≤ 1048576) (hs : ∀ x ∈ xs, x.s.size ≤ 1073741824) (bad : ¬ okTab xs → K (.tuple [.nilptr, .nilptr, .bool false]) h0)
    (good : okTab xs → xs.length ≤ 1024 → ∀ rt rd h', TT h0 rt rd xs xs [] h' → K (.tuple [.ptr rt 0 0, .ptr rd 0 0, .bool true]) h') : ACalls prog 43 [v] h0 K := by
  refine s43_ok ?_
  unfold s43
  refine newRow_in fun r hr => appC_copy hr (elemsA_of hv) (by simp; omega) (by simp; omega) fun v' h' g => ?_
  obtain ⟨S, w, hl, hsl, gs⟩ := g.freeze
  refine ⟨S, w, h0, hl, gs, callG_of (fromT_ok hv hxs (fun nok e he => ?_) (fun ok hlen rd h2 W => ?_))⟩
  · rw [tTup_tuple, tCons_cons, tCons_cons, tInt_int, tNil_nil]
    exact ifT_pos (by simpa using he) (retG_of (bad nok))
  · rw [tTup_tuple, tCons_cons, tCons_cons, tInt_int, tNil_nil]
    obtain ⟨vM, O⟩ := W
    refine ifT_neg rfl (callG_of (fromP_ok O hsl ok hlen hs fun rt h3 W3 => ?_))
    rw [tTup_tuple, tCons_cons, tCons_cons, tInt_int, tNil_nil]
    exact retG_of (good ok hlen rt rd h3 ⟨vM, W3⟩)
theorem okTab_nil : okTab [] := fun i x hx => by simp at hx
theorem TT.reads {rt rd : Nat} {xs ys : List Nd} {R : List Ow} (W : TT hb rt rd xs ys R h) : PRd h (.ptr rt 0 0) xs ∧ DRd h (.ptr rd 0 0) ys := by
  obtain ⟨vM, W⟩ := W
  refine ⟨W.prd, ?_⟩
  obtain ⟨vN, q, O⟩ := W
  have O2 := Own.rot (A := [.slc 4 vN (xs.map nodeV), .cell rt (.row 2 [.agg [vN, .mapr q]]), .cell q (.map (ents 0 xs))]) (B := [.slc 4 vM (ys.map nodeV), .cell rd (.row 1 [.agg [vM]])]) O
  exact DD.drd ⟨vM, O2⟩
end Go.Proofs.YtaopdcjjcpgebaaGreatDoor

namespace Go.Proofs.YtaopdcjjcpgebaaGreatDoor
open Go Go.Sym Go.Proofs.Tryz
variable {K : AVal → Heap → Prop} {h h0 hb : Heap}
def ndZ : Nd := ⟨0, ByteArray.mk #[], 0, 0⟩
theorem Own.ext {h' : Heap} {os : List Ow} (W : Own hb os h) (x : Ext h h') : Own hb os h' :=
  ⟨W.fit, fun i y n e e1 => x _ _ (W.get i y n e e1), W.new, W.one, fun q o e => x _ _ (W.old q o e)⟩
theorem hasN_get {xs : List Nd} {i : Int} (h : hasN xs.length i = true) : ∃ (j : Nat) (x : Nd), i = (j : Int) ∧ xs[j]? = some x := by
  obtain ⟨h1, h2⟩ := hasN_iff.1 h
  obtain ⟨j, rfl⟩ := Int.eq_ofNat_of_zero_le h1
  have : j < xs.length := by omega
  exact ⟨j, xs[j], rfl, List.getElem?_eq_getElem this⟩
theorem nodeP_ok {t : AVal} {xs : List Nd} (P : PRd h t xs) (i : Int) (yes : ∀ (j : Nat) (x : Nd), i = (j : Int) → xs[j]? = some x → K (.tuple [nodeV x, .bool true]) h) (no : hasN xs.length i = false → K (.tuple [nodeV ndZ, .bool false]) h) :
    ACalls prog 86 [t, .int .i64 i] h K := by
  refine s86_ok ?_
  unfold s86
  refine newRow_in fun r hr => ?_
  have P2 := P.ext (h' := h.set r (.row 4 [nodeV ndZ])) (Heap.set_sub hr)
  refine callG_of (aliveP_ok P2 ?_)
  rw [tBool_bool]
  refine ifT_neg rfl (callG_of (hasP_ok P2 i ?_))
  rw [tBool_bool]
  unfold s86c1
  cases e : hasN xs.length i with
  | false =>
    refine ifT_pos rfl (st4 (Heap.set_same _ _ _) rfl rfl ?_)
    rw [Heap.set_set, ldN_elem (n := 4) (i := 0) (cs := nodeC ndZ) (Heap.set_same _ _ _) rfl rfl]
    rw [nodeC, tCons_cons, tInt_int, tCons_cons, tStr_str, tCons_cons, tInt_int, tCons_cons, tInt_int, tNil_nil]
    exact retG_drop (Heap.set_sub hr) (no e)
  | true =>
    obtain ⟨j, x, rfl, hx⟩ := hasN_get e
    refine ifT_neg rfl ?_
    obtain ⟨vN, R, hl⟩ := P2.ld
    rw [hl]
    refine R.ix hx ?_
    rw [nodeC, tCons_cons, tInt_int, tCons_cons, tStr_str, tCons_cons, tInt_int, tCons_cons, tInt_int, tNil_nil]
    refine st4 (Heap.set_same _ _ _) rfl rfl ?_
    rw [Heap.set_set, ldN_elem (n := 4) (i := 0) (cs := nodeC x) (Heap.set_same _ _ _) rfl rfl]
    rw [nodeC, tCons_cons, tInt_int, tCons_cons, tStr_str, tCons_cons, tInt_int, tCons_cons, tInt_int, tNil_nil]
    exact retG_drop (Heap.set_sub hr) (yes j x rfl hx)
def GoodT (xs : List Nd) : Prop := ∀ (i : Nat) (x : Nd), xs[i]? = some x → NdOK i x
theorem okTab_good {xs : List Nd} (ok : okTab xs) : GoodT xs := fun i x hx => by
  have he := (ok i x hx).1
  have hil := (List.getElem?_eq_some_iff.1 hx).1
  have htl : (xs.take i).length = i := by rw [List.length_take]; omega
  unfold putE at he
  rw [htl] at he
  by_cases hf : fitE i x ≠ 0
  · rw [if_pos hf] at he
    exact absurd he hf
  · have hf := Decidable.not_not.1 hf
    unfold fitE at hf
    by_cases k1 : x.k = 1
    · exact .inl k1
    · rw [if_neg k1] at hf
      by_cases k2 : x.k = 2
      · exact .inr (.inl k2)
      · rw [if_neg k2] at hf
        by_cases k3 : x.k = 3 ∨ x.k = 4 ∨ x.k = 5
        · rw [if_pos k3] at hf
          split at hf
          · rename_i hh
            exact .inr (.inr ⟨k3, hasN_iff.1 hh.2.1, hasN_iff.1 hh.2.2⟩)
          · cases hf
        · rw [if_neg k3] at hf
          cases hf
def Kid (xs : List Nd) (i j : Nat) : Prop := ∃ x, xs[i]? = some x ∧ 3 ≤ x.k ∧ (x.l = (j : Int) ∨ x.r = (j : Int))
inductive Sub (xs : List Nd) : Nat → Nat → Prop
  | refl (i : Nat) : Sub xs i i
  | step {i j k : Nat} (h : Kid xs i j) (s : Sub xs j k) : Sub xs i k
theorem Kid.lt {xs : List Nd} (G : GoodT xs) {i j : Nat} (h : Kid xs i j) : j < i := by
  obtain ⟨x, h1, h2, h3⟩ := h
  rcases G i x h1 with e | e | ⟨_, e1, e2⟩
  · omega
  · omega
  · omega
theorem Sub.le {xs : List Nd} (G : GoodT xs) {i j : Nat} (h : Sub xs i j) : j ≤ i := by
  induction h with
  | refl => omega
  | step h _ ih => have := h.lt G; omega
theorem Sub.trans {xs : List Nd} {i j k : Nat} (h : Sub xs i j) (s : Sub xs j k) : Sub xs i k := by
  induction h with
  | refl => exact s
  | step h _ ih => exact .step h (ih s)
noncomputable def subL (xs : List Nd) (i : Nat) : List Nat := (List.range (i + 1)).filter fun j => @decide (Sub xs i j) (Classical.propDecidable _)
theorem mem_subL {xs : List Nd} (G : GoodT xs) {i j : Nat} : j ∈ subL xs i ↔ Sub xs i j := by
  unfold subL
  rw [List.mem_filter, List.mem_range]
  exact ⟨fun h => @of_decide_eq_true _ (Classical.propDecidable _) h.2, fun h => ⟨by have := h.le G; omega, @decide_eq_true _ (Classical.propDecidable _) h⟩⟩
theorem natI_sorted {l : List Nat} (h : l.Pairwise (· ≤ ·)) : (natI l).Pairwise (· ≤ ·) := by
  unfold natI
  rw [List.pairwise_map]
  exact h.imp fun h => by omega
theorem subL_sorted (xs : List Nd) (i : Nat) : (subL xs i).Pairwise (· ≤ ·) :=
  (List.pairwise_lt_range.imp Nat.le_of_lt).sublist List.filter_sublist
theorem subL_nodup (xs : List Nd) (i : Nat) : (subL xs i).Nodup := List.nodup_range.sublist List.filter_sublist
/- ---- the walk down ---- -/
def marks (L : List Nat) : List (AVal × AVal) := L.map fun (j : Nat) => (.int .i64 (j : Int), .int .i64 1)
theorem findM_marks (i : Nat) : ∀ (L : List Nat) (p : Nat), findM (.int .i64 (i : Int)) (marks L) p = some (if i ∈ L then some (p + L.idxOf i, .int .i64 1) else none)
  | [], p => by simp [marks, findM]
  | j :: L, p => by
    show findM _ ((.int .i64 (j : Int), .int .i64 1) :: marks L) p = _
    unfold findM
    have e : keyEq (.int .i64 (i : Int)) (.int .i64 (j : Int)) = some ((i : Int) == (j : Int)) := rfl
    rw [e]
    by_cases hij : i = j
    · subst hij
      simp
    · rw [show ((i : Int) == (j : Int)) = false by simp; omega]
      simp only
      rw [findM_marks i L (p + 1)]
      by_cases hm : i ∈ L
      · rw [if_pos hm, if_pos (List.mem_cons_of_mem _ hm), List.idxOf_cons]
        rw [show (j == i) = false by simp; omega]
        simp only [cond_false]
        rw [show p + 1 + L.idxOf i = p + (L.idxOf i + 1) by omega]
      · rw [if_neg hm, if_neg (fun h => (List.mem_cons.1 h).elim hij hm)]
abbrev DS (hb : Heap) (r r1 r2 : Nat) (t : AVal) (L : List Nat) (R : List Ow) (h : Heap) : Prop :=
  Own hb ([.cell r (.map (marks L)), .cell r1 (.row 1 [.mapr r]), .cell r2 (.row 1 [.func (.func 124) [] [(.ptr r1 0 0), (.lptr [t]), (.ptr r2 0 0)]])] ++ R) h
theorem down_ok {t : AVal} {xs : List Nd} (P : PRd hb t xs) (G : GoodT xs) {r r1 r2 : Nat} : ∀ (i : Nat) (L : List Nat) (R : List Ow) (h : Heap) (K : AVal → Heap → Prop), i < xs.length → DS hb r r1 r2 t L R h →
    (∀ L' h', (∀ j ∈ L, j ∈ L') → (L.Nodup → L'.Nodup) → i ∈ L' → (∀ j ∈ L', j ∉ L → Sub xs i j ∧ ∀ c, Kid xs j c → c ∈ L') → DS hb r r1 r2 t L' R h' → K (.tuple []) h') →
    ACalls prog 124 [.int .i64 (i : Int), .ptr r1 0 0, .lptr [t], .ptr r2 0 0] h K := by
  intro i
  induction i using Nat.strongRecOn with
  | _ i ih =>
  intro L R h K hi O hk
  refine s124_ok ?_
  unfold s124
  rw [ld1_one (O.get 1 _ r1 rfl rfl) rfl]
  unfold mapGet mapGetR entsA
  simp only [O.get 0 _ r rfl rfl, Ow.obj, findM_marks]
  by_cases hm : i ∈ L
  · simp only [if_pos hm, tInt_int]
    exact ifT_pos rfl (retG_of (hk L h (fun _ h => h) (fun h => h) hm (fun j h1 h2 => absurd h1 h2) O))
  · simp only [if_neg hm, tInt_int]
    refine ifT_neg rfl ?_
    rw [ld1_one (O.get 1 _ r1 rfl rfl) rfl]
    have hput : putM (.int .i64 (i : Int)) (.int .i64 1) (marks L) = some (marks (L ++ [i])) := by
      unfold putM
      rw [findM_marks, if_neg hm]
      simp [marks]
    refine Eq.mpr (mapPut_map (O.get 0 _ r rfl rfl) hput _) ?_
    have O1 : DS hb r r1 r2 t (L ++ [i]) R _ := O.put (i := 0) rfl (.map (marks (L ++ [i])))
    rw [ld1_lptr]
    obtain ⟨vN, RN, hl⟩ := (P.ext O1.old).ld
    rw [hl]
    have hx := List.getElem?_eq_getElem hi
    refine RN.ix hx ?_
    rw [nodeC, tCons_cons, tInt_int, tCons_cons, tStr_str, tCons_cons, tInt_int, tCons_cons, tInt_int, tNil_nil]
    refine newRow_in fun rw hrw => st4 (Heap.set_same _ _ _) rfl rfl ?_
    rw [Heap.set_set, ld1_fld (o := 0) (Heap.set_same _ _ _) rfl, tInt_int]
    have O2 : DS hb r r1 r2 t (L ++ [i]) (R ++ [.cell rw (.row 4 [nodeV xs[i]])]) _ := O1.newC hrw (.row 4 [nodeV xs[i]])
    by_cases hk3 : 3 ≤ xs[i].k
    · refine ifT_pos (by simpa using hk3) ?_
      refine Eq.mpr (ld1_one (O2.get 2 _ r2 rfl rfl) rfl _) ?_
      rw [ld1_fld (o := 2) (Heap.set_same _ _ _) rfl, tInt_int]
      have hg := G i _ hx
      have hlr : (0 ≤ xs[i].l ∧ xs[i].l < i) ∧ 0 ≤ xs[i].r ∧ xs[i].r < i := by
        rcases hg with e | e | ⟨_, e⟩
        · omega
        · omega
        · exact e
      obtain ⟨a, ha⟩ := Int.eq_ofNat_of_zero_le hlr.1.1
      obtain ⟨b, hb'⟩ := Int.eq_ofNat_of_zero_le hlr.2.1
      show callG prog 124 ([] ++ [.int .i64 xs[i].l] ++ [(.ptr r1 0 0), (.lptr [t]), (.ptr r2 0 0)]) ((h.set r (.map (marks (L ++ [i])))).set rw (.row 4 [nodeV xs[i]])) _
      rw [show AVal.int .i64 xs[i].l = .int .i64 (a : Int) by rw [ha]]
      show callG prog 124 ([] ++ [.int .i64 (a : Int)] ++ [(.ptr r1 0 0), (.lptr [t]), (.ptr r2 0 0)]) _ _
      refine callG_of (ih a (by omega) (L ++ [i]) (R ++ [.cell rw (.row 4 [nodeV xs[i]])]) _ _ (by omega) O2 fun L2 h2 s1 n1 m1 c1 O3 => ?_)
      rw [ld1_one (O3.get 2 _ r2 rfl rfl) rfl]
      have hrw2 : h2 rw = some (.row 4 [nodeV xs[i]]) := O3.get (3 + R.length) (.cell rw (.row 4 [nodeV xs[i]])) rw (by rw [List.getElem?_append_right (by simp), List.getElem?_append_right (by simp)]; simp) rfl
      rw [ld1_fld (o := 3) (cs := nodeC xs[i]) hrw2 rfl, tInt_int, hb']
      show callG prog 124 ([] ++ [.int .i64 (b : Int)] ++ [(.ptr r1 0 0), (.lptr [t]), (.ptr r2 0 0)]) _ _
      refine callG_of (ih b (by omega) L2 (R ++ [.cell rw (.row 4 [nodeV xs[i]])]) _ _ (by omega) O3 fun L3 h3 s2 n2 m2 c2 O4 => retG_of ?_)
      have O5 : DS hb r r1 r2 t L3 R h3 := by
        have O4' : Own hb (([.cell r (.map (marks L3)), .cell r1 (.row 1 [.mapr r]), .cell r2 (.row 1 [.func (.func 124) [] [(.ptr r1 0 0), (.lptr [t]), (.ptr r2 0 0)]])] ++ R) ++ [.cell rw (.row 4 [nodeV xs[i]])]) h3 := by rw [List.append_assoc]; exact O4
        exact O4'.pop
      have kidl : Kid xs i a := ⟨_, hx, hk3, .inl ha⟩
      have kidr : Kid xs i b := ⟨_, hx, hk3, .inr hb'⟩
      refine hk L3 h3 (fun j hj => s2 j (s1 j (List.mem_append_left _ hj))) (fun hn => n2 (n1 ?_)) (s2 i (s1 i (by simp))) (fun j hj hjL => ?_) O5
      · rw [List.nodup_append]
        refine ⟨hn, by simp, fun x hxL y hy e => ?_⟩
        rw [List.mem_singleton] at hy
        subst hy; subst e
        exact hm hxL
      · by_cases h2' : j ∈ L2
        · by_cases h1' : j ∈ L ++ [i]
          · rcases List.mem_append.1 h1' with h | h
            · exact absurd h hjL
            · rw [List.mem_singleton] at h
              subst h
              refine ⟨.refl _, fun c hc => ?_⟩
              obtain ⟨x, hx1, _, hx2⟩ := hc
              rw [hx] at hx1
              cases hx1
              rcases hx2 with e | e
              · have : c = a := by omega
                subst this
                exact s2 _ m1
              · have : c = b := by omega
                subst this
                exact m2
          · obtain ⟨e1, e2⟩ := c1 j h2' h1'
            exact ⟨.step kidl e1, fun c hc => s2 c (e2 c hc)⟩
        · obtain ⟨e1, e2⟩ := c2 j hj h2'
          exact ⟨.step kidr e1, e2⟩
    · refine ifT_neg (by simpa using hk3) (retG_of ?_)
      have O5 : DS hb r r1 r2 t (L ++ [i]) R _ := Own.skip O1 hrw (.row 4 [nodeV xs[i]])
      refine hk (L ++ [i]) _ (fun j hj => List.mem_append_left _ hj) (fun hn => ?_) (by simp) (fun j hj hjL => ?_) O5
      · rw [List.nodup_append]
        refine ⟨hn, by simp, fun x hxL y hy e => ?_⟩
        rw [List.mem_singleton] at hy
        subst hy; subst e
        exact hm hxL
      · rcases List.mem_append.1 hj with h | h
        · exact absurd h hjL
        · rw [List.mem_singleton] at h
          subst h
          refine ⟨.refl _, fun c hc => ?_⟩
          obtain ⟨x, hx1, hx3, _⟩ := hc
          rw [hx] at hx1
          cases hx1
          exact absurd hx3 hk3
theorem toBaseG {h : Heap} {os : List Ow} (W : Own hb os h) (S : Nat → Prop) (hS : ∀ n, S n → hb n = none) : Go.Sym.GStep h hb S := Own.toBase W S hS
end Go.Proofs.YtaopdcjjcpgebaaGreatDoor

namespace Go.Proofs.YtaopdcjjcpgebaaGreatDoor
open Go Go.Sym Go.Proofs.Tryz
variable {K : AVal → Heap → Prop} {h h0 hb : Heap}
/- ---- a memo ---- -/
def keyA (p : Nat × Nat) : AVal := .agg [.int .i64 (p.1 : Int), .int .i64 (p.2 : Int)]
def kv2 (f : Nat × Nat → Int) (L : List (Nat × Nat)) : List (AVal × AVal) := L.map fun p => (keyA p, .int .i64 (f p))
theorem keyEq_pair (p q : Nat × Nat) : keyEq (keyA p) (keyA q) = some (decide (p = q)) := by
  obtain ⟨a, b⟩ := p
  obtain ⟨c, d⟩ := q
  have e : keyEq (keyA (a, b)) (keyA (c, d)) = some (((a : Int) == (c : Int)) && (((b : Int) == (d : Int)) && true)) := rfl
  rw [e]
  congr 1
  rw [Bool.eq_iff_iff]
  simp
  omega
theorem findM_kv2 (f : Nat × Nat → Int) (k : Nat × Nat) : ∀ (L : List (Nat × Nat)) (p : Nat), findM (keyA k) (kv2 f L) p = some (if k ∈ L then some (p + L.idxOf k, .int .i64 (f k)) else none)
  | [], p => by simp [kv2, findM]
  | j :: L, p => by
    show findM _ ((keyA j, .int .i64 (f j)) :: kv2 f L) p = _
    unfold findM
    rw [keyEq_pair]
    by_cases hij : k = j
    · subst hij
      simp
    · rw [decide_eq_false hij]
      simp only
      rw [findM_kv2 f k L (p + 1)]
      by_cases hm : k ∈ L
      · rw [if_pos hm, if_pos (List.mem_cons_of_mem _ hm), List.idxOf_cons]
        rw [show (j == k) = false by rw [beq_eq_false_iff_ne]; exact fun e => hij e.symm]
        simp only [cond_false]
        rw [show p + 1 + L.idxOf k = p + (L.idxOf k + 1) by omega]
      · rw [if_neg hm, if_neg (fun h => (List.mem_cons.1 h).elim hij hm)]
theorem findM_app (k : Nat × Nat) (c : Int) (f : Nat × Nat → Int) : ∀ (L : List (Nat × Nat)) (p : Nat), k ∉ L → findM (keyA k) (kv2 f L ++ [(keyA k, .int .i64 c)]) p = some (some (p + L.length, .int .i64 c))
  | [], p, _ => by
    show findM _ [(keyA k, .int .i64 c)] p = _
    unfold findM
    rw [keyEq_pair]
    simp
  | j :: L, p, h => by
    have hj : k ≠ j ∧ k ∉ L := by simpa using h
    show findM _ ((keyA j, .int .i64 (f j)) :: (kv2 f L ++ [(keyA k, .int .i64 c)])) p = _
    unfold findM
    rw [keyEq_pair, decide_eq_false hj.1]
    simp only
    rw [findM_app k c f L (p + 1) hj.2]
    simp only [List.length_cons]
    rw [show p + 1 + L.length = p + (L.length + 1) by omega]
theorem findM_set (k : Nat × Nat) (c : Int) (f : Nat × Nat → Int) : ∀ (L : List (Nat × Nat)) (p : Nat), k ∈ L → findM (keyA k) ((kv2 f L).set (L.idxOf k) (keyA k, .int .i64 c)) p = some (some (p + L.idxOf k, .int .i64 c))
  | [], p, h => by simp at h
  | j :: L, p, h => by
    by_cases hij : k = j
    · subst hij
      show findM _ (((keyA k, .int .i64 (f k)) :: kv2 f L).set ((k :: L).idxOf k) _) p = _
      rw [List.idxOf_cons_self, List.set_cons_zero]
      unfold findM
      rw [keyEq_pair]
      simp
    · have hm : k ∈ L := (List.mem_cons.1 h).resolve_left hij
      show findM _ (((keyA j, .int .i64 (f j)) :: kv2 f L).set ((j :: L).idxOf k) _) p = _
      rw [List.idxOf_cons, show (j == k) = false by rw [beq_eq_false_iff_ne]; exact fun e => hij e.symm]
      simp only [cond_false, List.set_cons_succ]
      unfold findM
      rw [keyEq_pair, decide_eq_false hij]
      simp only
      rw [findM_set k c f L (p + 1) hm]
      rw [show p + 1 + L.idxOf k = p + (L.idxOf k + 1) by omega]
theorem set_self_kv2 (k : Nat × Nat) (f : Nat × Nat → Int) : ∀ (L : List (Nat × Nat)), k ∈ L → (kv2 f L).set (L.idxOf k) (keyA k, .int .i64 (f k)) = kv2 f L := fun L hk => by
  have hlt := List.idxOf_lt_length_of_mem hk
  refine List.ext_getElem (by simp) fun i h1 h2 => ?_
  rw [List.getElem_set]
  split
  · rename_i e
    subst e
    simp [kv2]
  · rfl
theorem memo_put (f : Nat × Nat → Int) (L : List (Nat × Nat)) (k : Nat × Nat) : ∃ (X : Int → List (AVal × AVal)) (p : Nat) (L2 : List (Nat × Nat)), (∀ c, putM (keyA k) (.int .i64 c) (kv2 f L) = some (X c)) ∧ (∀ c, findM (keyA k) (X c) 0 = some (some (p, .int .i64 c))) ∧
    (∀ c, p < (X c).length) ∧ (∀ c c', (X c).set p (keyA k, .int .i64 c') = X c') ∧ X (f k) = kv2 f L2 := by
  by_cases hk : k ∈ L
  · refine ⟨fun c => (kv2 f L).set (L.idxOf k) (keyA k, .int .i64 c), L.idxOf k, L, fun c => ?_, fun c => ?_, fun c => ?_, fun c c' => ?_, set_self_kv2 k f L hk⟩
    · unfold putM
      rw [findM_kv2, if_pos hk]
      simp
    · have := findM_set k c f L 0 hk
      simpa using this
    · have := List.idxOf_lt_length_of_mem hk
      simpa [kv2] using this
    · simp
  · refine ⟨fun c => kv2 f L ++ [(keyA k, .int .i64 c)], L.length, L ++ [k], fun c => ?_, fun c => ?_, fun c => ?_, fun c c' => ?_, by simp [kv2]⟩
    · unfold putM
      rw [findM_kv2, if_neg hk]
    · have := findM_app k c f L 0 hk
      simpa using this
    · simp [kv2]
    · have : (kv2 f L).length = L.length := by simp [kv2]
      rw [← this]
      simp
/- ---- where a formula is forced ---- -/
noncomputable def frc (up : List (List Int)) (val : List (List ByteArray)) (xs : List Nd) (i : Nat) (w : Nat) : Bool :=
  match xs[i]? with
  | none => false
  | some x =>
    if x.k = 1 then inS (val.getD w []) x.s
    else if hh : (0 ≤ x.l ∧ x.l < i) ∧ 0 ≤ x.r ∧ x.r < i then
      (if x.k = 3 then frc up val xs x.l.toNat w && frc up val xs x.r.toNat w
       else if x.k = 4 then frc up val xs x.l.toNat w || frc up val xs x.r.toNat w
       else if x.k = 5 then !((aboveL up w).any fun b => frc up val xs x.l.toNat b && !frc up val xs x.r.toNat b)
       else false)
    else false
  termination_by i
  decreasing_by all_goals omega
section
variable {up : List (List Int)} {val : List (List ByteArray)} {xs : List Nd} {i w : Nat} {x : Nd}
theorem frc_1 (hx : xs[i]? = some x) (hk : x.k = 1) : frc up val xs i w = inS (val.getD w []) x.s := by
  rw [frc, hx]
  exact if_pos hk
theorem frc_2 (hx : xs[i]? = some x) (hk : x.k = 2) : frc up val xs i w = false := by
  rw [frc, hx]
  simp only
  rw [if_neg (by omega)]
  split
  · rw [if_neg (by omega), if_neg (by omega), if_neg (by omega)]
  · rfl
theorem frc_3 (hx : xs[i]? = some x) (hk : x.k = 3) {a b : Nat} (ha : x.l = (a : Int)) (hb : x.r = (b : Int)) (hai : a < i) (hbi : b < i) : frc up val xs i w = (frc up val xs a w && frc up val xs b w) := by
  rw [frc, hx]
  simp only
  rw [if_neg (by omega), dif_pos ⟨⟨by omega, by omega⟩, by omega, by omega⟩, if_pos hk, ha, hb]
  simp only [Int.toNat_natCast]
theorem frc_4 (hx : xs[i]? = some x) (hk : x.k = 4) {a b : Nat} (ha : x.l = (a : Int)) (hb : x.r = (b : Int)) (hai : a < i) (hbi : b < i) : frc up val xs i w = (frc up val xs a w || frc up val xs b w) := by
  rw [frc, hx]
  simp only
  rw [if_neg (by omega), dif_pos ⟨⟨by omega, by omega⟩, by omega, by omega⟩, if_neg (by omega), if_pos hk, ha, hb]
  simp only [Int.toNat_natCast]
theorem frc_5 (hx : xs[i]? = some x) (hk : x.k = 5) {a b : Nat} (ha : x.l = (a : Int)) (hb : x.r = (b : Int)) (hai : a < i) (hbi : b < i) : frc up val xs i w = !((aboveL up w).any fun v => frc up val xs a v && !frc up val xs b v) := by
  rw [frc, hx]
  simp only
  rw [if_neg (by omega), dif_pos ⟨⟨by omega, by omega⟩, by omega, by omega⟩, if_neg (by omega), if_neg (by omega), if_pos hk, ha, hb]
  simp only [Int.toNat_natCast]
end
/- ---- is there one? asked of a function that remembers ---- -/
theorem idxFIm_loop {J : Heap → Prop} {v f : AVal} {l : List Int} {p : Int → Bool} (hv : Ints v l) (hm : l.length ≤ 1073741824)
    (hf : ∀ s ∈ l, ∀ (h : Heap) (K : AVal → Heap → Prop), J h → (∀ h', J h' → K (.bool (p s)) h') → callV prog f [.int .i64 s] h K) (hk : ∀ (n : Int) (h' : Heap), (0 ≤ n ↔ ∃ s ∈ l, p s = true) → J h' → K (.int .i64 n) h') : ∀ (d i : Nat) (h : Heap), i + d = l.length → (∀ s ∈ l.take i, p s = false) → J h →
    s85l1 K (d + 1) v f (l.length : Int) (i : Int) h
  | 0, i, h, hd, hn, j => by
    unfold s85l1
    refine ifT_neg (by simp; omega) (retG_of (hk _ _ ?_ j))
    rw [List.take_of_length_le (by omega)] at hn
    constructor
    · intro h0; omega
    · rintro ⟨s, hs, hp⟩; rw [hn s hs] at hp; cases hp
  | d + 1, i, h, hd, hn, j => by
    have hi : i < l.length := by omega
    unfold s85l1
    refine ifT_pos (by simp; omega) ?_
    rw [hv.ix hi, ld1_lptr, tInt_int]
    refine hf _ (List.getElem_mem hi) _ _ j fun h' j' => ?_
    rw [tBool_bool]
    cases he : p l[i] with
    | true => exact ifT_pos rfl (retG_of (hk _ _ ⟨fun _ => ⟨_, List.getElem_mem hi, he⟩, fun _ => by omega⟩ j'))
    | false =>
      refine ifT_neg rfl (rg_of (by omega) (by omega) (s85l1_go (idxFIm_loop hv hm hf hk d (i + 1) h' (by omega) ?_ j')))
      rw [List.take_succ_eq_append_getElem hi]
      intro s hs
      rcases List.mem_append.1 hs with hs | hs
      · exact hn s hs
      · simp at hs; rw [hs, he]
theorem containsFIm_ok {J : Heap → Prop} {v f : AVal} {l : List Int} {p : Int → Bool} (hv : Ints v l) (hm : l.length ≤ 1073741824)
    (hf : ∀ s ∈ l, ∀ (h : Heap) (K : AVal → Heap → Prop), J h → (∀ h', J h' → K (.bool (p s)) h') → callV prog f [.int .i64 s] h K) (j : J h) (hk : ∀ h', J h' → K (.bool (l.any p)) h') : ACalls prog 48 [v, f] h K := by
  refine s48_ok (callG_of (s85_ok ?_))
  unfold s85
  rw [hv.len]
  refine s85l1_in (l.length + 1) (idxFIm_loop hv hm hf (fun n h' hn j' => ?_) l.length 0 h (by omega) (by simp) j)
  rw [tInt_int]
  refine retG_of ?_
  have := hk h' j'
  rwa [show decide (0 ≤ n) = l.any p by rw [Bool.eq_iff_iff]; simpa using hn]
end Go.Proofs.YtaopdcjjcpgebaaGreatDoor

namespace Go.Proofs.YtaopdcjjcpgebaaGreatDoor
open Go Go.Sym Go.Proofs.Tryz
variable {h h0 hb : Heap}
theorem nilCheckA_lptr (l : List AVal) (X : AVal → Prop) : nilCheckA (.lptr l) X = X (.lptr l) := rfl
noncomputable def knV (up : List (List Int)) (val : List (List ByteArray)) (xs : List Nd) (p : Nat × Nat) : Int := if frc up val xs p.2 p.1 = true then 2 else 1
noncomputable def eyeV (t mU mV : AVal) (up : List (List Int)) (rm : Nat) : AVal := .lptr [t, mU, mV, ordLit up, .mapr rm]
abbrev EM (hb : Heap) (rm : Nat) (up : List (List Int)) (val : List (List ByteArray)) (xs : List Nd) (L : List (Nat × Nat)) (R : List Ow) (h : Heap) : Prop := Own hb (.cell rm (.map (kv2 (knV up val xs) L)) :: R) h
section
variable {t mU mV : AVal} {up : List (List Int)} {val : List (List ByteArray)} {xs : List Nd} {rm : Nat}
theorem memo_write {L : List (Nat × Nat)} {R : List Ow} (W : EM hb rm up val xs L R h) {i w : Nat} {b : Bool} (hf : frc up val xs i w = b) {K : AVal → Heap → Prop} (hk : ∀ L' h', EM hb rm up val xs L' R h' → K (.bool b) h') :
    s50c1 K (w : Int) (i : Int) (.lptr [eyeV t mU mV up rm]) b h := by
  obtain ⟨X, p, L2, h1, h2, h3, h4, h5⟩ := memo_put (knV up val xs) L (w, i)
  have hkey : AVal.agg [.int .i64 (w : Int), .int .i64 (i : Int)] = keyA (w, i) := rfl
  unfold s50c1
  rw [ld1_lptr]
  unfold eyeV
  rw [nilCheckA_lptr, addOff_lptr]
  simp only [List.drop_succ_cons, List.drop_zero, ld1_lptr]
  rw [hkey]
  refine Eq.mpr (mapPut_map (W.get 0 _ rm rfl rfl) (h1 1) _) ?_
  have W2 : Own hb (.cell rm (.map (X 1)) :: R) _ := W.put (i := 0) rfl (.map (X 1))
  cases b with
  | false =>
    refine ifT_neg rfl (retG_of ?_)
    have e : knV up val xs (w, i) = 1 := by unfold knV; rw [if_neg (by simp [hf])]
    rw [e] at h5
    rw [h5] at W2 ⊢
    exact hk L2 _ W2
  | true =>
    refine ifT_pos rfl ?_
    rw [nilCheckA_lptr, addOff_lptr]
    simp only [List.drop_succ_cons, List.drop_zero, ld1_lptr]
    have hr := W2.get 0 _ rm rfl rfl
    have hr' : (h.set rm (.map (X 1))) rm = some (.map (X 1)) := hr
    have get1 : ∀ (H : Heap) (Y : AVal → Bool → Prop), H rm = some (.map (X 1)) → Y (.int .i64 1) true → mapGet (.int .i64 0) H (.mapr rm) (keyA (w, i)) Y := fun H Y hH hY => by
      unfold mapGet mapGetR entsA
      simp only [hH, h2 1]
      exact hY
    refine get1 _ _ hr' ?_
    rw [tInt_int]
    refine rg_of (by omega) (by omega) ?_
    unfold mapEnt
    simp only [hr', h2 1]
    intro b
    rw [h4 1 1]
    refine ⟨?_, ?_⟩
    · unfold mapGet mapGetR entsA
      simp only [Heap.set_same, h2 1]
    · unfold entSt
      simp only [Heap.set_same]
      refine ⟨trivial, ?_⟩
      have hp := h3 1
      have hx : (X 1)[p]? = some (X 1)[p] := List.getElem?_eq_getElem hp
      have hkey1 : (X 1)[p].1 = keyA (w, i) := by
        have e := h4 1 1
        have := congrArg (fun l => l[p]?) e
        simp only [List.getElem?_set_self hp] at this
        rw [hx] at this
        rw [← Option.some.inj this]
      rw [hx]
      simp only
      rw [hkey1]
      have e2 : (X 1).set p (keyA (w, i), .int .i64 (1 + 1)) = X 2 := h4 1 2
      rw [e2, Heap.set_set]
      have W3 : Own hb (.cell rm (.map (X 2)) :: R) _ := W2.put (i := 0) rfl (.map (X 2))
      have e : knV up val xs (w, i) = 2 := by unfold knV; rw [if_pos (by simpa using hf)]
      rw [e] at h5
      rw [h5] at W3 ⊢
      exact retG_of (hk L2 _ W3)
end
end Go.Proofs.YtaopdcjjcpgebaaGreatDoor

namespace Go.Proofs.YtaopdcjjcpgebaaGreatDoor
open Go Go.Sym Go.Proofs.Tryz
variable {h h0 hb : Heap} {t mU mV : AVal} {up : List (List Int)} {val : List (List ByteArray)} {xs : List Nd} {rm : Nat}
theorem EM.known {L : List (Nat × Nat)} {R : List Ow} (W : EM hb rm up val xs L R h) (w i : Nat) {X : AVal → Bool → Prop} (yes : ∀ b, X (.int .i64 (knV up val xs (w, i))) b) (no : X (.int .i64 0) false) : mapGet (.int .i64 0) h (.mapr rm) (.agg [.int .i64 (w : Int), .int .i64 (i : Int)]) X := by
  show mapGet (.int .i64 0) h (.mapr rm) (keyA (w, i)) X
  unfold mapGet mapGetR entsA
  have := W.get 0 _ rm rfl rfl
  simp only [this, Ow.obj, findM_kv2]
  by_cases hk : (w, i) ∈ L
  · simp only [if_pos hk]
    exact yes true
  · simp only [if_neg hk]
    exact no
theorem forces_ok (P : PRd hb t xs) (G : GoodT xs) (S : Small up val) (hn : up.length ≤ 512) (hV : Strss mV val) (hvl : val.length = up.length) :
    ∀ (i w : Nat) (L : List (Nat × Nat)) (R : List Ow) (h : Heap) (K : AVal → Heap → Prop), i < xs.length → w < up.length → EM hb rm up val xs L R h → (∀ L' h', EM hb rm up val xs L' R h' → K (.bool (frc up val xs i w)) h') →
      ACalls prog 50 [eyeV t mU mV up rm, .int .i64 (w : Int), .int .i64 (i : Int)] h K := by
  intro i
  induction i using Nat.strongRecOn with
  | ind i ih =>
  intro w L R h K hi hw W hk
  refine s50_ok ?_
  unfold s50
  refine chk_iff.2 ⟨rfl, ?_⟩
  unfold eyeV
  rw [nilCheckA_lptr, addOff_lptr]
  simp only [List.drop_succ_cons, List.drop_zero, ld1_lptr]
  refine W.known w i (fun b => ?_) ?_
  · rw [tInt_int]
    have hk2 := hk L h W
    unfold knV
    cases hf : frc up val xs i w with
    | true =>
      rw [hf] at hk2
      rw [if_pos rfl]
      exact ifT_pos rfl (retG_of hk2)
    | false =>
      rw [hf] at hk2
      rw [if_neg (by simp)]
      exact ifT_pos rfl (retG_of hk2)
  rw [tInt_int]
  refine ifT_neg rfl ?_
  rw [nilCheckA_lptr, addOff_lptr]
  simp only [List.drop_zero, ld1_lptr]
  refine callG_of (nodeP_ok (P.ext W.old) _ (fun a x ha hx => ?_) (fun hno => ?_))
  rotate_left
  · have := hasN_iff.2 (⟨by omega, by omega⟩ : 0 ≤ (i : Int) ∧ (i : Int) < xs.length)
    rw [this] at hno
    cases hno
  obtain rfl : i = a := by omega
  rw [tTup_tuple, tCons_cons, tCons_cons, tBool_bool, tNil_nil]
  unfold nodeV nodeC
  rw [tAgg_agg, tCons_cons, tInt_int, tCons_cons, tStr_str, tCons_cons, tInt_int, tCons_cons, tInt_int, tNil_nil]
  refine newRow_in fun r1 hr1 => st4 (Heap.set_same _ _ _) rfl rfl ?_
  rw [Heap.set_set, ld1_fld (o := 0) (Heap.set_same _ _ _) rfl, tInt_int]
  have W1 : EM hb rm up val xs L (R ++ [.cell r1 (.row 4 [.agg [.int .i64 x.k, .str x.s, .int .i64 x.l, .int .i64 x.r]])]) (h.set r1 (.row 4 [.agg [.int .i64 x.k, .str x.s, .int .i64 x.l, .int .i64 x.r]])) := W.newC hr1 _
  have rd : ∀ L' h', EM hb rm up val xs L' (R ++ [.cell r1 (.row 4 [.agg [.int .i64 x.k, .str x.s, .int .i64 x.l, .int .i64 x.r]])]) h' → h' r1 = some (.row 4 [.agg [.int .i64 x.k, .str x.s, .int .i64 x.l, .int .i64 x.r]]) := fun L' h' W' => W'.get (R.length + 1) (.cell r1 (.row 4 [.agg [.int .i64 x.k, .str x.s, .int .i64 x.l, .int .i64 x.r]])) r1 (by simp) rfl
  have fin : ∀ (b : Bool) L' h', frc up val xs i w = b → EM hb rm up val xs L' (R ++ [.cell r1 (.row 4 [.agg [.int .i64 x.k, .str x.s, .int .i64 x.l, .int .i64 x.r]])]) h' → s50c1 K (w : Int) (i : Int) (.lptr [.lptr [t, mU, mV, ordLit up, .mapr rm]]) b h' := fun b L' h' hb' W' => by
    have W2 : EM hb rm up val xs L' R h' := Own.pop W'
    exact memo_write W2 hb' (fun L2 h2 W3 => by rw [← hb']; exact hk L2 h2 W3)
  generalize h.set r1 (.row 4 [.agg [.int .i64 x.k, .str x.s, .int .i64 x.l, .int .i64 x.r]]) = H1 at W1 ⊢
  rcases G _ x hx with e | e | ⟨e, ⟨l1, l2⟩, r1', r2'⟩
  · refine ifT_pos (by simpa using e) ?_
    rw [nilCheckA_lptr, addOff_lptr]
    simp only [List.drop_succ_cons, List.drop_zero]
    rw [addOff_lptr]
    simp only [List.drop_succ_cons, List.drop_zero, ld1_lptr]
    have hwl : w < val.length := by omega
    obtain ⟨c, hc, hic⟩ := hV.ix hwl
    rw [hic, ld1_lptr, ld1_fld (o := 1) (rd L _ W1) rfl, tStr_str]
    refine callG_of (containsS_ok hc (S.names _ (List.getElem_mem hwl)).1.1 ?_)
    rw [tBool_bool]
    exact fin _ L _ (by rw [frc_1 hx e, List.getD_eq_getElem?_getD, List.getElem?_eq_getElem hwl]; rfl) W1
  · refine ifT_neg (by simp [e]) (ifT_neg (by simp [e]) (ifT_neg (by simp [e]) (ifT_neg (by simp [e]) ?_)))
    exact fin _ L _ (frc_2 hx e) W1
  · obtain ⟨a, ha'⟩ := Int.eq_ofNat_of_zero_le l1
    obtain ⟨b, hb'⟩ := Int.eq_ofNat_of_zero_le r1'
    have hai : a < i := by omega
    have hbi : b < i := by omega
    rcases e with e | e | e
    · refine ifT_neg (by simp [e]) (ifT_pos (by simp [e]) ?_)
      rw [ld1_fld (o := 2) (rd L _ W1) rfl, tInt_int, ha']
      refine callG_of (ih a hai w L _ _ _ (by omega) hw W1 fun L2 h2 W2 => ?_)
      rw [tBool_bool]
      have hf := frc_3 (up := up) (val := val) (w := w) hx e ha' hb' hai hbi
      cases he : frc up val xs a w with
      | false => exact ifT_neg rfl (fin _ L2 h2 (by rw [hf, he]; rfl) W2)
      | true =>
        refine ifT_pos rfl ?_
        rw [ld1_fld (o := 3) (rd L2 _ W2) rfl, tInt_int, hb']
        refine callG_of (ih b hbi w L2 _ _ _ (by omega) hw W2 fun L3 h3 W3 => ?_)
        rw [tBool_bool]
        exact fin _ L3 h3 (by rw [hf, he]; rfl) W3
    · refine ifT_neg (by simp [e]) (ifT_neg (by simp [e]) (ifT_pos (by simp [e]) ?_))
      rw [ld1_fld (o := 2) (rd L _ W1) rfl, tInt_int, ha']
      refine callG_of (ih a hai w L _ _ _ (by omega) hw W1 fun L2 h2 W2 => ?_)
      rw [tBool_bool]
      have hf := frc_4 (up := up) (val := val) (w := w) hx e ha' hb' hai hbi
      cases he : frc up val xs a w with
      | true => exact ifT_pos rfl (fin _ L2 h2 (by rw [hf, he]; rfl) W2)
      | false =>
        refine ifT_neg rfl ?_
        rw [ld1_fld (o := 3) (rd L2 _ W2) rfl, tInt_int, hb']
        refine callG_of (ih b hbi w L2 _ _ _ (by omega) hw W2 fun L3 h3 W3 => ?_)
        rw [tBool_bool]
        exact fin _ L3 h3 (by rw [hf, he]; rfl) W3
    · refine ifT_neg (by simp [e]) (ifT_neg (by simp [e]) (ifT_neg (by simp [e]) (ifT_pos (by simp [e]) ?_)))
      rw [nilCheckA_lptr, addOff_lptr]
      simp only [List.drop_succ_cons, List.drop_zero, ld1_lptr]
      obtain ⟨eo, heo, hio⟩ := (ordLit_rows (up := up)).ix (i := w) (by rw [ordUp_len]; exact hw)
      rw [ordUp_get hw] at heo
      rw [hio, ld1_lptr]
      have hlen := above_len (up := up) (a := w)
      refine callG_of (containsFIm_ok (J := fun h' => ∃ L', EM hb rm up val xs L' (R ++ [.cell r1 (.row 4 [.agg [.int .i64 x.k, .str x.s, .int .i64 x.l, .int .i64 x.r]])]) h') (p := fun s => frc up val xs a s.toNat && !frc up val xs b s.toNat) heo (by simp [natI]; omega) (fun s hs h2 K2 j hk2 => ?_) ⟨L, W1⟩ fun h2 ⟨L2, W2⟩ => ?_)
      · obtain ⟨c, hc, rfl⟩ := mem_natI.1 hs
        have hcl : c < up.length := List.mem_range.1 (List.mem_filter.1 hc).1
        obtain ⟨L2, W2⟩ := j
        simp only [Int.toNat_natCast] at hk2
        show callG prog 87 ([] ++ [.int .i64 (c : Int)] ++ [.lptr [.lptr [t, mU, mV, ordLit up, .mapr rm]], .ptr r1 0 0]) h2 K2
        refine callG_of (s87_ok ?_)
        unfold s87
        rw [ld1_lptr, addOff_ptr, ld1_fld (o := 0 + 2) (rd L2 _ W2) rfl, tInt_int, ha']
        refine callG_of (ih a hai c L2 _ _ _ (by omega) hcl W2 fun L3 h3 W3 => ?_)
        rw [tBool_bool]
        cases he : frc up val xs a c with
        | false =>
          refine ifT_neg rfl (retG_of ?_)
          have := hk2 h3 ⟨L3, W3⟩
          rw [he] at this
          exact this
        | true =>
          refine ifT_pos rfl ?_
          rw [ld1_lptr, addOff_ptr, ld1_fld (o := 0 + 3) (rd L3 _ W3) rfl, tInt_int, hb']
          refine callG_of (ih b hbi c L3 _ _ _ (by omega) hcl W3 fun L4 h4 W4 => ?_)
          rw [tBool_bool]
          have := hk2 h4 ⟨L4, W4⟩
          rw [he] at this
          exact retG_of this
      · rw [tBool_bool]
        refine fin _ L2 h2 ?_ W2
        rw [frc_5 hx e ha' hb' hai hbi]
        unfold natI
        rw [List.any_map]
        rfl
end Go.Proofs.YtaopdcjjcpgebaaGreatDoor

namespace Go.Proofs.YtaopdcjjcpgebaaGreatDoor
open Go Go.Sym Go.Proofs.Tryz
variable {K : AVal → Heap → Prop} {h h0 hb : Heap}
def NKeys (es : List (AVal × AVal)) : Prop := ∀ e ∈ es, ∃ x, e.1 = nodeV x
theorem findM_keys (y : Nd) : ∀ (es : List (AVal × AVal)) (p : Nat), NKeys es → ∃ r, findM (nodeV y) es p = some r
  | [], p, _ => ⟨none, rfl⟩
  | (k, v) :: es, p, hk => by
    obtain ⟨x, e⟩ := hk _ List.mem_cons_self
    dsimp only at e
    subst e
    unfold findM
    rw [keyEq_node]
    cases ndB y x with
    | true => exact ⟨_, rfl⟩
    | false => exact findM_keys y es (p + 1) fun e he => hk e (List.mem_cons_of_mem _ he)
theorem putM_keys {es : List (AVal × AVal)} (hk : NKeys es) (y : Nd) (v : AVal) : ∃ es', putM (nodeV y) v es = some es' ∧ NKeys es' := by
  obtain ⟨r, hr⟩ := findM_keys y es 0 hk
  unfold putM
  rw [hr]
  cases r with
  | none =>
    refine ⟨_, rfl, fun e he => ?_⟩
    rcases List.mem_append.1 he with he | he
    · exact hk e he
    · rw [List.mem_singleton.1 he]; exact ⟨y, rfl⟩
  | some r =>
    refine ⟨_, rfl, fun e he => ?_⟩
    rcases List.mem_or_eq_of_mem_set he with he | he
    · exact hk e he
    · rw [he]; exact ⟨y, rfl⟩
def PX (hb : Heap) (rc : Nat) (L : List AVal) (R : List Ow) (h : Heap) : Prop := ∃ vN q es, NKeys es ∧ Own hb ([.slc 4 vN L, .cell rc (.row 2 [.agg [vN, .mapr q]]), .cell q (.map es)] ++ R) h
theorem copyP_l1 {rc : Nat} {v : AVal} {xs : List Nd} (hv : RdN h0 v xs) (hx : xs.length ≤ 1048576) (hk : K (.ptr rc 0 0) h0) :
    ∀ d i : Nat, i + d = xs.length → ∀ L h, L.length = i → PX h0 rc L [] h → s81l1 K (d + 1) (.ptr rc 0 0) v (xs.length : Int) (i : Int) h
  | 0, i, hd, L, h, hL, W => by
    obtain ⟨vN, q, es, _, O⟩ := W
    unfold s81l1
    exact ifT_neg (by simp; omega) (retG_drop O.old hk)
  | d + 1, i, hd, L, h, hL, W => by
    have hil : i < xs.length := by omega
    obtain ⟨vN, q, es, hes, O⟩ := W
    have hv' := hv.ext O.old
    unfold s81l1
    refine ifT_pos (by simp; omega) (hv'.ix (List.getElem?_eq_getElem hil) ?_)
    rw [nodeC, tCons_cons, tInt_int, tCons_cons, tStr_str, tCons_cons, tInt_int, tCons_cons, tInt_int, tNil_nil]
    refine newRow_in fun r hr => st4 (Heap.set_same _ _ _) rfl rfl ?_
    rw [Heap.set_set]
    have O1 := O.newC hr (.row 4 [nodeV xs[i]])
    have rc1 := O1.get 1 _ rc rfl rfl
    rw [nilCheck_ptr, addOff_ptr]
    refine Eq.mpr (ld1_fld rc1 rfl _) ?_
    refine Eq.mpr (ldN_elem (n := 4) (i := 0) (cs := nodeC xs[i]) (Heap.set_same _ _ _) rfl rfl _) ?_
    rw [nodeC, tCons_cons, tInt_int, tCons_cons, tStr_str, tCons_cons, tInt_int, tCons_cons, tInt_int, tNil_nil]
    refine ⟨Eq.mpr (ld1_fld rc1 rfl _) rfl, O1.app (x := nodeV xs[i]) (i := 0) rfl (by omega) (by omega) fun v2 h2 O2 => ?_⟩
    rw [nilCheck_ptr, addOff_ptr]
    refine chk_iff.2 ⟨(O2.sc (i := 0) rfl).1, st_fld (O2.get 1 _ rc rfl rfl) (by simp) ?_⟩
    have O3 := O2.put (i := 1) rfl (.row 2 [.agg [v2, .mapr q]])
    rw [nilCheck_ptr, addOff_ptr]
    refine Eq.mpr (ld1_fld (O3.get 1 _ rc rfl rfl) rfl _) ?_
    refine Eq.mpr (ldN_elem (n := 4) (i := 0) (cs := nodeC xs[i]) (O3.get 3 _ r rfl rfl) rfl rfl _) ?_
    rw [nodeC, tCons_cons, tInt_int, tCons_cons, tStr_str, tCons_cons, tInt_int, tCons_cons, tInt_int, tNil_nil]
    obtain ⟨es', he, hes'⟩ := putM_keys hes xs[i] (.int .i64 (i : Int))
    refine Eq.mpr (mapPut_map (O3.get 2 _ q rfl rfl) he _) (rg_of (by omega) (by omega) (s81l1_go ?_))
    have O4 := O3.put (i := 2) rfl (.map es')
    have O5 : Own h0 ([.slc 4 v2 (L ++ [nodeV xs[i]]), .cell rc (.row 2 [.agg [v2, .mapr q]]), .cell q (.map es')] ++ [.cell r (.row 4 [nodeV xs[i]])]) _ := O4
    exact copyP_l1 hv hx hk d (i + 1) (by omega) (L ++ [nodeV xs[i]]) _ (by simp; omega) ⟨v2, q, es', hes', O5.pop⟩
theorem copyP_ok {t : AVal} {xs : List Nd} (P : PRd h0 t xs) (hx : xs.length ≤ 1048576) (hk : ∀ r, K (.ptr r 0 0) h0) : ACalls prog 81 [t] h0 K := by
  refine s81_ok ?_
  unfold s81
  refine callG_of (aliveP_ok P ?_)
  rw [tBool_bool]
  refine ifT_neg rfl (callG_of (newP_ok (Own.start h0) fun rc h' W => ?_))
  obtain ⟨vN, q, O⟩ := W
  obtain ⟨v, hv, hl⟩ := (P.ext O.old).ld
  obtain ⟨v0, hv0, hl0⟩ := P.ld
  have e : v = v0 := by
    obtain ⟨rt, vT, qT, eT, rfl, h2, h3, h4⟩ := P
    have a := hl (fun x => x = vT)
    have b := hl0 (fun x => x = vT)
    rw [nilCheck_ptr, addOff_ptr, ld1_fld (O.old _ _ h2) rfl] at a
    rw [nilCheck_ptr, addOff_ptr, ld1_fld h2 rfl] at b
    have a' : v = vT := a ▸ rfl
    have b' : v0 = vT := b ▸ rfl
    rw [a', b']
  subst e
  rw [hl, hv.len]
  exact s81l1_in (xs.length + 1) (copyP_l1 hv0 hx (hk rc) xs.length 0 (by omega) [] h' rfl ⟨vN, q, [], (fun e he => by cases he), O⟩)
end Go.Proofs.YtaopdcjjcpgebaaGreatDoor

namespace Go.Proofs.YtaopdcjjcpgebaaGreatDoor
open Go Go.Sym Go.Proofs.Tryz
variable {K : AVal → Heap → Prop}
def LeqF (f : AVal) (up : List (List Int)) : Prop := ∃ o, f = .func (.func 156) [] [.lptr [o]] ∧ OTab o up
theorem leq_call {f : AVal} {up : List (List Int)} {h : Heap} (hf : LeqF f up) {a b : Nat} (ha : a < up.length) (hb : b < up.length) (hk : K (.bool (rb up a b)) h) : callV prog f [.int .i64 a, .int .i64 b] h K := by
  obtain ⟨o, rfl, hO⟩ := hf
  show callG prog 156 ([] ++ [.int .i64 a, .int .i64 b] ++ [.lptr [o]]) h K
  refine callG_of (s156_ok ?_)
  unfold s156
  obtain ⟨e, hrow, _, hix⟩ := hO.row (h' := h) ha
  rw [ld1_lptr, hrow, hix b hb, tBool_bool]
  exact retG_of hk
theorem BF.perm {up : List (List Int)} {a : Nat} {marks : List Bool} {W W' : List Nat} (B : BF up a marks W) (hl : W'.length = W.length) (hm : ∀ x, x ∈ W' ↔ x ∈ W) : BF up a marks W' :=
  ⟨B.len, by rw [hl]; exact B.cnt, fun x hx => B.reach x ((hm x).1 hx), fun x => (B.mkd x).trans (hm x).symm⟩
section
variable {h0 h00 : Heap} {up : List (List Int)} {ro ra a : Nat} {R : List AVal}
theorem reckon_l3 (hn : up.length ≤ 1073741824) (bad : ¬ InR up → K (.tuple [.nilfunc, .bool false]) h00) (hsub : ∀ q o, h00 q = some o → h0 q = some o)
    {L1 : AVal → Int → AVal → Int → Int → Heap → Prop} {L2 : AVal → Int → AVal → AVal → AVal → Int → Int → Heap → Prop} {m row abv : AVal} {r : List Int} {x : Nat} {t18 t19 : Int} (hrow : Ints row r) (hr : r.length ≤ 1073741824)
    (hx : up[x]? = some r) (hax : Reach up a x) {marks0 : List Bool} {D : List Nat}
    (hL : ∀ marks S st hb h, BF up a marks (D ++ S) → OM h0 ro ra a up.length R marks hb → Stk 1 hb st (natV S) h → (∀ y : Nat, marks0[y]? = some true → marks[y]? = some true) →
      (∀ b ∈ r, 0 ≤ b ∧ b < up.length ∧ marks[b.toNat]? = some true) → L2 m up.length abv (.sl ra 1 0 up.length) st t18 t19 h) :
    ∀ d k : Nat, k + d = r.length → ∀ marks S st hb h, BF up a marks (D ++ S) → OM h0 ro ra a up.length R marks hb → Stk 1 hb st (natV S) h → (∀ y : Nat, marks0[y]? = some true → marks[y]? = some true) →
      (∀ b ∈ r.take k, 0 ≤ b ∧ b < up.length ∧ marks[b.toNat]? = some true) → s130l3 K L1 L2 (d + 1) m up.length abv (.sl ra 1 0 up.length) st t18 t19 row r.length (k : Int) h
  | 0, k, hd, marks, S, st, hb, h, B, M, g, hmono, hdone => by
    unfold s130l3
    refine ifT_neg (by simp; omega) (hL marks S st hb h B M g hmono ?_)
    rwa [List.take_of_length_le (by omega)] at hdone
  | d + 1, k, hd, marks, S, st, hb, h, B, M, g, hmono, hdone => by
    have hk : k < r.length := by omega
    unfold s130l3
    refine ifT_pos (by simp; omega) ?_
    rw [hrow.ix hk, ld1_lptr, tInt_int]
    have key : s130c5 K L1 L2 (s130l3_G (s130l3 K L1 L2 (d + 1))) m up.length abv (.sl ra 1 0 up.length) st r[k] t18 t19 row r.length k (decide (r[k] < 0) || decide ((up.length : Int) ≤ r[k])) h := by
      by_cases hbad : r[k] < 0 ∨ (up.length : Int) ≤ r[k]
      · refine ifT_pos (by simpa using hbad) (retG_drop (fun q o hq => g.old (M.old (hsub q o hq))) (bad fun hI => ?_))
        have := hI r (List.mem_of_getElem? hx) r[k] (List.getElem_mem hk)
        omega
      · refine ifT_neg (by simpa using hbad) ?_
        obtain ⟨b, hbk⟩ : ∃ b : Nat, r[k] = (b : Int) := ⟨r[k].toNat, by omega⟩
        have hbn : b < up.length := by omega
        rw [hbk]
        have hbm : b < marks.length := by rw [B.len]; exact hbn
        refine ixS_sl0 hbn ?_
        rw [ld1_ptr (g.old M.get_a) (e := .bool marks[b]) (by simp [hbm]) rfl, tBool_bool]
        have hstep : Reach up a b := .tail hax ⟨r, hx, by rw [← hbk]; exact List.getElem_mem hk⟩
        have next : ∀ marks' S' st' hb' h', BF up a marks' (D ++ S') → OM h0 ro ra a up.length R marks' hb' → Stk 1 hb' st' (natV S') h' → (∀ y : Nat, marks[y]? = some true → marks'[y]? = some true) → marks'[b]? = some true →
            s130c4 K L1 L2 (s130l3_G (s130l3 K L1 L2 (d + 1))) m up.length abv (.sl ra 1 0 up.length) st' t18 t19 row r.length k h' := by
          intro marks' S' st' hb' h' B' M' g' hm' hmb
          refine rg_of (by omega) (by omega) (s130l3_go (reckon_l3 hn bad hsub hrow hr hx hax hL d (k + 1) (by omega) marks' S' st' hb' h' B' M' g' (fun y hy => hm' y (hmono y hy)) ?_))
          rw [List.take_succ_eq_append_getElem hk]
          intro c hc
          rcases List.mem_append.1 hc with hc | hc
          · obtain ⟨h1, h2, h3⟩ := hdone c hc
            exact ⟨h1, h2, hm' _ h3⟩
          · rw [List.mem_singleton.1 hc, hbk]
            exact ⟨by omega, by omega, by simpa using hmb⟩
        cases hmk : marks[b] with
        | true => exact ifT_neg rfl (next marks S st hb h B M g (fun _ hy => hy) (by rw [List.getElem?_eq_getElem hbm, hmk]))
        | false =>
          refine ifT_pos rfl (ixS_sl0 hbn (st_elem (g.old M.get_a) (e := .bool marks[b]) (by simp [hbm]) rfl ?_))
          rw [show (marks.map AVal.bool).set b (.bool true) = (marks.set b true).map .bool by rw [List.map_set]]
          have B' := B.add (b := b) (by rw [List.getElem?_eq_getElem hbm, hmk]) hstep
          have g' := g.upd (x := .row 1 ((marks.set b true).map .bool)) M.get_a
          have hcnt := B'.cnt
          rw [List.append_assoc] at B' hcnt
          have hlen : (D ++ S).length + 1 ≤ up.length := by simp only [List.length_append, List.length_singleton] at hcnt ⊢; omega
          have hlen2 : S.length + 1 ≤ up.length := by simp only [List.length_append] at hlen; omega
          refine appC_stk g' (by rw [natV_len]; omega) (by rw [natV_len]; omega) fun v' h' g2 => ?_
          rw [← natV_app] at g2
          refine next _ (S ++ [b]) v' _ h' B' M.put g2 (fun y hy => ?_) (by simp [hbm])
          rw [List.getElem?_set]
          by_cases e : b = y
          · subst e; simp [hbm]
          · rw [if_neg e]; exact hy
    by_cases h0' : r[k] < 0
    · refine ifT_pos (by simpa using h0') ?_
      rwa [show (decide (r[k] < 0) || decide ((up.length : Int) ≤ r[k])) = true by simp [h0']] at key
    · refine ifT_neg (by simpa using h0') ?_
      rwa [show (decide (r[k] < 0) || decide ((up.length : Int) ≤ r[k])) = decide ((up.length : Int) ≤ r[k]) by simp [h0']] at key
theorem reckon_l2 (hn : up.length ≤ 1073741824) (hrl : ∀ r ∈ up, r.length ≤ 1073741824) (bad : ¬ InR up → K (.tuple [.nilfunc, .bool false]) h00) (hsub : ∀ q o, h00 q = some o → h0 q = some o)
    {L1 : AVal → Int → AVal → Int → Int → Heap → Prop} {mU mV abv : AVal} {t18 : Int} (hU : Intss mU up) (han : a < up.length)
    (hL : ∀ st hb h, OM h0 ro ra a up.length R (rowB up a) hb → Stk 1 hb st [] h → (∀ b ∈ up[a], 0 ≤ b ∧ b < up.length) → L1 (.lptr [mU, mV]) up.length abv t18 (a + 1) h) :
    ∀ d : Nat, ∀ marks D S st hb h, D.length + d = up.length → (a ∈ D ++ S) → BF up a marks (D ++ S) → OM h0 ro ra a up.length R marks hb → Stk 1 hb st (natV S) h →
      (∀ y ∈ D, ∀ r, up[y]? = some r → ∀ b ∈ r, 0 ≤ b ∧ b < up.length ∧ marks[b.toNat]? = some true) →
      s130l2 K L1 (d + 1) (.lptr [mU, mV]) up.length abv (.sl ra 1 0 up.length) st t18 (a : Int) h := by
  intro d
  have fin : ∀ marks D st hb h d, a ∈ D → BF up a marks D → OM h0 ro ra a up.length R marks hb → Stk 1 hb st (natV []) h →
      (∀ y ∈ D, ∀ r, up[y]? = some r → ∀ b ∈ r, 0 ≤ b ∧ b < up.length ∧ marks[b.toNat]? = some true) →
      s130l2 K L1 (d + 1) (.lptr [mU, mV]) up.length abv (.sl ra 1 0 up.length) st t18 (a : Int) h := by
    intro marks D st hb h d haD B M g hcl
    unfold s130l2
    rw [g.len]
    refine ifT_neg (by simp [natV]) (rg_of (by omega) (by omega) ?_)
    have hm := B.done haD fun y hy c ⟨r, hr, hc⟩ => by
      have := (hcl y hy r hr _ hc).2.2
      simpa using this
    rw [hm] at M
    exact hL st hb h M g fun b hb => by
      have h1 := hcl a haD _ (List.getElem?_eq_getElem han) b hb
      exact ⟨h1.1, h1.2.1⟩
  induction d with
  | zero =>
    intro marks D S st hb h hd haD B M g hcl
    have hS : S = [] := by
      have := B.cnt
      simp only [List.length_append] at this
      exact List.eq_nil_of_length_eq_zero (by omega)
    subst hS
    rw [List.append_nil] at B haD
    exact fin marks D st hb h 0 haD B M g hcl
  | succ d ih =>
    intro marks D S st hb h hd haD B M g hcl
    rcases List.eq_nil_or_concat S with rfl | ⟨S', x, rfl⟩
    · rw [List.append_nil] at B haD
      exact fin marks D st hb h (d + 1) haD B M g hcl
    · have hcnt := B.cnt
      simp only [List.length_append, List.length_singleton, List.concat_eq_append] at hcnt
      rw [List.concat_eq_append] at B g haD
      unfold s130l2
      rw [g.len, natV_len]
      refine ifT_pos (by simp) ?_
      rw [g.len, natV_len]
      refine rg_of (by simp only [List.length_append, List.length_singleton]; omega) (by simp only [List.length_append, List.length_singleton]; omega) ?_
      have hlen1 : (((S' ++ [x]).length : Nat) : Int) - 1 = (S'.length : Nat) := by simp
      rw [hlen1]
      refine g.ix (e := .int .i64 (x : Int)) (by rw [natV_app, List.getElem?_append_right (by rw [natV_len]; omega), natV_len]; simp) rfl ?_
      rw [tInt_int, g.len, natV_len, hlen1]
      refine rg_of (by omega) (by omega) ?_
      rw [natV_app] at g
      refine g.pop (by rw [natV_len]) fun st' g' => ?_
      rw [addOff_lptr]
      simp only [List.drop_zero, ld1_lptr]
      obtain ⟨hxn, hxr⟩ := B.reach x (by simp)
      obtain ⟨e, he, hix⟩ := hU.ix hxn
      rw [hix, ld1_lptr, he.len]
      have hup : up[x]? = some up[x] := List.getElem?_eq_getElem hxn
      refine s130l3_in (up[x].length + 1) ?_
      have B1 : BF up a marks ((D ++ [x]) ++ S') := B.perm (by simp only [List.length_append, List.length_singleton]; omega) (by intro y; simp; constructor <;> (rintro (h | h | h) <;> simp [h]))
      refine reckon_l3 (D := D ++ [x]) (marks0 := marks) hn bad hsub he (hrl _ (List.getElem_mem hxn)) hup hxr (fun marks' S2 st2 hb2 h2 B2 M2 g2 hmono hr' => ?_) _ 0 (by omega) marks S' st' hb h B1 M g' (fun _ hy => hy) (by simp)
      refine s130l2_go (ih marks' (D ++ [x]) S2 st2 hb2 h2 (by simp; omega) ?_ B2 M2 g2 ?_)
      · exact (B2.mkd a).1 (hmono a ((B.mkd a).2 haD))
      · intro y hy r hr b hb
        rcases List.mem_append.1 hy with hy | hy
        · obtain ⟨h1, h2, h3⟩ := hcl y hy r hr b hb
          exact ⟨h1, h2, hmono _ h3⟩
        · rw [List.mem_singleton.1 hy, hup] at hr
          cases hr
          exact hr' b hb
end
section
variable {h00 : Heap} {up : List (List Int)} {ro rbx : Nat}
theorem reckon_l1 (hn : up.length ≤ 1073741824) (hrl : ∀ r ∈ up, r.length ≤ 1073741824) (bad : ¬ InR up → K (.tuple [.nilfunc, .bool false]) h00) (good : InR up → ∀ f, LeqF f up → K (.tuple [f, .bool true]) h00)
    {mU mV : AVal} (hU : Intss mU up) (ho : h00 ro = none) (hx : h00 rbx = none) (hne : rbx ≠ ro) : ∀ d a : Nat, a + d = up.length → ∀ R, TU up a R → (∀ a' r, a' < a → up[a']? = some r → ∀ b ∈ r, 0 ≤ b ∧ b < up.length) →
      s130l1 K (d + 1) (.lptr [mU, mV]) up.length (.ptr rbx 0 0) up.length (a : Int) ((h00.set rbx (.row 1 [.sl ro 1 0 up.length])).set ro (.row 1 R))
  | 0, a, hd, R, T, hr => by
    unfold s130l1
    refine ifT_neg (by simp; omega) ?_
    have hbx : ((h00.set rbx (.row 1 [.sl ro 1 0 up.length])).set ro (.row 1 R)) rbx = some (.row 1 [.sl ro 1 0 up.length]) := by rw [Heap.set_ne _ _ hne, Heap.set_same]
    refine ⟨fun q => q = ro ∨ q = rbx, .tuple [.func (.func 156) [] [.lptr [.lsl 1 R]], .bool true], h00,
      .tuple (.cons (.func .nil (.cons (.ptr (.inr rfl) hbx rfl (.cons (.whole (.inl rfl) (Heap.set_same _ _ _) T.len.symm) .nil)) .nil)) (.cons (.refl _) .nil)),
      ⟨fun _ _ => trivial, fun q o hq => ⟨o, ?_, ?_, .refl o⟩⟩, ?_⟩
    · have h1 : q ≠ rbx := fun e => by rw [e, hx] at hq; cases hq
      have h2 : q ≠ ro := fun e => by rw [e, ho] at hq; cases hq
      rw [Heap.set_ne _ _ h2, Heap.set_ne _ _ h1]; exact hq
    · rintro (e | e)
      · rw [e, ho] at hq; cases hq
      · rw [e, hx] at hq; cases hq
    · refine good (fun r hrm b hb => ?_) _ ⟨.lsl 1 R, rfl, R, .lsl 1 R, T.len, fun a' ha' => T.done a' (by omega)⟩
      obtain ⟨j, hj, rfl⟩ := List.mem_iff_getElem.1 hrm
      exact hr j _ (by omega) (List.getElem?_eq_getElem hj) b hb
  | d + 1, a, hd, R, T, hr => by
    have han : a < up.length := by omega
    have ho1 : (h00.set rbx (.row 1 [.sl ro 1 0 up.length])) ro = none := by rw [Heap.set_ne _ _ hne.symm]; exact ho
    unfold s130l1
    refine ifT_pos (by simp; omega) (mkS_own (by omega) (by omega) fun ra hra => ?_)
    have hne2 : ra ≠ ro := fun e => by rw [e, Heap.set_same] at hra; cases hra
    have hne3 : ra ≠ rbx := fun e => by rw [e, Heap.set_ne _ _ hne, Heap.set_same] at hra; cases hra
    have ha0 : (h00.set rbx (.row 1 [.sl ro 1 0 up.length])) ra = none := by rwa [Heap.set_ne _ _ hne2] at hra
    obtain ⟨e0, he0, hagg0⟩ := T.rest a han
    rw [ld1_one (es := 1) (e := .sl ro 1 0 up.length) (by rw [Heap.set_ne _ _ hne3.symm, Heap.set_ne _ _ hne, Heap.set_same]) rfl]
    refine ixS_sl0 han (chk_iff.2 ⟨rfl, ?_⟩)
    refine st_elem (es := 1) (elems := R) (by rw [Heap.set_ne _ _ hne2.symm, Heap.set_same]) he0 hagg0 ?_
    refine ixS_sl0 han ?_
    have hRa : (R.set a (.sl ra 1 0 up.length))[a]? = some (.sl ra 1 0 up.length) := by rw [List.getElem?_set_self]; rw [T.len]; exact han
    refine st_elem (es := 1) (elems := List.replicate up.length (.bool false)) (e := .bool false) (by rw [Heap.set_ne _ _ hne2, Heap.set_same]) (by simp [han]) rfl ?_
    rw [show (List.replicate up.length (AVal.bool false)).set a (.bool true) = ((List.replicate up.length false).set a true).map .bool by rw [List.map_set, List.map_replicate]]
    refine newRow_in fun r hrn => ?_
    have M : OM (h00.set rbx (.row 1 [.sl ro 1 0 up.length])) ro ra a up.length (R.set a (.sl ra 1 0 up.length)) ((List.replicate up.length false).set a true)
        (((((h00.set rbx (.row 1 [.sl ro 1 0 up.length])).set ro (.row 1 R)).set ra (.row 1 (List.replicate up.length (.bool false)))).set ro (.row 1 (R.set a (.sl ra 1 0 up.length)))).set ra (.row 1 (((List.replicate up.length false).set a true).map .bool))) := by
      refine ⟨ho1, ha0, hne2, ?_, hRa, by simp [T.len]⟩
      funext q
      by_cases h1 : q = ra
      · simp [Heap.set, h1]
      · by_cases h2 : q = ro
        · subst h2; simp [Heap.set, h1]
        · simp [Heap.set, h1, h2]
    refine s130l2_in (up.length + 1) ?_
    refine reckon_l2 (ra := ra) (R := R.set a (.sl ra 1 0 up.length)) hn hrl bad (Heap.set_sub hx) hU han (fun st hb h M' g hra' => ?_) up.length _ [] [a] _ _ _ (by simp) (by simp) (by simpa using BF.start han) M
      (by have := Stk.own (es := 1) (l := natV [a]) (junk := []) hrn; simpa [natV] using this) (by simp)
    refine ⟨fun q => q = ra, _, (h00.set rbx (.row 1 [.sl ro 1 0 up.length])).set ro (.row 1 ((R.set a (.sl ra 1 0 up.length)).set a (.lsl 1 ((rowB up a).map .bool)))), Lits.refl _, GStep.row (g.old M'.get_o) hne2 ha0 (fun q o hq => g.old (M'.old hq)) hRa
      (.whole rfl (g.old M'.get_a) (by simp [rowB])), rfl, ?_⟩
    rw [List.set_set]
    have := reckon_l1 (mV := mV) hn hrl bad good hU ho hx hne d (a + 1) (by omega) (R.set a (.lsl 1 ((rowB up a).map .bool))) ⟨by simp [T.len], fun a' ha' => ?_, fun a' ha' => ?_⟩ (fun a' r ha' hr' => ?_)
    · exact this
    · by_cases e : a' = a
      · subst e
        exact ⟨_, List.getElem?_set_self (by rw [T.len]; exact han), rfl, .lsl 1 _⟩
      · rw [List.getElem?_set_ne (Ne.symm e)]
        exact T.done a' (by omega)
    · by_cases e : a' = a
      · subst e
        exact ⟨_, List.getElem?_set_self (by rw [T.len]; exact han), rfl⟩
      · rw [List.getElem?_set_ne (Ne.symm e)]
        exact T.rest a' ha'
    · by_cases e : a' = a
      · subst e
        rw [List.getElem?_eq_getElem han] at hr'
        cases hr'
        exact hra'
      · exact hr a' r (by omega) hr'
theorem reckon_ok {mU mV : AVal} {h : Heap} (hn : up.length ≤ 1048576) (hrl : ∀ r ∈ up, r.length ≤ 1073741824) (hU : Intss mU up) (bad : ¬ InR up → K (.tuple [.nilfunc, .bool false]) h) (good : InR up → ∀ f, LeqF f up → K (.tuple [f, .bool true]) h) :
    ACalls prog 130 [.agg [mU, mV]] h K := by
  refine s130_ok ?_
  unfold s130
  rw [hU.len]
  refine mkS_own (by omega) (by omega) fun ro hro => newRow_in fun rbx hrbx => chk_iff.2 ⟨rfl, ?_⟩
  have hne : rbx ≠ ro := fun e => by rw [e, Heap.set_same] at hrbx; cases hrbx
  have hx : h rbx = none := by rwa [Heap.set_ne _ _ hne] at hrbx
  refine st_elem (Heap.set_same _ _ _) rfl rfl ?_
  rw [show [AVal.nilsl].set 0 (.sl ro 1 0 up.length) = [.sl ro 1 0 up.length] from rfl, ld1_one (Heap.set_same _ _ _) rfl, lenN_sl]
  refine s130l1_in (up.length + 1) ?_
  have he : (((h.set ro (.row 1 (List.replicate up.length .nilsl))).set rbx (.row 1 [.nilsl])).set rbx (.row 1 [.sl ro 1 0 up.length])) =
      (h.set rbx (.row 1 [.sl ro 1 0 up.length])).set ro (.row 1 (List.replicate up.length .nilsl)) := by
    rw [Heap.set_set, Heap.set_comm _ _ _ hne]
  rw [he]
  exact reckon_l1 (by omega) hrl bad good hU hro hx hne up.length 0 (by omega) _ ⟨by simp, by intro a' ha'; omega, fun a' ha' => ⟨.nilsl, by simp [ha'], rfl⟩⟩ (by intro a' r ha'; omega)
end
end Go.Proofs.YtaopdcjjcpgebaaGreatDoor

namespace Go.Proofs.YtaopdcjjcpgebaaGreatDoor
open Go Go.Sym Go.Proofs.Tryz
variable {K : AVal → Heap → Prop} {h : Heap} {up : List (List Int)} {val : List (List ByteArray)} {mU mV : AVal}
theorem lacks_call {l : List ByteArray} {e : AVal} {r b : Nat} (hV : Strss mV val) (S : Small up val) (hb : b < val.length) {h : Heap} (hr : h r = some (.row 1 [.int .i64 (b : Int)])) (s : ByteArray) (K : AVal → Heap → Prop)
    (hk : K (.bool (!inS val[b] s)) h) : callV prog (.func (.func 133) [] [.lptr [mU, mV], .ptr r 0 0]) [.str s] h K := by
  show callG prog 133 ([] ++ [.str s] ++ [.lptr [mU, mV], .ptr r 0 0]) h K
  refine callG_of (s133_ok ?_)
  unfold s133
  obtain ⟨eb, heb, hix⟩ := hV.ix hb
  rw [addOff_lptr]
  simp only [List.drop_succ_cons, List.drop_zero, ld1_lptr]
  rw [ld1_one hr rfl, tInt_int, hix, ld1_lptr]
  refine callG_of (containsS_ok heb ((S.names _ (List.getElem_mem hb)).1).1 ?_)
  rw [tBool_bool]
  exact retG_of hk
theorem looked_l3 (S : Small up val) (hV : Strss mV val) {f : AVal} (hF : LeqF f up) (hl : val.length = up.length) (hn : up.length ≤ 512) {a : Nat} (ha : a < up.length) {ea : AVal} (hea : Strs ea (val[a]'(by omega)))
    (bad : ¬ WF up val → K (.tuple [.nilfunc, .bool false]) h) {L2 : AVal → Int → AVal → AVal → Int → Int → Heap → Prop} {t34 : AVal} {t35 : Int} (hL : (∀ b, b < up.length → Cond up val a b) → L2 (.lptr [mU, mV]) up.length f t34 t35 (a + 1) h) :
    ∀ d b : Nat, b + d = up.length → (∀ b', b' < b → Cond up val a b') → s103l3 K L2 (d + 1) (.lptr [mU, mV]) up.length f a ea t34 t35 a up.length (b : Int) h := by
  intro d
  induction d with
  | zero =>
    intro b hd hk
    unfold s103l3
    exact ifT_neg (by simp; omega) (rg_of (by omega) (by omega) (hL fun b' hb' => hk b' (by omega)))
  | succ d ih =>
    intro b hd hk
    have hb : b < up.length := by omega
    unfold s103l3
    refine ifT_pos (by simp; omega) (newRow_in fun r hr => ?_)
    refine st_elem (Heap.set_same _ _ _) rfl rfl ?_
    rw [show [AVal.int .i64 0].set 0 (.int .i64 (b : Int)) = [.int .i64 (b : Int)] from rfl, Heap.set_set, ld1_one (Heap.set_same _ _ _) rfl, tInt_int]
    have next : Cond up val a b → s103c4 K L2 (s103l3_G (s103l3 K L2 (d + 1))) (.lptr [mU, mV]) up.length f a ea t34 t35 a up.length b (h.set r (.row 1 [.int .i64 (b : Int)])) := by
      intro hc
      refine rg_of (by omega) (by omega) ⟨_, _, h, Lits.refl _, GStep.drop (Heap.set_sub hr), rfl, ?_⟩
      have := ih (b + 1) (by omega) fun b' hb' => by
        by_cases e : b' = b
        · rw [e]; exact hc
        · exact hk b' (by omega)
      exact this
    have stop : ¬ WF up val → retG (.tuple [.nilfunc, .bool false]) (h.set r (.row 1 [.int .i64 (b : Int)])) K := fun hW => retG_drop (Heap.set_sub hr) (bad hW)
    by_cases hab : a = b
    · refine ifT_pos (by simp [hab]) (ifT_pos rfl (next fun _ hne => absurd hab hne))
    · refine ifT_neg (by simp; omega) ?_
      rw [ld1_one (Heap.set_same _ _ _) rfl, tInt_int]
      refine leq_call hF ha hb ?_
      rw [tBool_bool]
      cases hr1 : rb up a b with
      | false => exact ifT_pos rfl (next fun hR => by rw [rb_iff.2 hR] at hr1; cases hr1)
      | true =>
        refine ifT_neg rfl ?_
        rw [ld1_one (Heap.set_same _ _ _) rfl, tInt_int]
        refine leq_call hF hb ha ?_
        rw [tBool_bool]
        cases hr2 : rb up b a with
        | true => exact ifT_pos rfl (ifT_pos rfl (stop fun W => (W.cond a b ha hb (rb_iff.1 hr1) hab).1 (rb_iff.1 hr2)))
        | false =>
          have hva : a < val.length := by omega
          have hvb : b < val.length := by omega
          refine ifT_neg rfl (callG_of (containsFS_ok (p := fun s => !inS val[b] s) hea ((S.names _ (List.getElem_mem hva)).1).1 (fun s _ K' hk' => lacks_call (l := val[a]) (e := ea) hV S hvb (Heap.set_same _ _ _) s K' hk') ?_))
          rw [tBool_bool]
          cases hany : val[a].any fun s => !inS val[b] s with
          | true =>
            refine ifT_pos rfl (stop fun W => ?_)
            obtain ⟨s, hs, hn'⟩ := List.any_eq_true.1 hany
            have := (W.cond a b ha hb (rb_iff.1 hr1) hab).2
            rw [getD_val hva, getD_val hvb] at this
            rw [inS_iff.2 (this s hs)] at hn'
            cases hn'
          | false =>
            refine ifT_neg rfl (next fun _ _ => ⟨(fun e => by rw [rb_iff.2 e] at hr2; cases hr2), ?_⟩)
            rw [getD_val hva, getD_val hvb]
            intro s hs
            have := List.any_eq_false.1 hany s hs
            exact inS_iff.1 (by simpa using this)
theorem looked_l2 (S : Small up val) (hU : Intss mU up) (hV : Strss mV val) {f : AVal} (hF : LeqF f up) (hl : val.length = up.length) (hn : up.length ≤ 512)
    (bad : ¬ WF up val → K (.tuple [.nilfunc, .bool false]) h) (good : (∀ l ∈ val, fineB l = true) → (∀ a b, a < up.length → b < up.length → Cond up val a b) → K (.tuple [f, .bool true]) h) :
    ∀ d a : Nat, a + d = up.length → (∀ l ∈ val.take a, fineB l = true) → (∀ a' b, a' < a → b < up.length → Cond up val a' b) → s103l2 K (d + 1) (.lptr [mU, mV]) up.length f mV up.length (a : Int) h := by
  intro d
  induction d with
  | zero =>
    intro a hd hk hc
    unfold s103l2
    rw [List.take_of_length_le (by omega)] at hk
    exact ifT_neg (by simp; omega) (retG_of (good hk fun a' b ha' hb' => hc a' b (by omega) hb'))
  | succ d ih =>
    intro a hd hk hc
    have ha : a < val.length := by omega
    obtain ⟨ea, hea, hixa⟩ := hV.ix ha
    unfold s103l2
    refine ifT_pos (by simp; omega) ?_
    rw [hixa, ld1_lptr]
    refine callG_of (rising_ok hea (S.names _ (List.getElem_mem ha)).1 ?_)
    rw [tBool_bool]
    cases hf : fineB val[a] with
    | false =>
      refine ifT_pos rfl (retG_of (bad fun W => ?_))
      have := W.fine _ (List.getElem_mem ha)
      rw [hf] at this; cases this
    | true =>
      refine ifT_neg rfl (s103l3_in (up.length + 1) ?_)
      refine looked_l3 S hV hF hl hn (by omega) hea bad (fun hca => s103l2_go (ih (a + 1) (by omega) ?_ fun a' b ha' hb' => ?_)) up.length 0 (by omega) (by intro b' hb'; omega)
      · rw [List.take_succ_eq_append_getElem ha]
        intro l hl'
        rcases List.mem_append.1 hl' with hl' | hl'
        · exact hk l hl'
        · rw [List.mem_singleton.1 hl']; exact hf
      · by_cases e : a' = a
        · rw [e]; exact hca b hb'
        · exact hc a' b (by omega) hb'
theorem looked_ok (S : Small up val) (hU : Intss mU up) (hV : Strss mV val) (bad : ¬ WF up val → K (.tuple [.nilfunc, .bool false]) h) (good : WF up val → ∀ f, LeqF f up → K (.tuple [f, .bool true]) h) :
    ACalls prog 103 [.agg [mU, mV]] h K := by
  refine s103_ok ?_
  have hup := S.ups
  unfold s103
  rw [hU.len]
  by_cases h1 : up.length < 1
  · exact ifT_pos (by simp; omega) (ifT_pos rfl (retG_of (bad fun W => by have := W.pos; omega)))
  · refine ifT_neg (by simp; omega) ?_
    by_cases h2 : 512 < up.length
    · exact ifT_pos (by simp; omega) (ifT_pos rfl (retG_of (bad fun W => by have := W.max; omega)))
    · refine ifT_neg (by simp; omega) ?_
      rw [hV.len]
      by_cases h3 : val.length = up.length
      · refine ifT_neg (by simp [h3]) ?_
        rw [ldN_agg2, tCons_cons, tCons_cons, tNil_nil]
        refine callG_of (reckon_ok hup (fun r hr => by have := S.row r hr; omega) hU (fun hI => ?_) fun hI f hF => ?_)
        · simp only [tTup_tuple, tCons_cons, tBool_bool, tNil_nil]
          exact ifT_pos rfl (retG_of (bad fun W => hI W.inR))
        · simp only [tTup_tuple, tCons_cons, tBool_bool, tNil_nil]
          refine ifT_neg rfl ?_
          rw [addOff_lptr]
          simp only [List.drop_succ_cons, List.drop_zero, ld1_lptr]
          rw [hV.len, h3]
          exact s103l2_in (up.length + 1) (looked_l2 S hU hV hF h3 (by omega) bad (fun hf hc => good ⟨by omega, by omega, h3, hI, hf, hc⟩ f hF) up.length 0 (by omega) (by simp) (by intro a' b ha'; omega))
      · exact ifT_pos (by simp; omega) (retG_of (bad fun W => h3 W.len))
theorem asked_loop {f ws : AVal} {l : List Int} (hU : Intss mU up) (hn : up.length ≤ 512) (hw : Ints ws l) (hm : l.length ≤ 1048576) (bad : ¬ (∀ w ∈ l, 0 ≤ w ∧ w < up.length) → K (.tuple [.nilfunc, .int .i64 2]) h)
    (good : (∀ w ∈ l, 0 ≤ w ∧ w < up.length) → K (.tuple [f, .int .i64 0]) h) : ∀ d i : Nat, i + d = l.length → (∀ w ∈ l.take i, 0 ≤ w ∧ w < up.length) → s70l1 K (d + 1) (.lptr [mU, mV]) f ws l.length (i : Int) h
  | 0, i, hd, hk => by
    unfold s70l1
    rw [List.take_of_length_le (by omega)] at hk
    exact ifT_neg (by simp; omega) (retG_of (good hk))
  | d + 1, i, hd, hk => by
    have hi : i < l.length := by omega
    unfold s70l1
    refine ifT_pos (by simp; omega) ?_
    rw [hw.ix hi, ld1_lptr, tInt_int]
    by_cases h0 : l[i] < 0
    · exact ifT_pos (by simpa using h0) (ifT_pos rfl (retG_of (bad fun hall => by have := hall _ (List.getElem_mem hi); omega)))
    · refine ifT_neg (by simpa using h0) ?_
      rw [addOff_lptr]
      simp only [List.drop_zero, ld1_lptr]
      rw [hU.len]
      by_cases h1 : (up.length : Int) ≤ l[i]
      · exact ifT_pos (by simpa using h1) (retG_of (bad fun hall => by have := hall _ (List.getElem_mem hi); omega))
      · refine ifT_neg (by simpa using h1) (rg_of (by omega) (by omega) (s70l1_go (asked_loop hU hn hw hm bad good d (i + 1) (by omega) ?_)))
        rw [List.take_succ_eq_append_getElem hi]
        intro w hw'
        rcases List.mem_append.1 hw' with hw' | hw'
        · exact hk w hw'
        · rw [List.mem_singleton.1 hw']; omega
theorem asked_ok {ws : AVal} {l : List Int} (S : Small up val) (hU : Intss mU up) (hV : Strss mV val) (hw : Ints ws l) (hm : l.length ≤ 1048576) (bad : ¬ WF up val → K (.tuple [.nilfunc, .int .i64 170]) h)
    (out : WF up val → ¬ (∀ w ∈ l, 0 ≤ w ∧ w < up.length) → K (.tuple [.nilfunc, .int .i64 2]) h) (good : WF up val → (∀ w ∈ l, 0 ≤ w ∧ w < up.length) → ∀ f, LeqF f up → K (.tuple [f, .int .i64 0]) h) :
    ACalls prog 70 [.agg [mU, mV], ws] h K := by
  refine s70_ok (callG_of (looked_ok S hU hV (fun hW => ?_) fun hW f hF => ?_))
  · simp only [tTup_tuple, tCons_cons, tBool_bool, tNil_nil]
    exact ifT_pos rfl (retG_of (bad hW))
  · simp only [tTup_tuple, tCons_cons, tBool_bool, tNil_nil]
    refine ifT_neg rfl ?_
    rw [hw.len]
    exact s70l1_in (l.length + 1) (asked_loop hU hW.max hw hm (out hW) (fun hall => good hW hall f hF) l.length 0 (by omega) (by simp))
theorem check_ok (S : Small up val) (hU : Intss mU up) (hV : Strss mV val) (bad : ¬ WF up val → K (.int .i64 170) h) (good : WF up val → K (.int .i64 0) h) : ACalls prog 36 [.agg [mU, mV]] h K := by
  refine s36_ok (callG_of (asked_ok (l := []) S hU hV (.inr ⟨rfl, rfl⟩) (by simp) (fun hW => ?_) (fun _ hW => absurd (by simp) hW) fun hW _ f hF => ?_))
  · simp only [tTup_tuple, tCons_cons, tInt_int, tNil_nil]
    exact retG_of (bad hW)
  · simp only [tTup_tuple, tCons_cons, tInt_int, tNil_nil]
    exact retG_of (good hW)
end Go.Proofs.YtaopdcjjcpgebaaGreatDoor

namespace Go.Proofs.YtaopdcjjcpgebaaGreatDoor
open Go Go.Sym Go.Proofs.Tryz
variable {K : AVal → Heap → Prop} {h h0 hb : Heap} {t mU mV : AVal} {up : List (List Int)} {val : List (List ByteArray)} {xs : List Nd}
theorem lookF_ok (P : PRd h t xs) (hx : xs.length ≤ 1024) (ht : sc t = true) (S : Small up val) (hU : Intss mU up) (hV : Strss mV val) (bad : ¬ WF up val → K (.tuple [.nilptr, .int .i64 170]) h)
    (good : WF up val → ∀ rm h', EM h rm up val xs [] [] h' → K (.tuple [eyeV t mU mV up rm, .int .i64 0]) h') : ACalls prog 45 [t, .agg [mU, mV]] h K := by
  refine s45_ok ?_
  unfold s45
  refine callG_of (copyP_ok P (by omega) fun r => ?_)
  rw [nilP_ptr]
  refine ifT_neg rfl (callG_of (check_ok S hU hV (fun hW => ?_) (fun W => ?_)))
  · rw [tInt_int]
    exact ifT_pos rfl (retG_of (bad hW))
  · rw [tInt_int]
    have ord : ∀ H : Heap, callG prog 82 [.agg [mU, mV]] H fun v h2 => v = ordLit up ∧ h2 = H := fun H => callG_of (orderF_ok W.max hU S.row W.inR ⟨rfl, rfl⟩)
    refine ifT_neg rfl ⟨ordLit up, ord h, fun rm hrm _ => ⟨ord _, rfl, rfl, chk_iff.2 ⟨ht, chk_iff.2 ⟨rfl, retG_of (good W rm _ ?_)⟩⟩⟩⟩
    exact (Own.start h).newC hrm (.map [])
theorem hasF_ok (P : PRd h t xs) (i : Int) (hk : ∀ h', Ext h h' → K (.bool (hasN xs.length i)) h') : ACalls prog 66 [t, .int .i64 i] h K := by
  refine s66_ok ?_
  unfold s66
  refine callG_of (nodeP_ok P i (fun j x hj hx => ?_) (fun hno => ?_))
  · rw [tTup_tuple, tCons_cons, tCons_cons, tBool_bool, tNil_nil]
    unfold nodeV nodeC
    rw [tAgg_agg, tCons_cons, tInt_int, tCons_cons, tStr_str, tCons_cons, tInt_int, tCons_cons, tInt_int, tNil_nil]
    refine newRow_in fun r hr => st4 (Heap.set_same _ _ _) rfl rfl (retG_of ?_)
    rw [Heap.set_set]
    have hh : hasN xs.length i = true := by
      have := (List.getElem?_eq_some_iff.1 hx).1
      exact hasN_iff.2 ⟨by omega, by omega⟩
    have := hk _ (Ext.new hr (.row 4 [.agg [.int .i64 x.k, .str x.s, .int .i64 x.l, .int .i64 x.r]]))
    rwa [hh] at this
  · rw [tTup_tuple, tCons_cons, tCons_cons, tBool_bool, tNil_nil]
    unfold nodeV nodeC
    rw [tAgg_agg, tCons_cons, tInt_int, tCons_cons, tStr_str, tCons_cons, tInt_int, tCons_cons, tInt_int, tNil_nil]
    refine newRow_in fun r hr => st4 (Heap.set_same _ _ _) rfl rfl (retG_of ?_)
    rw [Heap.set_set]
    have := hk _ (Ext.new hr (.row 4 [.agg [.int .i64 ndZ.k, .str ndZ.s, .int .i64 ndZ.l, .int .i64 ndZ.r]]))
    rwa [hno] at this
end Go.Proofs.YtaopdcjjcpgebaaGreatDoor

namespace Go.Proofs.YtaopdcjjcpgebaaGreatDoor
open Go Go.Sym Go.Proofs.Tryz
variable {K : AVal → Heap → Prop} {h h0 hb : Heap} {t mU mV : AVal} {up : List (List Int)} {val : List (List ByteArray)} {xs : List Nd}
noncomputable def onL (up : List (List Int)) (val : List (List ByteArray)) (xs : List Nd) (i : Nat) : List Nat := (List.range up.length).filter (frc up val xs i)
section
variable {rm : Nat}
theorem worldsF_l1 (P : PRd h0 t xs) (G : GoodT xs) (S : Small up val) (W : WF up val) (hV : Strss mV val) {i : Nat} (hi : i < xs.length)
    (good : ∀ v, Ints v (natI (onL up val xs i)) → K (.tuple [v, .int .i64 0]) h0) :
    ∀ d w : Nat, w + d = up.length → ∀ L v h, EM h0 rm up val xs L [.slc 1 v ((natI ((List.range w).filter (frc up val xs i))).map (.int .i64))] h →
      s31l1 K (d + 1) (i : Int) (eyeV t mU mV up rm) v (up.length : Int) (w : Int) h
  | 0, w, hd, L, v, h, M => by
    obtain rfl : w = up.length := by omega
    unfold s31l1
    refine ifT_neg (by simp) ?_
    obtain ⟨v', lv, sv⟩ := M.lit (i := 1) rfl (S := nameOf v) (fun _ h => h) (Lits.refl _)
    exact ⟨nameOf v, _, h0, .tuple (.cons lv (.cons (.refl _) .nil)), Own.toBase M _ (fun n hn => M.new 1 _ n rfl hn), good v' sv⟩
  | d + 1, w, hd, L, v, h, M => by
    have hmax := W.max
    have hw : w < up.length := by omega
    unfold s31l1
    refine ifT_pos (decide_eq_true (by omega)) ?_
    have hsucc := range_filter_succ (frc up val xs i) w
    have hlen : ((natI ((List.range w).filter (frc up val xs i))).map (AVal.int .i64)).length ≤ w := by
      simp only [natI, List.length_map]
      have := List.length_filter_le (frc up val xs i) (List.range w)
      simpa using this
    refine callG_of (forces_ok P G S hmax hV W.len i w L _ _ _ hi hw M fun L2 h2 M2 => ?_)
    rw [tBool_bool]
    cases hf : frc up val xs i w with
    | true =>
      refine ifT_pos rfl (Own.app M2 (i := 1) rfl (by omega) (by omega) fun v3 h3 M3 => rg_of (by omega) (by omega) (s31l1_go ?_))
      refine worldsF_l1 P G S W hV hi good d (w + 1) (by omega) L2 v3 h3 ?_
      rw [hsucc, hf]
      simpa [natI] using M3
    | false =>
      refine ifT_neg rfl (rg_of (by omega) (by omega) (s31l1_go ?_))
      refine worldsF_l1 P G S W hV hi good d (w + 1) (by omega) L2 v h2 ?_
      rw [hsucc, hf]
      simpa using M2
end
theorem worldsF_ok (P : PRd h t xs) (G : GoodT xs) (hx : xs.length ≤ 1024) (ht : sc t = true) (S : Small up val) (hU : Intss mU up) (hV : Strss mV val) (i : Int) (bad : ¬ WF up val → K (.tuple [.nilsl, .int .i64 170]) h) (no : WF up val → hasN xs.length i = false → K (.tuple [.nilsl, .int .i64 31]) h)
    (good : WF up val → ∀ j : Nat, i = (j : Int) → j < xs.length → ∀ v, Ints v (natI (onL up val xs j)) → K (.tuple [v, .int .i64 0]) h) : ACalls prog 31 [t, .agg [mU, mV], .int .i64 i] h K := by
  refine s31_ok ?_
  unfold s31
  refine callG_of (lookF_ok P hx ht S hU hV (fun hW => ?_) (fun W rm h' M => ?_))
  · rw [tTup_tuple, tCons_cons, tCons_cons, tInt_int, tNil_nil]
    exact ifT_pos rfl (retG_of (bad hW))
  · rw [tTup_tuple, tCons_cons, tCons_cons, tInt_int, tNil_nil]
    refine ifT_neg rfl (callG_of (hasF_ok (P.ext M.old) i fun h2 x => ?_))
    rw [tBool_bool]
    have M2 : EM h rm up val xs [] [] h2 := Own.ext M x
    cases hh : hasN xs.length i with
    | false => exact ifT_pos rfl (retG_drop M2.old (no W hh))
    | true =>
      obtain ⟨j, y, rfl, hy⟩ := hasN_get hh
      have hj := (List.getElem?_eq_some_iff.1 hy).1
      refine ifT_neg rfl ?_
      rw [hU.len]
      refine s31l1_in (up.length + 1) (worldsF_l1 P G S W hV hj (good W j rfl hj) up.length 0 (by omega) [] .nilsl h2 ?_)
      exact Own.newN M2 1
end Go.Proofs.YtaopdcjjcpgebaaGreatDoor

namespace Go.Proofs.YtaopdcjjcpgebaaGreatDoor
open Go Go.Sym Go.Proofs.Tryz
variable {K : AVal → Heap → Prop} {h h0 hb : Heap}
theorem lenP_ok {t : AVal} {xs : List Nd} (R : PRd h t xs) (hk : K (.int .i64 (xs.length : Int)) h) : ACalls prog 67 [t] h K := by
  refine s67_ok ?_
  unfold s67
  refine callG_of (aliveP_ok R ?_)
  rw [tBool_bool]
  obtain ⟨vN, h4, hl⟩ := R.ld
  refine ifT_neg rfl ?_
  rw [hl, h4.len]
  exact retG_of hk
end Go.Proofs.YtaopdcjjcpgebaaGreatDoor

namespace Go.Proofs.YtaopdcjjcpgebaaGreatDoor
open Go Go.Sym Go.Proofs.Tryz
set_option maxRecDepth 100000
variable {K : AVal → Heap → Prop} {h h0 hb : Heap} {t mU mV : AVal} {up : List (List Int)} {val : List (List ByteArray)} {xs : List Nd}
abbrev zW : List AVal := [.int .u64 0, .int .u64 0, .int .u64 0, .int .u64 0, .int .u64 0, .int .u64 0, .int .u64 0, .int .u64 0, .int .u64 0, .int .u64 0, .int .u64 0, .int .u64 0, .int .u64 0, .int .u64 0, .int .u64 0, .int .u64 0]
theorem aggN_l {cs : List AVal} (hl : cs.length = 16) {X : List AVal → Prop} (hx : X cs) : aggN 16 (.agg cs) X := by
  unfold aggN
  exact chk_iff.2 ⟨by simp [hl], hx⟩
/- ---- the set of some numbers ---- -/
def ofW (l : List Nat) : List (BitVec 64) := l.foldl putW noW
theorem ofW_app (l : List Nat) (n : Nat) : ofW (l ++ [n]) = putW (ofW l) n := by simp [ofW]
theorem foldPut_len : ∀ (l : List Nat) (ws : List (BitVec 64)), (l.foldl putW ws).length = ws.length
  | [], _ => rfl
  | n :: l, ws => by rw [List.foldl_cons, foldPut_len l, putW_len]
theorem ofW_len (l : List Nat) : (ofW l).length = 16 := by unfold ofW; rw [foldPut_len]; rfl
theorem bitsOf_l1 {r r1 : Nat} {v : AVal} {l : List Nat} (hv : Ints v (natI l)) (hn : ∀ n ∈ l, n < 1024) (hlen : l.length ≤ 1048576) (hk : K (.tuple [.agg ((ofW l).map wV), .int .i64 0]) h0) :
    ∀ d i : Nat, i + d = l.length → ∀ h, Own h0 [.cell r (.row 16 [.agg zW]), .cell r1 (.row 16 [.agg ((ofW (l.take i)).map wV)])] h →
      s68l1 K (d + 1) (.ptr r 0 0) (.ptr r1 0 0) v (l.length : Int) (i : Int) h
  | 0, i, hd, h, M => by
    obtain rfl : i = l.length := by omega
    rw [List.take_of_length_le (Nat.le_refl _)] at M
    unfold s68l1
    refine ifT_neg (by simp) ?_
    rw [ldN_fld (M.get 1 _ r1 rfl rfl) (by simp [ofW_len])]
    refine aggN_l (by simp [ofW_len]) (st_all (M.get 0 _ r rfl rfl) (by simp [ofW_len, zW]) ?_)
    rw [ldN_fld (Heap.set_same _ _ _) (by simp [ofW_len])]
    exact retG_drop (M.put (i := 0) rfl _).old hk
  | d + 1, i, hd, h, M => by
    have hi : i < l.length := by omega
    have hni := hn l[i] (List.getElem_mem hi)
    unfold s68l1
    refine ifT_pos (decide_eq_true (by omega)) ?_
    rw [hv.ix (by simpa [natI] using hi), ld1_lptr, show (natI l)[i]'(by simpa [natI] using hi) = ((l[i] : Nat) : Int) by simp [natI], tInt_int]
    refine callG_of (inside_ok ?_)
    rw [tBool_bool, decide_eq_true (p := ((l[i] : Nat) : Int) < 1024) (by omega)]
    generalize hx : l[i] = n at hni
    have e1 : Int.tdiv (n : Int) 64 = ((n / 64 : Nat) : Int) := rfl
    have e2 : Int.tmod (n : Int) 64 = ((n % 64 : Nat) : Int) := rfl
    rw [e1, e2]
    refine ifT_neg rfl ⟨by decide, rg_of (by omega) (by omega) (ixP_w (by omega) ?_)⟩
    rw [ld1_fld (M.get 1 _ r1 rfl rfl) (ws_get (ofW_len _) (by omega)), wV, tInt_int]
    refine ⟨by decide, by omega, ixP_w (by omega) (st_fld (M.get 1 _ r1 rfl rfl) (by simp [ofW_len]; omega) ?_)⟩
    refine rg_of (by omega) (by omega) (s68l1_go ?_)
    refine bitsOf_l1 hv hn hlen hk d (i + 1) (by omega) _ ?_
    have M2 := M.put (i := 1) rfl (.row 16 [.agg ((ofW (l.take (i + 1))).map wV)])
    rw [List.take_succ_eq_append_getElem hi, hx, ofW_app, putW] at M2 ⊢
    have e4 : IntKind.u64.wrap (1 * 2 ^ (min (Int.toNat ((n % 64 : Nat) : Int)) IntKind.u64.bits)) = (((1#64 <<< (n % 64)).toNat : Nat) : Int) := w_shl 1#64 (by omega)
    rw [e4, w_or]
    rw [← ws_set] at M2 ⊢
    exact M2
theorem bitsOf_ok {v : AVal} {l : List Nat} (hv : Ints v (natI l)) (hn : ∀ n ∈ l, n < 1024) (hlen : l.length ≤ 1048576) (hk : K (.tuple [.agg ((ofW l).map wV), .int .i64 0]) h) : ACalls prog 68 [v] h K := by
  refine s68_ok ?_
  unfold s68
  refine newRow_in fun r hr => newRow_in fun r1 hr1 => ?_
  rw [hv.len, show (natI l).length = l.length by simp [natI]]
  refine s68l1_in (l.length + 1) (bitsOf_l1 hv hn hlen hk l.length 0 (by omega) _ ?_)
  exact ((Own.start h).newC hr _).newC hr1 _
/- ---- a right sequent ---- -/
structure SeqV (v : AVal) (ws : List (BitVec 64)) (g : Int) : Prop where
  eq : v = .agg (ws.map wV ++ [.int .i64 g])
  len : ws.length = 16
def rightS (n : Nat) (ws : List (BitVec 64)) (g : Int) : Bool := (nextW ws n).isNone && decide (0 ≤ g) && decide (g < n)
theorem rightS_iff {n : Nat} {ws : List (BitVec 64)} {g : Int} (hl : ws.length = 16) : rightS n ws g = true ↔ (∀ i ∈ listW ws, i < n) ∧ 0 ≤ g ∧ g < n := by
  unfold rightS
  rw [nextW_eq]
  simp only [Bool.and_eq_true, Option.isNone_iff_eq_none, List.find?_eq_none, decide_eq_true_eq, Nat.not_le, and_assoc]
theorem SeqV.agg {v : AVal} {ws : List (BitVec 64)} {g : Int} (B : SeqV v ws g) {X : List AVal → Prop} (hx : X (ws.map wV ++ [.int .i64 g])) : aggN 17 v X := by
  rw [B.eq]
  unfold aggN
  exact chk_iff.2 ⟨by simp [B.len], hx⟩
theorem seq_left {ws : List (BitVec 64)} {g : Int} (hl : ws.length = 16) (H : Heap) (X : List AVal → Prop) : ldN 16 H (.lptr ((ws.map wV ++ [AVal.int .i64 g]).drop 0)) X = X (ws.map wV) := by
  rw [List.drop_zero, ldN_lptr _ _ _ _ (by simp [hl]), List.take_append_of_le_length (by simp [hl]), List.take_of_length_le (by simp [hl])]
theorem seq_goal {ws : List (BitVec 64)} {g : Int} (hl : ws.length = 16) (H : Heap) (X : AVal → Prop) : ld1 H (.lptr ((ws.map wV ++ [AVal.int .i64 g]).drop 16)) X = X (.int .i64 g) := by
  rw [List.drop_append_of_le_length (by simp [hl]), List.drop_of_length_le (by simp [hl]), List.nil_append, ld1_lptr]
theorem seqCheck_ok {s : AVal} {ws : List (BitVec 64)} {g : Int} (P : PRd h t xs) (hx : xs.length ≤ 1024) (B : SeqV s ws g) (hk : K (.int .i64 (if rightS xs.length ws g then 0 else 31)) h) : ACalls prog 46 [t, s] h K := by
  refine s46_ok ?_
  unfold s46
  refine B.agg (callG_of (copyP_ok P (by omega) fun r => ?_))
  rw [nilP_ptr]
  refine ifT_neg rfl (callG_of (lenP_ok P ?_))
  rw [tInt_int, addOff_lptr, seq_left B.len]
  refine callG_of (next_ok ⟨rfl, B.len⟩ _ ?_)
  rw [Int.toNat_natCast]
  have fin : ∀ b : Bool, b = !rightS xs.length ws g → s46c1 K b h := fun b hb => by
    unfold s46c1
    subst hb
    cases hr : rightS xs.length ws g with
    | true => rw [hr] at hk; exact ifT_neg rfl (retG_of hk)
    | false => rw [hr] at hk; exact ifT_pos rfl (retG_of hk)
  unfold rightS at fin
  cases hn : nextW ws xs.length with
  | some m =>
    unfold nextR
    rw [tTup_tuple, tCons_cons, tInt_int, tCons_cons, tBool_bool, tNil_nil]
    exact ifT_pos rfl (fin _ (by rw [hn]; rfl))
  | none =>
    rw [hn] at fin
    unfold nextR
    rw [tTup_tuple, tCons_cons, tInt_int, tCons_cons, tBool_bool, tNil_nil]
    refine ifT_neg rfl ?_
    rw [addOff_lptr, seq_goal B.len, tInt_int]
    by_cases h1 : g < 0
    · exact ifT_pos (decide_eq_true h1) (fin _ (by rw [decide_eq_false (p := 0 ≤ g) (by omega)]; rfl))
    · refine ifT_neg (decide_eq_false h1) ?_
      rw [addOff_lptr, seq_goal B.len, tInt_int]
      refine fin _ ?_
      rw [decide_eq_true (p := 0 ≤ g) (by omega)]
      by_cases h2 : g < xs.length
      · rw [decide_eq_true h2, decide_eq_false (by omega)]; rfl
      · rw [decide_eq_false h2, decide_eq_true (by omega)]; rfl
/- ---- At ---- -/
theorem worldE_ok {rm : Nat} (hU : Intss mU up) (w : Int) (hk : K (.bool (decide (0 ≤ w) && decide (w < up.length))) h) : ACalls prog 65 [eyeV t mU mV up rm, .int .i64 w] h K := by
  refine s65_ok ?_
  unfold s65
  by_cases h0 : 0 ≤ w
  · rw [decide_eq_true h0, Bool.true_and] at hk
    refine ifT_pos (decide_eq_true h0) ?_
    unfold eyeV
    rw [nilCheckA_lptr, addOff_lptr, addOff_lptr]
    simp only [List.drop_succ_cons, List.drop_zero, ld1_lptr]
    rw [hU.len]
    exact retG_of hk
  · rw [decide_eq_false h0, Bool.false_and] at hk
    exact ifT_neg (decide_eq_false h0) (retG_of hk)
open Classical in
noncomputable def atR (up : List (List Int)) (val : List (List ByteArray)) (xs : List Nd) (w i : Int) : Bool × Int :=
  if ¬ WF up val then (false, 170) else if (decide (0 ≤ w) && decide (w < up.length)) = false then (false, 2) else if hasN xs.length i = false then (false, 31) else (frc up val xs i.toNat w.toNat, 0)
theorem atF_ok (P : PRd h t xs) (G : GoodT xs) (hx : xs.length ≤ 1024) (ht : sc t = true) (S : Small up val) (hU : Intss mU up) (hV : Strss mV val) (w i : Int)
    (hk : K (.tuple [.bool (atR up val xs w i).1, .int .i64 (atR up val xs w i).2]) h) : ACalls prog 27 [t, .agg [mU, mV], .int .i64 w, .int .i64 i] h K := by
  refine s27_ok ?_
  unfold s27
  unfold atR at hk
  refine callG_of (lookF_ok P hx ht S hU hV (fun hW => ?_) (fun W rm h' M => ?_))
  · rw [tTup_tuple, tCons_cons, tCons_cons, tInt_int, tNil_nil]
    rw [if_pos hW] at hk
    exact ifT_pos rfl (retG_of hk)
  · rw [tTup_tuple, tCons_cons, tCons_cons, tInt_int, tNil_nil]
    rw [if_neg (fun e => e W)] at hk
    refine ifT_neg rfl (callG_of (worldE_ok hU w ?_))
    rw [tBool_bool]
    cases hw : decide (0 ≤ w) && decide (w < up.length) with
    | false =>
      rw [if_pos hw] at hk
      exact ifT_pos rfl (retG_drop M.old hk)
    | true =>
      rw [if_neg (by simp [hw])] at hk
      refine ifT_neg rfl (callG_of (hasF_ok (P.ext M.old) i fun h2 x => ?_))
      rw [tBool_bool]
      have M2 : EM h rm up val xs [] [] h2 := Own.ext M x
      cases hh : hasN xs.length i with
      | false =>
        rw [if_pos hh] at hk
        exact ifT_pos rfl (retG_drop M2.old hk)
      | true =>
        rw [if_neg (by simp [hh])] at hk
        obtain ⟨j, y, rfl, hy⟩ := hasN_get hh
        have hj := (List.getElem?_eq_some_iff.1 hy).1
        simp only [Bool.and_eq_true, decide_eq_true_eq] at hw
        obtain ⟨a, rfl⟩ := Int.eq_ofNat_of_zero_le hw.1
        have ha : a < up.length := by omega
        rw [Int.toNat_natCast, Int.toNat_natCast] at hk
        refine ifT_neg rfl (callG_of (forces_ok P G S W.max hV W.len j a [] _ _ _ hj ha M2 fun L' h' M3 => ?_))
        rw [tBool_bool]
        exact retG_drop M3.old hk
/- ---- All ---- -/
open Classical in
noncomputable def allR (up : List (List Int)) (val : List (List ByteArray)) (xs : List Nd) (w : Int) : List (BitVec 64) × Int :=
  if ¬ WF up val then (noW, 170) else if (decide (0 ≤ w) && decide (w < up.length)) = false then (noW, 2) else (ofW ((List.range xs.length).filter fun i => frc up val xs i w.toNat), 0)
theorem allF_l1 {r rm w : Nat} (P : PRd h0 t xs) (G : GoodT xs) (S : Small up val) (W : WF up val) (hV : Strss mV val) (hw : w < up.length) (hx : xs.length ≤ 1024)
    (good : K (.tuple [.agg ((ofW ((List.range xs.length).filter fun i => frc up val xs i w)).map wV), .int .i64 0]) h0) :
    ∀ d i : Nat, i + d = xs.length → ∀ L v h, EM h0 rm up val xs L [.cell r (.row 16 [.agg zW]), .slc 1 v ((natI ((List.range i).filter fun i => frc up val xs i w)).map (.int .i64))] h →
      s29l1 K (d + 1) (w : Int) (.ptr r 0 0) (eyeV t mU mV up rm) v (xs.length : Int) (i : Int) h
  | 0, i, hd, L, v, h, M => by
    obtain rfl : i = xs.length := by omega
    unfold s29l1
    refine ifT_neg (by simp) ?_
    obtain ⟨Sg, h2, v', lv, sv, g, M2⟩ := Own.litLast (os := [_, _]) M
    refine ⟨Sg, [v'], h2, .cons lv .nil, g, bitsOf_ok (l := (List.range xs.length).filter fun i => frc up val xs i w) sv (fun n hn => ?_) ?_ ?_⟩
    · have := List.mem_range.1 (List.mem_filter.1 hn).1
      omega
    · have := List.length_filter_le (fun i => frc up val xs i w) (List.range xs.length)
      rw [List.length_range] at this
      omega
    rw [tTup_tuple, tCons_cons, tCons_cons, tInt_int, tNil_nil]
    refine newRow_in fun r1 hr1 => aggN_l (by simp [ofW_len]) (st_all (Heap.set_same _ _ _) (by simp [ofW_len, zW]) ?_)
    rw [Heap.set_set, ldN_fld (Heap.set_same _ _ _) (by simp [ofW_len])]
    have M3 := M2.newC hr1 (.row 16 [.agg ((ofW ((List.range xs.length).filter fun i => frc up val xs i w)).map wV)])
    refine aggN_l (by simp [ofW_len]) (st_all (M3.get 1 _ r rfl rfl) (by simp [ofW_len, zW]) ?_)
    rw [ldN_fld (Heap.set_same _ _ _) (by simp [ofW_len])]
    exact retG_drop (M3.put (i := 1) rfl _).old good
  | d + 1, i, hd, L, v, h, M => by
    unfold s29l1
    refine ifT_pos (decide_eq_true (by omega)) ?_
    have hsucc := range_filter_succ (fun i => frc up val xs i w) i
    have hlen : ((natI ((List.range i).filter fun i => frc up val xs i w)).map (AVal.int .i64)).length ≤ i := by
      simp only [natI, List.length_map]
      have := List.length_filter_le (fun i => frc up val xs i w) (List.range i)
      simpa using this
    refine callG_of (forces_ok P G S W.max hV W.len i w L _ _ _ (by omega) hw M fun L2 h2 M2 => ?_)
    rw [tBool_bool]
    cases hf : frc up val xs i w with
    | true =>
      refine ifT_pos rfl (Own.app M2 (i := 2) rfl (by omega) (by omega) fun v3 h3 M3 => ?_)
      unfold s29c2
      refine rg_of (by omega) (by omega) (s29l1_go ?_)
      refine allF_l1 P G S W hV hw hx good d (i + 1) (by omega) L2 v3 h3 ?_
      rw [hsucc, hf]
      simpa [natI] using M3
    | false =>
      refine ifT_neg rfl ?_
      unfold s29c2
      refine rg_of (by omega) (by omega) (s29l1_go ?_)
      refine allF_l1 P G S W hV hw hx good d (i + 1) (by omega) L2 v h2 ?_
      rw [hsucc, hf]
      simpa using M2
theorem allF_ok (P : PRd h t xs) (G : GoodT xs) (hx : xs.length ≤ 1024) (ht : sc t = true) (S : Small up val) (hU : Intss mU up) (hV : Strss mV val) (w : Int)
    (hk : K (.tuple [.agg ((allR up val xs w).1.map wV), .int .i64 (allR up val xs w).2]) h) : ACalls prog 29 [t, .agg [mU, mV], .int .i64 w] h K := by
  refine s29_ok ?_
  unfold s29
  unfold allR at hk
  refine newRow_in fun r hr => ?_
  have e0 : Ext h (h.set r (.row 16 [.agg zW])) := Ext.new hr _
  have fin : ∀ H, Ext h H → H r = some (.row 16 [.agg zW]) → ∀ c : Int, K (.tuple [.agg (noW.map wV), .int .i64 c]) h → st false H (.ptr r 0 0) zW fun h2 => ldN 16 h2 (.ptr r 0 0) fun l => retG (.tuple [.agg l, .int .i64 c]) h2 K := fun H x hH c hc => by
    refine st_all hH rfl ?_
    rw [ldN_fld (n := 16) (cs := zW) (Heap.set_same _ _ _) rfl]
    exact retG_drop (Ext.put x hr _) hc
  refine callG_of (lookF_ok (P.ext e0) hx ht S hU hV (fun hW => ?_) (fun W rm h' M => ?_))
  · rw [tTup_tuple, tCons_cons, tCons_cons, tInt_int, tNil_nil]
    rw [if_pos hW] at hk
    exact ifT_pos rfl (fin _ e0 (Heap.set_same _ _ _) _ hk)
  · rw [tTup_tuple, tCons_cons, tCons_cons, tInt_int, tNil_nil]
    rw [if_neg (fun e => e W)] at hk
    refine ifT_neg rfl (callG_of (worldE_ok hU w ?_))
    rw [tBool_bool]
    have e1 : Ext h h' := e0.trans M.old
    have g1 : h' r = some (.row 16 [.agg zW]) := M.old _ _ (Heap.set_same _ _ _)
    cases hw : decide (0 ≤ w) && decide (w < up.length) with
    | false =>
      rw [if_pos hw] at hk
      exact ifT_pos rfl (fin _ e1 g1 _ hk)
    | true =>
      rw [if_neg (by simp [hw])] at hk
      refine ifT_neg rfl (callG_of (lenP_ok (P.ext e1) ?_))
      rw [tInt_int]
      simp only [Bool.and_eq_true, decide_eq_true_eq] at hw
      obtain ⟨a, rfl⟩ := Int.eq_ofNat_of_zero_le hw.1
      have ha : a < up.length := by omega
      rw [Int.toNat_natCast] at hk
      refine s29l1_in (xs.length + 1) (allF_l1 P G S W hV ha hx hk xs.length 0 (by omega) [] .nilsl h' ?_)
      have hrm : rm ≠ r := fun e => by
        have := M.new 0 _ rm rfl rfl
        rw [e, Heap.set_same] at this
        cases this
      have A : Own h ([.cell r (.row 16 [.agg zW])] ++ [.cell rm (.map (kv2 (knV up val xs) []))]) h' := by
        have hm := M.get 0 _ rm rfl rfl
        refine ⟨fun i y e => ?_, fun i y n e e1 => ?_, fun i y n e e1 => ?_, fun i j y z n e e' h1 h2 => ?_, e1⟩
        · match i, e with
          | 0, e => cases e; trivial
          | 1, e => cases e; trivial
        · match i, e with
          | 0, e => cases e; cases e1; exact g1
          | 1, e => cases e; cases e1; exact hm
        · match i, e with
          | 0, e => cases e; cases e1; exact hr
          | 1, e =>
            cases e; cases e1
            cases hh : h rm with
            | none => rfl
            | some o =>
              have := M.new 0 _ rm rfl rfl
              rw [e0 _ _ hh] at this
              cases this
        · match i, j, e, e' with
          | 0, 0, _, _ => rfl
          | 1, 1, _, _ => rfl
          | 0, 1, e, e' => cases e; cases e'; cases h1; cases h2; exact absurd rfl hrm
          | 1, 0, e, e' => cases e; cases e'; cases h1; cases h2; exact absurd rfl hrm
      exact Own.renum (A.newN 1) [.cell rm (.map (kv2 (knV up val xs) [])), .cell r (.row 16 [.agg zW]), .slc 1 .nilsl []] (fun j => if j = 0 then 1 else if j = 1 then 0 else j) (fun j y e => by
        match j, e with
        | 0, e => exact e
        | 1, e => exact e
        | 2, e => exact e) (fun j hj k hk e => by
        simp only [List.length_cons, List.length_nil] at hj hk
        match j, k with
        | 0, 0 => rfl
        | 0, 1 => simp at e
        | 0, 2 => simp at e
        | 1, 0 => simp at e
        | 1, 1 => rfl
        | 1, 2 => simp at e
        | 2, 0 => simp at e
        | 2, 1 => simp at e
        | 2, 2 => rfl)
/- ---- Valid ---- -/
open Classical in
noncomputable def worldsR (up : List (List Int)) (val : List (List ByteArray)) (xs : List Nd) (i : Int) : List Nat × Int :=
  if ¬ WF up val then ([], 170) else if hasN xs.length i = false then ([], 31) else (onL up val xs i.toNat, 0)
theorem worldsR_ok (P : PRd h t xs) (G : GoodT xs) (hx : xs.length ≤ 1024) (ht : sc t = true) (S : Small up val) (hU : Intss mU up) (hV : Strss mV val) (i : Int)
    (hk : ∀ v, Ints v (natI (worldsR up val xs i).1) → K (.tuple [v, .int .i64 (worldsR up val xs i).2]) h) : ACalls prog 31 [t, .agg [mU, mV], .int .i64 i] h K := by
  unfold worldsR at hk
  refine worldsF_ok P G hx ht S hU hV i (fun hW => ?_) (fun W hh => ?_) (fun W j e hj v hv => ?_)
  · rw [if_pos hW] at hk
    exact hk _ (.nil 1)
  · rw [if_neg (fun e => e W), if_pos hh] at hk
    exact hk _ (.nil 1)
  · subst e
    rw [if_neg (fun e => e W), if_neg (by rw [hasN_iff.2 ⟨by omega, by omega⟩]; simp), Int.toNat_natCast] at hk
    exact hk _ hv
noncomputable def validR (up : List (List Int)) (val : List (List ByteArray)) (xs : List Nd) (i : Int) : Bool × Int :=
  (decide ((worldsR up val xs i).2 = 0) && decide ((worldsR up val xs i).1.length = up.length), (worldsR up val xs i).2)
theorem validF_ok (P : PRd h t xs) (G : GoodT xs) (hx : xs.length ≤ 1024) (ht : sc t = true) (S : Small up val) (hU : Intss mU up) (hV : Strss mV val) (i : Int)
    (hk : K (.tuple [.bool (validR up val xs i).1, .int .i64 (validR up val xs i).2]) h) : ACalls prog 22 [t, .agg [mU, mV], .int .i64 i] h K := by
  refine s22_ok ?_
  unfold s22
  unfold validR at hk
  refine callG_of (worldsR_ok P G hx ht S hU hV i fun v hv => ?_)
  rw [tTup_tuple, tCons_cons, tCons_cons, tInt_int, tNil_nil]
  by_cases h0 : (worldsR up val xs i).2 = 0
  · refine ifT_pos (by rw [h0]; rfl) ?_
    rw [hv.len, hU.len]
    rw [decide_eq_true h0, Bool.true_and] at hk
    refine retG_of ?_
    have e : (((natI (worldsR up val xs i).1).length : Int) == (up.length : Int)) = decide ((worldsR up val xs i).1.length = up.length) := by
      rw [Bool.eq_iff_iff]
      simp only [natI, List.length_map, beq_iff_eq, decide_eq_true_eq]
      omega
    rw [e]
    exact hk
  · rw [decide_eq_false h0, Bool.false_and] at hk
    exact ifT_neg (by simpa using h0) (retG_of hk)
end Go.Proofs.YtaopdcjjcpgebaaGreatDoor

namespace Go.Proofs.YtaopdcjjcpgebaaGreatDoor
open Go Go.Sym Go.Proofs.Tryz
open Go.ChangeShapes Go.WideShapes Go.ChangeAt Go.RowKit
set_option linter.unusedVariables false
set_option maxRecDepth 4000
theorem caSeq : prog.cellsOf 31 = 17 := by kernel_rfl
theorem caBits : prog.cellsOf 29 = 16 := by kernel_rfl
theorem caWord : prog.cellsOf 27 = 1 := by kernel_rfl
theorem shV_word {B n : Nat} {x : AVal} (h : ShV prog B n 27 [x]) : ∃ b : BitVec 64, x = wV b := by
  cases n with
  | zero => exact h.elim
  | succ n =>
    simp only [ShV, underlying27] at h
    obtain ⟨b, e, hw⟩ := h
    obtain rfl : x = .int .u64 b := by simpa using e
    have hb : 0 ≤ b ∧ b < 18446744073709551616 := by
      simp only [Lit.wf, Bool.and_eq_true, decide_eq_true_eq] at hw
      have m1 : IntKind.u64.min = 0 := by decide
      have m2 : IntKind.u64.max = 18446744073709551615 := by decide
      omega
    obtain ⟨k, rfl⟩ := Int.eq_ofNat_of_zero_le hb.1
    refine ⟨BitVec.ofNat 64 k, ?_⟩
    unfold wV
    rw [BitVec.toNat_ofNat, Nat.mod_eq_of_lt (by omega)]
theorem shV_bits {B n : Nat} {l : List AVal} (h : ShV prog B n 29 l) : ∃ ws : List (BitVec 64), ws.length = 16 ∧ l = ws.map wV := by
  cases n with
  | zero => exact h.elim
  | succ n =>
    simp only [ShV, underlying29, caWord] at h
    obtain ⟨hl, hf⟩ := h
    have each : ∀ v ∈ l, ∃ b : BitVec 64, (fun (x : AVal) (b : BitVec 64) => x = wV b) v b ∧ True := fun v hv => by
      obtain ⟨i, hi, rfl⟩ := List.getElem_of_mem hv
      have := hf i (by omega)
      rw [Nat.mul_one, List.drop_eq_getElem_cons hi] at this
      obtain ⟨b, hb⟩ := shV_word this
      exact ⟨b, hb, trivial⟩
    obtain ⟨bs, h1, _⟩ := all2_of each
    have e := all2_map (f := wV) h1
    exact ⟨bs, by rw [← h1.length]; omega, e⟩
theorem shV_seq {B n : Nat} {l : List AVal} (h : ShV prog B n 31 l) : ∃ (ws : List (BitVec 64)) (g : Int), ws.length = 16 ∧ l = ws.map wV ++ [.int .i64 g] := by
  cases n with
  | zero => exact h.elim
  | succ n =>
    simp only [ShV, underlying31, caSeq] at h
    obtain ⟨hl, hf⟩ := h
    have f1 := hf _ (List.mem_cons_self)
    have f2 := hf _ (List.mem_cons_of_mem _ List.mem_cons_self)
    simp only [caBits, ca3] at f1 f2
    obtain ⟨ws, hw, e1⟩ := shV_bits f1
    rw [List.drop_zero] at e1
    have hlt : 16 < l.length := by omega
    have e2 : (l.drop 16).take 1 = [l[16]] := by
      rw [List.drop_eq_getElem_cons hlt]
      rfl
    rw [e2] at f2
    obtain ⟨g, hg⟩ := shV_int f2
    refine ⟨ws, g, hw, ?_⟩
    rw [← e1, ← hg, ← e2, List.take_of_length_le (l := l.drop 16) (by rw [List.length_drop]; omega), List.take_append_drop]
theorem closed_sq : closedT prog [31, 29, 27, 3] = true := by kernel_rfl
section
variable {H : Type} {enc : TypeId × Value → H} {W : World}
theorem arg_gotQ {t : TypeId} {v : Value} {d : DataW H} {ps : List MemPlace} {B : Nat} (ht : t ∈ [31, 29, 27, 3]) (h : DataW.Trod enc prog W 0 (fun _ => true) true t v d ps) (hb : Rows.uptoBulk d ≤ B) :
    ∃ n, Got prog W B n t v.cells.toList := by
  obtain ⟨n, hn⟩ := h
  exact ⟨n, trod_rel bulkOK closed_sq n t _ _ ht hn hb⟩
end
end Go.Proofs.YtaopdcjjcpgebaaGreatDoor

namespace Go.Proofs.YtaopdcjjcpgebaaGreatDoor
open Go Go.Sym Go.Proofs.Tryz
set_option maxRecDepth 100000
variable {K : AVal → Heap → Prop} {h h0 hb : Heap} {t mU mV : AVal} {up : List (List Int)} {val : List (List ByteArray)} {xs : List Nd}
noncomputable def holdsW (up : List (List Int)) (val : List (List ByteArray)) (xs : List Nd) (ws : List (BitVec 64)) (g w : Nat) : Bool := ((listW ws).any fun i => !frc up val xs i w) || frc up val xs g w
open Classical in
noncomputable def holdsR (up : List (List Int)) (val : List (List ByteArray)) (xs : List Nd) (ws : List (BitVec 64)) (g : Int) : Bool × Int :=
  if ¬ WF up val then (false, 170) else if rightS xs.length ws g = false then (false, 31) else ((List.range up.length).all (holdsW up val xs ws g.toNat), 0)
theorem range_all_false {p : Nat → Bool} {n w : Nat} (hw : w < n) (hp : p w = false) : (List.range n).all p = false := by
  rw [List.all_eq_false]
  exact ⟨w, List.mem_range.2 hw, by simp [hp]⟩
theorem range_all_true {p : Nat → Bool} {n : Nat} (hp : ∀ w, w < n → p w = true) : (List.range n).all p = true := by
  rw [List.all_eq_true]
  exact fun w hw => hp w (List.mem_range.1 hw)
theorem holdsF_l1 {r rm g : Nat} {ws : List (BitVec 64)} {u : AVal} (P : PRd h0 t xs) (G : GoodT xs) (S : Small up val) (W : WF up val) (hV : Strss mV val) (hl : ws.length = 16) (hg : g < xs.length)
    (hws : ∀ i ∈ listW ws, i < xs.length) (hu : Ints u (natI (listW ws))) (good : K (.tuple [.bool ((List.range up.length).all (holdsW up val xs ws g)), .int .i64 0]) h0) :
    ∀ d w : Nat, w + d = up.length → (∀ v, v < w → holdsW up val xs ws g v = true) → ∀ L h, EM h0 rm up val xs L [.cell r (.row 1 [eyeV t mU mV up rm])] h →
      s13l1 K (d + 1) (.lptr (ws.map wV ++ [.int .i64 (g : Int)])) (.ptr r 0 0) u (up.length : Int) (w : Int) h
  | 0, w, hd, hv, L, h, M => by
    obtain rfl : w = up.length := by omega
    unfold s13l1
    refine ifT_neg (by simp) (retG_drop M.old ?_)
    rwa [range_all_true hv] at good
  | d + 1, w, hd, hv, L, h, M => by
    have hmax := W.max
    have hw : w < up.length := by omega
    unfold s13l1
    refine ifT_pos (decide_eq_true (by omega)) (newRow_in fun r1 hr1 => ?_)
    have M1 := M.newC hr1 (.row 1 [.int .i64 0])
    refine st_elem (Heap.set_same _ _ _) rfl rfl ?_
    rw [Heap.set_set, List.set_cons_zero]
    have M2 : EM h0 rm up val xs L [.cell r (.row 1 [eyeV t mU mV up rm]), .cell r1 (.row 1 [.int .i64 (w : Int)])] (h.set r1 (.row 1 [.int .i64 (w : Int)])) := M.newC hr1 _
    have hlen := listW_len ws
    have yr : ∀ {L' h'}, EM h0 rm up val xs L' [.cell r (.row 1 [eyeV t mU mV up rm]), .cell r1 (.row 1 [.int .i64 (w : Int)])] h' → ∀ X : AVal → Prop, ld1 h' (.ptr r 0 0) X = X (eyeV t mU mV up rm) := fun M' X => ld1_one (M'.get 1 _ r rfl rfl) rfl X
    have wr : ∀ {L' h'}, EM h0 rm up val xs L' [.cell r (.row 1 [eyeV t mU mV up rm]), .cell r1 (.row 1 [.int .i64 (w : Int)])] h' → ∀ X : AVal → Prop, ld1 h' (.ptr r1 0 0) X = X (.int .i64 (w : Int)) := fun M' X => ld1_one (M'.get 2 _ r1 rfl rfl) rfl X
    generalize h.set r1 (.row 1 [.int .i64 (w : Int)]) = h1 at M2 ⊢
    have fin : ∀ L' h', EM h0 rm up val xs L' [.cell r (.row 1 [eyeV t mU mV up rm]), .cell r1 (.row 1 [.int .i64 (w : Int)])] h' → s13c2 K (s13l1_G (s13l1 K (d + 1))) (.lptr (ws.map wV ++ [.int .i64 (g : Int)])) (.ptr r 0 0) u (up.length : Int) (w : Int) (!holdsW up val xs ws g w) h' := fun L' h' M' => by
      unfold s13c2
      cases hh : holdsW up val xs ws g w with
      | false =>
        rw [range_all_false hw hh] at good
        exact ifT_pos rfl (retG_drop M'.old good)
      | true =>
        refine ifT_neg rfl (rg_of (by omega) (by omega) (s13l1_go ?_))
        refine holdsF_l1 P G S W hV hl hg hws hu good d (w + 1) (by omega) (fun v hv2 => ?_) L' h' (Own.pop (os := [_, _]) M')
        by_cases e : v = w
        · rw [e]; exact hh
        · exact hv v (by omega)
    refine callG_of (containsFIm_ok (J := fun h' => ∃ L', EM h0 rm up val xs L' [.cell r (.row 1 [eyeV t mU mV up rm]), .cell r1 (.row 1 [.int .i64 (w : Int)])] h') (p := fun s => !frc up val xs s.toNat w) hu (by simp [natI]; omega) (fun s hs h2 K2 j hk2 => ?_) ⟨L, M2⟩ fun h2 ⟨L2, M3⟩ => ?_)
    · obtain ⟨c, hc, rfl⟩ := mem_natI.1 hs
      obtain ⟨L2, M3⟩ := j
      show callG prog 49 ([] ++ [.int .i64 (c : Int)] ++ [.ptr r 0 0, .ptr r1 0 0]) h2 K2
      refine callG_of (s49_ok ?_)
      unfold s49
      rw [yr M3, wr M3, tInt_int]
      refine callG_of (forces_ok P G S hmax hV W.len c w L2 _ _ _ (hws c hc) hw M3 fun L4 h4 M4 => ?_)
      rw [tBool_bool]
      have := hk2 h4 ⟨L4, M4⟩
      rw [Int.toNat_natCast] at this
      exact retG_of this
    · rw [tBool_bool]
      have ea : ((natI (listW ws)).any fun s => !frc up val xs s.toNat w) = (listW ws).any fun i => !frc up val xs i w := by
        unfold natI
        rw [List.any_map]
        rfl
      rw [ea]
      cases ha : (listW ws).any fun i => !frc up val xs i w with
      | true =>
        refine ifT_neg rfl ?_
        have := fin L2 h2 M3
        rw [show holdsW up val xs ws g w = true by unfold holdsW; rw [ha]; rfl] at this
        exact this
      | false =>
        refine ifT_pos rfl ?_
        rw [yr M3, wr M3, tInt_int, addOff_lptr, seq_goal hl, tInt_int]
        refine callG_of (forces_ok P G S hmax hV W.len g w L2 _ _ _ hg hw M3 fun L4 h4 M4 => ?_)
        rw [tBool_bool]
        have := fin L4 h4 M4
        rw [show holdsW up val xs ws g w = frc up val xs g w by unfold holdsW; rw [ha]; rfl] at this
        exact this
theorem holdsF_ok {s : AVal} {ws : List (BitVec 64)} {g : Int} (P : PRd h t xs) (G : GoodT xs) (hx : xs.length ≤ 1024) (ht : sc t = true) (S : Small up val) (hU : Intss mU up) (hV : Strss mV val) (B : SeqV s ws g)
    (hk : K (.tuple [.bool (holdsR up val xs ws g).1, .int .i64 (holdsR up val xs ws g).2]) h) : ACalls prog 13 [t, .agg [mU, mV], s] h K := by
  refine s13_ok ?_
  unfold s13
  unfold holdsR at hk
  refine B.agg (callG_of (lookF_ok P hx ht S hU hV (fun hW => ?_) (fun W rm h' M => ?_)))
  · rw [tTup_tuple, tCons_cons, tCons_cons, tInt_int, tNil_nil]
    rw [if_pos hW] at hk
    refine newRow_in fun r hr => chk_iff.2 ⟨rfl, st_elem (Heap.set_same _ _ _) rfl rfl (ifT_pos rfl (retG_drop ?_ hk))⟩
    exact Ext.put (Ext.new hr _) hr _
  · rw [tTup_tuple, tCons_cons, tCons_cons, tInt_int, tNil_nil]
    rw [if_neg (fun e => e W)] at hk
    refine newRow_in fun r hr => chk_iff.2 ⟨rfl, st_elem (Heap.set_same _ _ _) rfl rfl (ifT_neg rfl ?_)⟩
    rw [Heap.set_set, List.set_cons_zero]
    have M1 : EM h rm up val xs [] [.cell r (.row 1 [eyeV t mU mV up rm])] (h'.set r (.row 1 [eyeV t mU mV up rm])) := M.newC hr _
    generalize h'.set r (.row 1 [eyeV t mU mV up rm]) = h1 at M1 ⊢
    rw [ldN_lptr _ _ _ _ (by simp [B.len]), List.take_of_length_le (by simp [B.len])]
    refine callG_of (seqCheck_ok (P.ext M1.old) hx ⟨rfl, B.len⟩ ?_)
    rw [tInt_int]
    cases hr2 : rightS xs.length ws g with
    | false =>
      rw [if_pos hr2] at hk
      exact ifT_pos rfl (retG_drop M1.old hk)
    | true =>
      rw [if_neg (by simp [hr2])] at hk
      obtain ⟨h1', h2, h3⟩ := (rightS_iff B.len).1 hr2
      obtain ⟨b, rfl⟩ := Int.eq_ofNat_of_zero_le h2
      refine ifT_neg rfl ?_
      rw [addOff_lptr, seq_left B.len]
      refine callG_of (bitsList_ok ⟨rfl, B.len⟩ fun u hu => ?_)
      rw [hU.len]
      rw [Int.toNat_natCast] at hk
      exact s13l1_in (up.length + 1) (holdsF_l1 P G S W hV B.len (by omega) h1' hu hk up.length 0 (by omega) (fun v hv => by omega) [] h1 M1)
end Go.Proofs.YtaopdcjjcpgebaaGreatDoor

namespace Go.Proofs.YtaopdcjjcpgebaaGreatDoor
open Go Go.Sym Go.Proofs.Tryz
theorem strLt_lt (a b : ByteArray) : strLt a b = decide (a.toList < b.toList) := bytesLess_eq _ _
theorem strLt_tr {a b c : ByteArray} (h1 : strLt a b = true) (h2 : strLt b c = true) : strLt a c = true := by
  rw [strLt_lt, decide_eq_true_eq] at *
  exact List.lt_trans h1 h2
theorem fine_pair {l : List ByteArray} (h : fineB l = true) : l.Pairwise fun a b => strLt a b = true := by
  have step : ∀ i (hi : i + 1 < l.length), strLt l[i] l[i + 1] = true := fun i hi => by
    unfold fineB at h
    rw [List.all_eq_true] at h
    have := h (i + 1) (by rw [List.mem_range']; exact ⟨i + 1, by omega, by omega⟩)
    unfold fine1 at this
    simp only [Bool.and_eq_true, Bool.or_eq_true] at this
    rcases this.2 with e | e
    · simp at e
    · simpa [List.getD, hi, show i < l.length by omega] using e
  rw [List.pairwise_iff_getElem]
  intro i j hi hj hij
  obtain ⟨d, rfl⟩ : ∃ d, j = i + 1 + d := ⟨j - i - 1, by omega⟩
  clear hij
  induction d with
  | zero => exact step i hj
  | succ d ih => exact strLt_tr (ih (by omega)) (step (i + 1 + d) hj)
end Go.Proofs.YtaopdcjjcpgebaaGreatDoor

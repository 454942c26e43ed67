/- Contracts: a rung's formula is put into a table (the program's and the document's Ladder). No condition. Contracts: the program's Ladder; a climb's error is one; NishimuraLadder over its inputs. No condition. Contracts: the program's Copy, Cut, Ladder; NishimuraLadder over its inputs. No condition. -/
import Derived.Test.YtobpfhmjdoekfaaGreatNTab
import Derived.Test.YtobpfhmjdoekfaaGreatNP

set_option linter.unusedVariables false
set_option linter.unusedSimpArgs false

namespace Go.Proofs.YtobpfhmjdoekfaaGreat
open Go Go.Sym Go.Proofs.Tryz

variable {K : AVal → Heap → Prop} {h h0 hb : Heap}

/-- the rungs from the third on: d are left -/
def lad : Nat → Bool → Int → Int → Int → List Nd → Int × Int × List Nd
  | 0, _, _, _, last, xs => (last, 0, xs)
  | d + 1, true, o, e, _, xs => if putE xs (ndTwo 4 o e) ≠ 0 then (0, putE xs (ndTwo 4 o e), putR xs (ndTwo 4 o e)) else lad d false (putI xs (ndTwo 4 o e)) o (putI xs (ndTwo 4 o e)) (putR xs (ndTwo 4 o e))
  | d + 1, false, o, e, _, xs => if putE xs (ndTwo 5 o e) ≠ 0 then (0, putE xs (ndTwo 5 o e), putR xs (ndTwo 5 o e)) else lad d true o (putI xs (ndTwo 5 o e)) (putI xs (ndTwo 5 o e)) (putR xs (ndTwo 5 o e))
theorem lad_len : ∀ (d : Nat) (p : Bool) (o e l : Int) (xs : List Nd), xs.length ≤ 1024 → (lad d p o e l xs).2.2.length ≤ 1024
  | 0, p, o, e, l, xs, h => h
  | d + 1, true, o, e, l, xs, h => by
    unfold lad
    split
    · exact putR_len h _
    · exact lad_len d _ _ _ _ _ (putR_len h _)
  | d + 1, false, o, e, l, xs, h => by
    unfold lad
    split
    · exact putR_len h _
    · exact lad_len d _ _ _ _ _ (putR_len h _)
/-- a rung's formula: number, error, rows -/
def climbV (xs : List Nd) (s : ByteArray) (k : Int) : Int × Int × List Nd :=
  if k = -1 then (if putE xs ndBot ≠ 0 then (0, putE xs ndBot, putR xs ndBot) else (putI (putR xs ndBot) (ndTwo 5 (putI xs ndBot) (putI xs ndBot)), putE (putR xs ndBot) (ndTwo 5 (putI xs ndBot) (putI xs ndBot)), putR (putR xs ndBot) (ndTwo 5 (putI xs ndBot) (putI xs ndBot))))
  else if k = 0 then (putI xs ndBot, putE xs ndBot, putR xs ndBot)
  else if k = 1 ∨ putE xs (ndAtom s) ≠ 0 then (putI xs (ndAtom s), putE xs (ndAtom s), putR xs (ndAtom s))
  else if notE (putR xs (ndAtom s)) (putI xs (ndAtom s)) ≠ 0 then (0, notE (putR xs (ndAtom s)) (putI xs (ndAtom s)), notR (putR xs (ndAtom s)) (putI xs (ndAtom s)))
  else lad (k - 2).toNat true (putI xs (ndAtom s)) (notI (putR xs (ndAtom s)) (putI xs (ndAtom s))) (notI (putR xs (ndAtom s)) (putI xs (ndAtom s))) (notR (putR xs (ndAtom s)) (putI xs (ndAtom s)))
theorem climbV_len {xs : List Nd} (h : xs.length ≤ 1024) (s : ByteArray) (k : Int) : (climbV xs s k).2.2.length ≤ 1024 := by
  unfold climbV
  split
  · split
    · exact putR_len h _
    · exact putR_len (putR_len h _) _
  · split
    · exact putR_len h _
    · split
      · exact putR_len h _
      · split
        · exact notR_len (putR_len h _) _
        · exact lad_len _ _ _ _ _ _ (notR_len (putR_len h _) _)

theorem Own.drop1 {A R : List Ow} {x : Ow} (W : Own hb (A ++ ([x] ++ R)) h) : Own hb (A ++ R) h := by
  refine W.renum _ (fun j => if j < A.length then j else j + 1) (fun j y hj => ?_) (fun j _ k _ e => ?_)
  · by_cases h1 : j < A.length
    · rw [if_pos h1]
      rw [List.getElem?_append_left h1] at hj ⊢
      exact hj
    · rw [if_neg h1]
      rw [List.getElem?_append_right (by omega)] at hj
      rw [List.getElem?_append_right (by omega), show j + 1 - A.length = (j - A.length) + 1 by omega]
      exact hj
  · split at e <;> split at e <;> omega
theorem PP.drop1 {rt : Nat} {xs : List Nd} {R : List Ow} {x : Ow} (W : PP hb rt xs ([x] ++ R) h) : PP hb rt xs R h := by
  obtain ⟨vN, q, O⟩ := W
  exact ⟨vN, q, Own.drop1 O⟩

/- ---- the document ---- -/
theorem rungT_l3 {rt : Nat} {R : List Ow} {k : Int} (hk5 : k ≤ 100000) (I E : Int) (Y : List Nd) (hk : ∀ i h', (E = 0 → i = I) → DD hb rt Y R h' → retG (.tuple [.int .i64 i, .int .i64 E]) h' K) :
    ∀ (d : Nat) (p : Bool) (o e l i : Int) (xs : List Nd) (h : Heap), i + d = k → 3 ≤ i → (p = true ↔ i % 2 = 1) → xs.length ≤ 1024 → lad (d + 1) p o e l xs = (I, E, Y) → DD hb rt xs R h → s30l3 K (d + 1) (.ptr rt 0 0) k o e i h := by
  intro d
  induction d with
  | zero =>
    intro p o e l i xs h hd hi hp hx hv W
    unfold s30l3
    refine ifT_pos (by simp; omega) ⟨by decide, ?_⟩
    rw [Int.tmod_eq_emod_of_nonneg (by omega)]
    have fin : ∀ (y : Nd) (o2 e2 : Int) (h' : Heap), lad 1 p o e l xs = (if putE xs y ≠ 0 then (0, putE xs y, putR xs y) else (putI xs y, 0, putR xs y)) → DD hb rt (putR xs y) R h' →
        s30c4 K (s30l3_G (s30l3 K 0)) (.ptr rt 0 0) k (putE xs y) o2 e2 i (putI xs y) h' := by
      intro y o2 e2 h' hl W'
      rw [hv] at hl
      unfold s30c4
      unfold s30c5
      by_cases e0 : putE xs y = 0
      · rw [if_neg (fun h => h e0)] at hl
        cases hl
        refine ifT_neg (by simpa using e0) (ifT_pos (by simp; omega) ?_)
        rw [e0]
        exact hk _ h' (fun _ => rfl) W'
      · rw [if_pos e0] at hl
        cases hl
        exact ifT_pos (by simpa using e0) (ifT_pos rfl (hk _ h' (fun e => absurd e e0) W'))
    cases p with
    | true =>
      refine ifT_pos (by simpa using hp.1 rfl) (callG_of (twoT_ok W hx 4 o e fun h' W' => ?_))
      rw [tTup_tuple, tCons_cons, tInt_int, tCons_cons, tInt_int, tNil_nil]
      exact fin (ndTwo 4 o e) _ _ h' rfl W'
    | false =>
      have hp2 : ¬ i % 2 = 1 := fun h => by have := hp.2 h; cases this
      refine ifT_neg (by simpa using hp2) (callG_of (impT3_ok W hx o e fun h' W' => ?_))
      rw [tTup_tuple, tCons_cons, tInt_int, tCons_cons, tInt_int, tNil_nil]
      exact fin (ndTwo 5 o e) _ _ h' rfl W'
  | succ d ih =>
    intro p o e l i xs h hd hi hp hx hv W
    unfold s30l3
    refine ifT_pos (by simp; omega) ⟨by decide, ?_⟩
    rw [Int.tmod_eq_emod_of_nonneg (by omega)]
    have fin : ∀ (y : Nd) (o2 e2 : Int) (h' : Heap), lad (d + 2) p o e l xs = (if putE xs y ≠ 0 then (0, putE xs y, putR xs y) else lad (d + 1) (!p) o2 e2 (putI xs y) (putR xs y)) → DD hb rt (putR xs y) R h' →
        s30c4 K (s30l3_G (s30l3 K (d + 1))) (.ptr rt 0 0) k (putE xs y) o2 e2 i (putI xs y) h' := by
      intro y o2 e2 h' hl W'
      rw [hv] at hl
      unfold s30c4
      unfold s30c5
      by_cases e0 : putE xs y = 0
      · rw [if_neg (fun h => h e0)] at hl
        refine ifT_neg (by simpa using e0) (ifT_neg (by simp; omega) (rg_of (by omega) (by omega) (s30l3_go ?_)))
        refine ih (!p) o2 e2 (putI xs y) (i + 1) (putR xs y) h' (by omega) (by omega) ?_ (putR_len hx _) hl.symm W'
        cases p with
        | true => simp only [Bool.not_true, Bool.false_eq_true, false_iff]; have := hp.1 rfl; omega
        | false =>
          have hp2 : ¬ i % 2 = 1 := fun h => by have := hp.2 h; cases this
          simp only [Bool.not_false, true_iff]; omega
      · rw [if_pos e0] at hl
        cases hl
        exact ifT_pos (by simpa using e0) (ifT_pos rfl (hk _ h' (fun e => absurd e e0) W'))
    cases p with
    | true =>
      refine ifT_pos (by simpa using hp.1 rfl) (callG_of (twoT_ok W hx 4 o e fun h' W' => ?_))
      rw [tTup_tuple, tCons_cons, tInt_int, tCons_cons, tInt_int, tNil_nil]
      exact fin (ndTwo 4 o e) _ _ h' rfl W'
    | false =>
      have hp2 : ¬ i % 2 = 1 := fun h => by have := hp.2 h; cases this
      refine ifT_neg (by simpa using hp2) (callG_of (impT3_ok W hx o e fun h' W' => ?_))
      rw [tTup_tuple, tCons_cons, tInt_int, tCons_cons, tInt_int, tNil_nil]
      exact fin (ndTwo 5 o e) _ _ h' rfl W'
/-- what the document's climbing leaves: a number and its error -/
theorem rungT_ok {rt : Nat} {xs : List Nd} {R : List Ow} (W : DD hb rt xs R h) (hx : xs.length ≤ 1024) (s : ByteArray) {k : Int} (h1 : -1 ≤ k) (h2 : k ≤ 4096)
    (hk : ∀ i h', ((climbV xs s k).2.1 = 0 → i = (climbV xs s k).1) → DD hb rt (climbV xs s k).2.2 R h' → retG (.tuple [.int .i64 i, .int .i64 (climbV xs s k).2.1]) h' K) : ACalls prog 30 [.ptr rt 0 0, .str s, .int .i64 k] h K := by
  refine s30_ok ?_
  unfold s30
  unfold climbV at hk
  by_cases k0 : k = 0
  · subst k0
    simp only [show ¬ ((0 : Int) = -1) by decide, if_false, if_true] at hk
    refine ifT_pos rfl (callG_of (botT_ok W hx fun h' W' => ?_))
    rw [tTup_tuple, tCons_cons, tInt_int, tCons_cons, tInt_int, tNil_nil]
    exact hk _ h' (fun _ => rfl) W'
  · refine ifT_neg (by simpa using k0) ?_
    by_cases km : k = -1
    · subst km
      simp only [if_true] at hk
      refine ifT_pos rfl (callG_of (botT_ok W hx fun h' W' => ?_))
      rw [tTup_tuple, tCons_cons, tInt_int, tCons_cons, tInt_int, tNil_nil]
      by_cases e0 : putE xs ndBot = 0
      · rw [if_neg (fun h => h e0)] at hk
        refine ifT_neg (by simpa using e0) (callG_of (impT3_ok W' (putR_len hx _) _ _ fun h2 W2 => ?_))
        rw [tTup_tuple, tCons_cons, tInt_int, tCons_cons, tInt_int, tNil_nil]
        exact hk _ h2 (fun _ => rfl) W2
      · rw [if_pos e0] at hk
        exact ifT_pos (by simpa using e0) (hk _ h' (fun _ => rfl) W')
    · refine ifT_neg (by simpa using km) (callG_of (atomT_ok W hx s fun h' W' => ?_))
      rw [tTup_tuple, tCons_cons, tInt_int, tCons_cons, tInt_int, tNil_nil]
      rw [if_neg km, if_neg k0] at hk
      have c1t : (k = 1 ∨ putE xs (ndAtom s) ≠ 0) → s30c1 K (.ptr rt 0 0) k (putI xs (ndAtom s)) (putE xs (ndAtom s)) true h' := fun hc => by
        rw [if_pos hc] at hk
        exact ifT_pos rfl (hk _ h' (fun _ => rfl) W')
      by_cases e0 : putE xs (ndAtom s) = 0
      · refine ifT_neg (by simpa using e0) ?_
        by_cases k1 : k = 1
        · rw [show (k == 1) = true by simpa using k1]
          exact c1t (.inl k1)
        · rw [show (k == 1) = false by simpa using k1]
          rw [if_neg (show ¬ (k = 1 ∨ putE xs (ndAtom s) ≠ 0) from fun h => h.elim k1 (fun h => h e0))] at hk
          refine ifT_neg rfl (callG_of (notT_ok W' (putR_len hx _) _ fun hh2 W2 => ?_))
          rw [tTup_tuple, tCons_cons, tInt_int, tCons_cons, tInt_int, tNil_nil]
          by_cases e1 : notE (putR xs (ndAtom s)) (putI xs (ndAtom s)) = 0
          · rw [if_neg (fun h => h e1)] at hk
            refine ifT_neg (by simpa using e1) ?_
            by_cases k2 : k = 2
            · rw [show (k == 2) = true by simpa using k2]
              subst k2
              rw [show ((2 : Int) - 2).toNat = 0 from rfl] at hk
              unfold lad at hk
              refine ifT_pos rfl ?_
              rw [e1]
              exact hk _ hh2 (fun _ => rfl) W2
            · rw [show (k == 2) = false by simpa using k2]
              refine ifT_neg rfl (s30l3_in ((k - 3).toNat + 1) (rungT_l3 (k := k) (by omega) _ _ _ hk (k - 3).toNat true _ _ (notI (putR xs (ndAtom s)) (putI xs (ndAtom s))) 3 _ hh2 (by omega) (by omega) (by simp) (notR_len (putR_len hx _) _) ?_ W2))
              rw [show (k - 3).toNat + 1 = (k - 2).toNat by omega]
          · rw [if_pos e1] at hk
            exact ifT_pos (by simpa using e1) (ifT_pos rfl (hk _ hh2 (fun e => absurd e e1) W2))
      · exact ifT_pos (by simpa using e0) (c1t (.inr e0))

/-- a document's table, in whatever things -/
def DL (rd : Nat) (ys : List Nd) (B : List Ow) : Prop := ∀ hb h R, Own hb (B ++ R) h → DRd h (.ptr rd 0 0) ys
theorem retG_g {v : AVal} {h h' : Heap} {S : Nat → Prop} (g : Go.Sym.GStep h h' S) (hk : K v h') : retG v h K := ⟨S, v, h', .refl v, g, hk⟩
theorem dd_freeze {rd : Nat} {ys : List Nd} {R : List Ow} (W : DD hb rd ys R h) : ∃ S h' v', Go.Sym.GStep h h' S ∧ Nodes v' ys ∧ Own hb ([.cell rd (.row 1 [.agg [v']])] ++ R) h' := by
  obtain ⟨vM, O⟩ := W
  have O2 : Own hb (([.cell rd (.row 1 [.agg [vM]])] ++ R) ++ [.slc 4 vM (ys.map nodeV)]) h := by
    have := Own.rot (A := [.slc 4 vM (ys.map nodeV)]) (B := [.cell rd (.row 1 [.agg [vM]])] ++ R) (R := []) (by rw [List.append_nil]; exact O)
    rwa [List.append_nil] at this
  have hl : ((([.cell rd (.row 1 [.agg [vM]])] ++ R) : List Ow) ++ [Ow.slc 4 vM (ys.map nodeV)])[([.cell rd (.row 1 [.agg [vM]])] ++ R : List Ow).length]? = some (.slc 4 vM (ys.map nodeV)) := by simp
  obtain ⟨v', lv, sv⟩ := O2.lit hl (S := nameOf vM) (fun _ h => h) (Lits.refl _)
  have no : ∀ (j : Nat) (y : Ow), j < ([.cell rd (.row 1 [.agg [vM]])] ++ R : List Ow).length → ((([.cell rd (.row 1 [.agg [vM]])] ++ R) : List Ow) ++ [Ow.slc 4 vM (ys.map nodeV)])[j]? = some y → ∀ n, y.nm n → ¬ nameOf vM n := fun j y hj hy n hn hm => by
    have := O2.one j _ y _ n hy hl hn hm
    omega
  obtain ⟨h', g, W'⟩ := O2.step (nameOf vM) ([.cell rd (.row 1 [.agg [v']])] ++ R) (fun n hn => O2.new _ _ n hl hn) (fun j y' hj => by
    have hj2 := (List.getElem?_eq_some_iff.1 hj).1
    match j, hj with
    | 0, hj =>
      cases hj
      exact ⟨.cell rd (.row 1 [.agg [vM]]), rfl, trivial, fun n hn => ⟨hn, no 0 _ (by simp) rfl n hn⟩, .row (.cons (.agg (.cons lv .nil)) .nil)⟩
    | j + 1, hj =>
      have hj' : ((([.cell rd (.row 1 [.agg [vM]])] ++ R) : List Ow) ++ [Ow.slc 4 vM (ys.map nodeV)])[j + 1]? = some y' := by
        rw [List.getElem?_append_left (by simpa using hj2)]
        exact hj
      exact ⟨y', hj', O2.fit _ _ hj', fun n hn => ⟨hn, no _ _ (by simpa using hj2) hj' n hn⟩, .refl _⟩)
  exact ⟨_, h', v', g, sv, W'⟩
theorem cutT_ok {rd n : Nat} {ys : List Nd} {R : List Ow} {v : AVal} (hv : Nodes v ys) (O : Own hb ([.cell rd (.row 1 [.agg [v]])] ++ R) h) (hn : n ≤ ys.length) (hl : ys.length ≤ 1048576)
    (hk : ∀ v' h', Nodes v' (ys.take n) → Own hb ([.cell rd (.row 1 [.agg [v']])] ++ R) h' → K (.int .i64 0) h') : ACalls prog 31 [.ptr rd 0 0, .int .i64 n] h K := by
  refine s31_ok ?_
  unfold s31
  have rc := O.get 0 _ rd rfl rfl
  refine ifT_neg (by simp) ?_
  rw [nilCheck_ptr, addOff_ptr, ld1_fld rc rfl, hv.len]
  unfold s31c1
  refine ifT_neg (by simp; omega) ?_
  rw [nilCheck_ptr, addOff_ptr, ld1_fld rc rfl]
  have fin : ∀ v', Nodes v' (ys.take n) → sc v' = true → nilCheckA (.ptr rd 0 0) fun p2 => addOff p2 0 fun p3 => chk (sc v') (st true h p3 [v'] fun h_ => retG (.int .i64 0) h_ K) := fun v' hv' hs => by
    rw [nilCheck_ptr, addOff_ptr]
    refine chk_iff.2 ⟨hs, st_fld rc (by simp) (retG_of (hk v' _ hv' (O.put (i := 0) rfl (.row 1 [.agg [v']])))) ⟩
  rcases hv with rfl | ⟨rfl, e⟩
  · unfold slM
    refine chk_iff.2 ⟨rfl, ⟨by omega, by omega, by omega, by simpa using hn⟩, fin _ ?_ rfl⟩
    unfold Nodes
    simp only [Int.toNat_zero, List.drop_zero, Int.toNat_natCast, Nat.sub_zero]
    rw [List.map_take]
    exact .inl rfl
  · have : ys = [] := List.map_eq_nil_iff.1 e
    subst this
    obtain rfl : n = 0 := by simpa using hn
    exact ⟨⟨rfl, rfl, rfl⟩, fin _ (.nil 4) rfl⟩
/-- rung: error 30 or none -/
def ladE (xs : List Nd) (s : ByteArray) (k : Int) : Int := (climbV xs s k).2.1
theorem ladderT_ok {rd : Nat} {ys : List Nd} {R : List Ow} (W : DD hb rd ys R h) (hx : ys.length ≤ 1024) (s : ByteArray) (k : Int) (hpre : wordB s = true → ys <+: (climbV ys s k).2.2)
    (bad : wordB s = false → K (.tuple [.int .i64 0, .int .i64 32]) h) (arg : wordB s = true → ¬ (-1 ≤ k ∧ k ≤ 4096) → K (.tuple [.int .i64 0, .int .i64 2]) h)
    (err : wordB s = true → -1 ≤ k → k ≤ 4096 → (climbV ys s k).2.1 ≠ 0 → ∀ B h', DL rd ys B → Own hb (B ++ R) h' → K (.tuple [.int .i64 0, .int .i64 30]) h')
    (good : wordB s = true → -1 ≤ k → k ≤ 4096 → (climbV ys s k).2.1 = 0 → ∀ B h', DL rd (climbV ys s k).2.2 B → Own hb (B ++ R) h' → K (.tuple [.int .i64 (climbV ys s k).1, .int .i64 0]) h') :
    ACalls prog 8 [.ptr rd 0 0, .str s, .int .i64 k] h K := by
  refine s8_ok ?_
  unfold s8
  refine callG_of (word3_ok s ?_)
  rw [tBool_bool]
  cases hw : wordB s with
  | false => exact ifT_pos rfl (retG_of (bad hw))
  | true =>
    refine ifT_neg rfl (callG_of (is_ok k ?_))
    rw [tBool_bool, ofK_rK]
    by_cases hr : -1 ≤ k ∧ k ≤ 4096
    · rw [if_pos hr]
      refine ifT_neg rfl ?_
      obtain ⟨vM, hl, hld⟩ := W.drd.ld
      rw [hld, hl.len]
      have hlen := climbV_len hx s k
      refine callG_of (rungT_ok W hx s hr.1 hr.2 fun i h' hi W' => ?_)
      by_cases e0 : (climbV ys s k).2.1 = 0
      · refine retG_of ?_
        rw [tTup_tuple, tCons_cons, tInt_int, tCons_cons, tInt_int, tNil_nil, hi e0, e0]
        obtain ⟨vM', O⟩ := W'
        exact ifT_neg rfl (retG_of (good hw hr.1 hr.2 e0 _ h' (fun hb h R O => DD.drd ⟨vM', O⟩) O))
      · obtain ⟨S, h2, v', g, hv', O⟩ := dd_freeze W'
        refine retG_g g ?_
        rw [tTup_tuple, tCons_cons, tInt_int, tCons_cons, tInt_int, tNil_nil]
        have hle : ys.length ≤ (climbV ys s k).2.2.length := (hpre hw).length_le
        refine ifT_pos (by simpa using e0) (callG_of (cutT_ok hv' O hle (by omega) fun v2 h3 hv2 O3 => ?_))
        rw [tInt_int]
        refine retG_of (err hw hr.1 hr.2 e0 _ h3 (fun hb h R O => ?_) O3)
        rw [← List.prefix_iff_eq_take.1 (hpre hw)] at hv2
        exact ⟨rd, v2, rfl, O.get 0 _ rd rfl rfl, .inr (.inr hv2)⟩
    · rw [if_neg hr]
      exact ifT_pos rfl (retG_of (arg hw hr))
end Go.Proofs.YtobpfhmjdoekfaaGreat

namespace Go.Proofs.YtobpfhmjdoekfaaGreat
open Go Go.Sym Go.Proofs.Tryz

variable {K : AVal → Heap → Prop} {h h0 hb : Heap}

/- ---- plain ---- -/
theorem put_pre (xs : List Nd) (y : Nd) : xs <+: putR xs y := by
  unfold putR
  split
  · exact List.prefix_refl _
  · split
    · exact List.prefix_refl _
    · split
      · exact List.prefix_refl _
      · exact List.prefix_append _ _
/-- a row that fits is put in, or there is no room -/
theorem put_30 {xs : List Nd} {y : Nd} (hf : fitE xs.length y = 0) : (putE xs y = 30) ∨ (putE xs y = 0 ∧ hasN (putR xs y).length (putI xs y) = true) := by
  have hp : ¬ fitE xs.length y ≠ 0 := fun h => h hf
  unfold putE putI putR
  rw [if_neg hp, if_neg hp, if_neg hp]
  cases h : ndIx y xs with
  | some i =>
    have := (List.getElem?_eq_some_iff.1 (ndIx_some h)).1
    exact .inr ⟨rfl, hasN_iff.2 ⟨by simp, by simpa using this⟩⟩
  | none =>
    simp only
    by_cases hl : 1024 ≤ xs.length
    · rw [if_pos hl]; exact .inl rfl
    · rw [if_neg hl, if_neg hl, if_neg hl]
      exact .inr ⟨rfl, hasN_iff.2 ⟨by simp, by simp only [List.length_append, List.length_singleton]; omega⟩⟩
theorem hasN_mono {m n : Nat} (h : m ≤ n) {i : Int} (hi : hasN m i = true) : hasN n i = true := by
  rw [hasN_iff] at hi ⊢
  omega
theorem fit_two {n : Nat} {k a b : Int} (hk : k = 3 ∨ k = 4 ∨ k = 5) (ha : hasN n a = true) (hb : hasN n b = true) : fitE n (ndTwo k a b) = 0 := by
  unfold fitE ndTwo
  simp only
  rw [if_neg (by omega), if_neg (by omega), if_pos hk, if_pos ⟨by rw [strEq_dec]; simp, ha, hb⟩]
theorem fit_bot (n : Nat) : fitE n ndBot = 0 := by
  show (if (2 : Int) = 1 then _ else if (2 : Int) = 2 then (if ndB ndBot ndBot = true then (0 : Int) else 31) else _) = 0
  rw [if_neg (by decide), if_pos rfl, if_pos (ndB_self _)]
theorem fit_atom (n : Nat) {s : ByteArray} (hs : wordB s = true) : fitE n (ndAtom s) = 0 := by
  show (if (1 : Int) = 1 then (if (0 : Int) = 0 ∧ (0 : Int) = 0 then (if wordB s = true then (0 : Int) else 32) else 31) else _) = 0
  rw [if_pos rfl, if_pos ⟨rfl, rfl⟩, if_pos hs]
theorem lad_ok : ∀ (d : Nat) (p : Bool) (o e l : Int) (xs : List Nd), hasN xs.length o = true → hasN xs.length e = true → ((lad d p o e l xs).2.1 = 0 ∨ (lad d p o e l xs).2.1 = 30) ∧ xs <+: (lad d p o e l xs).2.2
  | 0, p, o, e, l, xs, _, _ => ⟨.inl rfl, List.prefix_refl _⟩
  | d + 1, true, o, e, l, xs, ho, he => by
    unfold lad
    rcases put_30 (fit_two (k := 4) (by omega) ho he) with h1 | ⟨h1, h2⟩
    · rw [if_pos (by rw [h1]; decide)]
      exact ⟨.inr h1, put_pre _ _⟩
    · rw [if_neg (fun h => h h1)]
      have hp := put_pre xs (ndTwo 4 o e)
      have := lad_ok d false (putI xs (ndTwo 4 o e)) o (putI xs (ndTwo 4 o e)) (putR xs (ndTwo 4 o e)) h2 (hasN_mono hp.length_le ho)
      exact ⟨this.1, hp.trans this.2⟩
  | d + 1, false, o, e, l, xs, ho, he => by
    unfold lad
    rcases put_30 (fit_two (k := 5) (by omega) ho he) with h1 | ⟨h1, h2⟩
    · rw [if_pos (by rw [h1]; decide)]
      exact ⟨.inr h1, put_pre _ _⟩
    · rw [if_neg (fun h => h h1)]
      have hp := put_pre xs (ndTwo 5 o e)
      have := lad_ok d true o (putI xs (ndTwo 5 o e)) (putI xs (ndTwo 5 o e)) (putR xs (ndTwo 5 o e)) (hasN_mono hp.length_le ho) h2
      exact ⟨this.1, hp.trans this.2⟩
theorem not_ok {xs : List Nd} {a : Int} (ha : hasN xs.length a = true) : (notE xs a = 30 ∨ (notE xs a = 0 ∧ hasN (notR xs a).length (notI xs a) = true)) ∧ xs <+: notR xs a := by
  unfold notE notR notI
  rw [if_pos ha, if_pos ha, if_pos ha]
  rcases put_30 (fit_bot xs.length) with h1 | ⟨h1, h2⟩
  · rw [if_pos (by rw [h1]; decide), if_pos (by rw [h1]; decide), if_pos (by rw [h1]; decide)]
    exact ⟨.inl h1, put_pre _ _⟩
  · rw [if_neg (fun h => h h1), if_neg (fun h => h h1), if_neg (fun h => h h1)]
    have hp := put_pre xs ndBot
    exact ⟨put_30 (fit_two (by omega) (hasN_mono hp.length_le ha) h2), hp.trans (put_pre _ _)⟩
theorem climb_ok {xs : List Nd} {s : ByteArray} (hs : wordB s = true) (k : Int) : ((climbV xs s k).2.1 = 0 ∨ (climbV xs s k).2.1 = 30) ∧ xs <+: (climbV xs s k).2.2 := by
  have hb := put_30 (fit_bot xs.length)
  have ha := put_30 (fit_atom xs.length hs)
  unfold climbV
  split
  · split
    · rename_i h
      exact ⟨.inr (hb.resolve_right fun x => h x.1), put_pre _ _⟩
    · rename_i h
      have h2 := (hb.resolve_left fun x => h (by rw [x]; decide)).2
      exact ⟨(put_30 (fit_two (k := 5) (by omega) h2 h2)).elim .inr fun x => .inl x.1, (put_pre _ _).trans (put_pre _ _)⟩
  · split
    · exact ⟨hb.elim .inr fun x => .inl x.1, put_pre _ _⟩
    · split
      · exact ⟨ha.elim .inr fun x => .inl x.1, put_pre _ _⟩
      · rename_i h
        have h2 := (ha.resolve_left fun x => h (.inr (by rw [x]; decide))).2
        have hn := not_ok h2
        split
        · rename_i h3
          exact ⟨.inr (hn.1.resolve_right fun x => h3 x.1), (put_pre _ _).trans hn.2⟩
        · rename_i h3
          have h4 := (hn.1.resolve_left fun x => h3 (by rw [x]; decide)).2
          have := lad_ok (k - 2).toNat true (putI xs (ndAtom s)) (notI (putR xs (ndAtom s)) (putI xs (ndAtom s))) (notI (putR xs (ndAtom s)) (putI xs (ndAtom s))) (notR (putR xs (ndAtom s)) (putI xs (ndAtom s))) (hasN_mono hn.2.length_le h2) h4
          exact ⟨this.1, ((put_pre _ _).trans hn.2).trans this.2⟩

/- ---- the program's climb ---- -/
def LadL (p : Bool) (o e last : Int) (l : List Int) : Prop := l[l.length - 1]? = some last ∧ 3 ≤ l.length ∧ (if p = true then l[l.length - 2]? = some o ∧ l[l.length - 1]? = some e else l[l.length - 1]? = some o ∧ l[l.length - 3]? = some e)
theorem LadL.odd {o e last x : Int} {l : List Int} (L : LadL true o e last l) : LadL false x o x (l ++ [x]) := by
  obtain ⟨h1, h2, h3⟩ := L
  simp only [if_true] at h3
  refine ⟨by simp, by simp; omega, ?_⟩
  simp only [Bool.false_eq_true, if_false, List.length_append, List.length_singleton]
  refine ⟨by simp, ?_⟩
  rw [List.getElem?_append_left (by omega), show l.length + 1 - 3 = l.length - 2 by omega]
  exact h3.1
theorem LadL.even {o e last x : Int} {l : List Int} (L : LadL false o e last l) : LadL true o x x (l ++ [x]) := by
  obtain ⟨h1, h2, h3⟩ := L
  simp only [Bool.false_eq_true, if_false] at h3
  refine ⟨by simp, by simp; omega, ?_⟩
  simp only [if_true, List.length_append, List.length_singleton]
  refine ⟨?_, by simp⟩
  rw [List.getElem?_append_left (by omega), show l.length + 1 - 2 = l.length - 1 by omega]
  exact h3.1
theorem own_ix {os : List Ow} {i : Nat} {v : AVal} {l : List Int} (O : Own hb os h) (hi : os[i]? = some (.slc 1 v (l.map (.int .i64)))) {j : Nat} {x : Int} (hj : l[j]? = some x) {K : AVal → Prop} (hk : K (.int .i64 x)) : ixS 1 v (j : Int) fun p => ld1 h p K := by
  have hlt := (List.getElem?_eq_some_iff.1 hj).1
  rcases O.fit i _ hi with ⟨rfl, e⟩ | ⟨r, rfl⟩
  · rw [List.map_eq_nil_iff.1 e] at hlt; simp at hlt
  · refine ixS_sl0 (by simpa using hlt) ?_
    rw [ld1_ptr (O.get i _ r hi rfl) (e := .int .i64 x) (by rw [List.getElem?_map, hj]; rfl) rfl]
    exact hk
theorem climbP_l3 {rt : Nat} {R : List Ow} {k : Int} (hk5 : k ≤ 100000) (I E : Int) (Y : List Nd) (hk : ∀ i h', (E = 0 → i = I) → PP hb rt Y R h' → K (.tuple [.int .i64 i, .int .i64 E]) h') :
    ∀ (d : Nat) (p : Bool) (o e last : Int) (l : List Int) (xs : List Nd) (v : AVal) (h : Heap), (l.length : Int) + d = k + 1 → (p = true ↔ l.length % 2 = 1) → LadL p o e last l → xs.length ≤ 1024 → lad d p o e last xs = (I, E, Y) → PP hb rt xs ([.slc 1 v (l.map (.int .i64))] ++ R) h →
      s26l3 K (d + 2) (.ptr rt 0 0) k 0 v h := by
  intro d
  induction d with
  | zero =>
    intro p o e last l xs v h hd hp L hx hv W
    cases hv
    have W' := PP.drop1 W
    obtain ⟨vN, q, O⟩ := W
    unfold s26l3
    refine ifT_pos rfl ?_
    rw [O.len (i := 3) rfl, List.length_map]
    refine ifT_pos (by simp; omega) ?_
    unfold s26c2
    refine ifT_neg rfl ?_
    have hkk : k = ((l.length - 1 : Nat) : Int) := by have := L.2.1; omega
    rw [hkk]
    refine own_ix O (i := 3) rfl L.1 ?_
    rw [tInt_int]
    exact retG_of (hk _ h (fun _ => rfl) W')
  | succ d ih =>
    intro p o e last l xs v h hd hp L hx hv W
    have h3 := L.2.1
    unfold s26l3
    refine ifT_pos rfl ?_
    obtain ⟨vN, q, O⟩ := W
    rw [O.len (i := 3) rfl, List.length_map]
    refine ifT_neg (by simp; omega) ⟨by decide, ?_⟩
    rw [Int.tmod_eq_emod_of_nonneg (by omega)]
    have fin : ∀ (y : Nd) (p2 : Bool) (o2 e2 : Int) (h' : Heap), (p2 = true ↔ ¬ l.length % 2 = 1) → LadL p2 o2 e2 (putI xs y) (l ++ [putI xs y]) → lad (d + 1) p o e last xs = (if putE xs y ≠ 0 then (0, putE xs y, putR xs y) else lad d p2 o2 e2 (putI xs y) (putR xs y)) →
        PP hb rt (putR xs y) ([.slc 1 v (l.map (.int .i64))] ++ R) h' → s26c4 K (s26l3_G (s26l3 K (d + 2))) (.ptr rt 0 0) k (putE xs y) v (putI xs y) h' := by
      intro y p2 o2 e2 h' hp2 L2 hl W'
      rw [hv] at hl
      obtain ⟨vN', q', O'⟩ := W'
      unfold s26c4
      refine O'.app (i := 3) rfl (by simp; omega) (by simp; omega) fun v2 h2 O2 => s26l3_go ?_
      have O3 : PP hb rt (putR xs y) ([.slc 1 v2 ((l ++ [putI xs y]).map (.int .i64))] ++ R) h2 := ⟨vN', q', by rw [List.map_append]; exact O2⟩
      by_cases e0 : putE xs y = 0
      · rw [if_neg (fun h => h e0)] at hl
        rw [e0]
        exact ih p2 o2 e2 (putI xs y) (l ++ [putI xs y]) (putR xs y) v2 h2 (by simp; omega) (by rw [hp2]; simp; omega) L2 (putR_len hx _) hl.symm O3
      · rw [if_pos e0] at hl
        cases hl
        unfold s26l3
        refine ifT_neg (by simpa using e0) ?_
        unfold s26c2
        exact ifT_pos (by simpa using e0) (retG_of (hk _ h2 (fun e => absurd e e0) (PP.drop1 O3)))
    cases p with
    | true =>
      have hp1 := hp.1 rfl
      have hL := L.2.2
      simp only [if_true] at hL
      refine ifT_pos (by simp; omega) (rg_of (by omega) (by omega) ?_)
      rw [show (l.length : Int) - 2 = ((l.length - 2 : Nat) : Int) by omega]
      refine own_ix O (i := 3) rfl hL.1 ?_
      rw [tInt_int]
      refine rg_of (by omega) (by omega) ?_
      rw [show (l.length : Int) - 1 = ((l.length - 1 : Nat) : Int) by omega]
      refine own_ix O (i := 3) rfl hL.2 ?_
      rw [tInt_int]
      refine callG_of (orP3_ok ⟨vN, q, O⟩ hx o e fun h' W' => ?_)
      rw [tTup_tuple, tCons_cons, tInt_int, tCons_cons, tInt_int, tNil_nil]
      exact fin (ndTwo 4 o e) false _ o h' (by simp [hp1]) L.odd rfl W'
    | false =>
      have hp2 : ¬ l.length % 2 = 1 := fun h => by have := hp.2 h; cases this
      have hL := L.2.2
      simp only [Bool.false_eq_true, if_false] at hL
      refine ifT_neg (by simp; omega) (rg_of (by omega) (by omega) ?_)
      rw [show (l.length : Int) - 1 = ((l.length - 1 : Nat) : Int) by omega]
      refine own_ix O (i := 3) rfl hL.1 ?_
      rw [tInt_int]
      refine rg_of (by omega) (by omega) ?_
      rw [show (l.length : Int) - 3 = ((l.length - 3 : Nat) : Int) by omega]
      refine own_ix O (i := 3) rfl hL.2 ?_
      rw [tInt_int]
      refine callG_of (impP3_ok ⟨vN, q, O⟩ hx o e fun h' W' => ?_)
      rw [tTup_tuple, tCons_cons, tInt_int, tCons_cons, tInt_int, tNil_nil]
      exact fin (ndTwo 5 o e) true o _ h' (by simp [hp2]) L.even rfl W'
theorem climbP_ok {rt : Nat} {xs : List Nd} {R : List Ow} (W : PP hb rt xs R h) (hx : xs.length ≤ 1024) (s : ByteArray) (hs : s.size ≤ 1073741824) {k : Int} (h1 : -1 ≤ k) (h2 : k ≤ 4096)
    (hk : ∀ i h', ((climbV xs s k).2.1 = 0 → i = (climbV xs s k).1) → PP hb rt (climbV xs s k).2.2 R h' → K (.tuple [.int .i64 i, .int .i64 (climbV xs s k).2.1]) h') : ACalls prog 26 [.ptr rt 0 0, .str s, .int .i64 k] h K := by
  refine s26_ok ?_
  unfold s26
  unfold climbV at hk
  by_cases km : k = -1
  · subst km
    simp only [if_true] at hk
    refine ifT_pos rfl (callG_of (botP_ok W hx fun h' W' => ?_))
    rw [tTup_tuple, tCons_cons, tInt_int, tCons_cons, tInt_int, tNil_nil]
    by_cases e0 : putE xs ndBot = 0
    · rw [if_neg (fun h => h e0)] at hk
      refine ifT_neg (by simpa using e0) (callG_of (impP3_ok W' (putR_len hx _) _ _ fun h2 W2 => ?_))
      rw [tTup_tuple, tCons_cons, tInt_int, tCons_cons, tInt_int, tNil_nil]
      exact retG_of (hk _ h2 (fun _ => rfl) W2)
    · rw [if_pos e0] at hk
      exact ifT_pos (by simpa using e0) (retG_of (hk _ h' (fun _ => rfl) W'))
  · rw [if_neg km] at hk
    refine ifT_neg (by simpa using km) ?_
    by_cases k0 : k = 0
    · subst k0
      simp only [if_true] at hk
      refine ifT_pos rfl (callG_of (botP_ok W hx fun h' W' => ?_))
      rw [tTup_tuple, tCons_cons, tInt_int, tCons_cons, tInt_int, tNil_nil]
      exact retG_of (hk _ h' (fun _ => rfl) W')
    · rw [if_neg k0] at hk
      refine ifT_neg (by simpa using k0) (callG_of (atomP_ok W hx s hs fun h' W' => ?_))
      rw [tTup_tuple, tCons_cons, tInt_int, tCons_cons, tInt_int, tNil_nil]
      have c1t : (k = 1 ∨ putE xs (ndAtom s) ≠ 0) → s26c1 K (.ptr rt 0 0) k (putI xs (ndAtom s)) (putE xs (ndAtom s)) true h' := fun hc => by
        rw [if_pos hc] at hk
        exact ifT_pos rfl (retG_of (hk _ h' (fun _ => rfl) W'))
      by_cases k1 : k = 1
      · exact ifT_pos (by simpa using k1) (c1t (.inl k1))
      · refine ifT_neg (by simpa using k1) ?_
        by_cases e0 : putE xs (ndAtom s) = 0
        · rw [show (putE xs (ndAtom s) != 0) = false by simpa using e0]
          rw [if_neg (show ¬ (k = 1 ∨ putE xs (ndAtom s) ≠ 0) from fun h => h.elim k1 (fun h => h e0))] at hk
          unfold s26c1
          refine ifT_neg rfl (callG_of (notP_ok W' (putR_len hx _) _ fun hh2 W2 => ?_))
          rw [tTup_tuple, tCons_cons, tInt_int, tCons_cons, tInt_int, tNil_nil]
          refine newRow_in fun r hr => ?_
          generalize hq : notI (putR xs (ndAtom s)) (putI xs (ndAtom s)) = nq at hk ⊢
          generalize hp : putI xs (ndAtom s) = np at hk hq ⊢
          have W3 : PP hb rt (notR (putR xs (ndAtom s)) np) ([.slc 1 (.sl r 1 0 3) (([0, np, nq] : List Int).map (.int .i64))] ++ R) (hh2.set r (.row 1 [.int .i64 0, .int .i64 np, .int .i64 nq])) := by
            rw [hp] at W2
            obtain ⟨vN, q, O⟩ := W2
            have O2 := O.newS hr (es := 1) [.int .i64 0, .int .i64 np, .int .i64 nq]
            refine ⟨vN, q, ?_⟩
            have := Own.rot (A := [.slc 4 vN ((notR (putR xs (ndAtom s)) np).map nodeV), .cell rt (.row 2 [.agg [vN, .mapr q]]), .cell q (.map (ents 0 (notR (putR xs (ndAtom s)) np)))] ++ R) (B := [.slc 1 (.sl r 1 0 3) (([0, np, nq] : List Int).map (.int .i64))]) (R := []) (by rw [List.append_nil]; exact O2)
            rw [List.append_nil] at this
            exact Own.rot (A := [.slc 1 (.sl r 1 0 3) (([0, np, nq] : List Int).map (.int .i64))]) this
          by_cases e1 : notE (putR xs (ndAtom s)) np = 0
          · rw [if_neg (fun h => h e1)] at hk
            rw [e1]
            refine s26l3_in ((k - 2).toNat + 2) (climbP_l3 (k := k) (by omega) _ _ _ hk (k - 2).toNat true np nq nq [0, np, nq] _ _ _ (by simp; omega) (by simp) ⟨rfl, by simp, by simp⟩ (notR_len (putR_len hx _) _) rfl W3)
          · rw [if_pos e1] at hk
            refine s26l3_in 1 ?_
            unfold s26l3
            refine ifT_neg (by simpa using e1) ?_
            unfold s26c2
            exact ifT_pos (by simpa using e1) (retG_of (hk _ _ (fun e => absurd e e1) (PP.drop1 W3)))
        · rw [show (putE xs (ndAtom s) != 0) = true by simpa using e0]
          exact c1t (.inr e0)
end Go.Proofs.YtobpfhmjdoekfaaGreat

namespace Go.Proofs.YtobpfhmjdoekfaaGreat
open Go Go.Sym Go.Proofs.Tryz

variable {K : AVal → Heap → Prop} {h h0 hb : Heap}

def NKeys (es : List (AVal × AVal)) : Prop := ∀ e ∈ es, ∃ x, e.1 = nodeV x
theorem findM_keys (y : Nd) : ∀ (es : List (AVal × AVal)) (p : Nat), NKeys es → ∃ r, findM (nodeV y) es p = some r
  | [], p, _ => ⟨none, rfl⟩
  | (k, v) :: es, p, hk => by
    obtain ⟨x, e⟩ := hk _ List.mem_cons_self
    dsimp only at e
    subst e
    unfold findM
    rw [keyEq_node]
    cases ndB y x with
    | true => exact ⟨_, rfl⟩
    | false => exact findM_keys y es (p + 1) fun e he => hk e (List.mem_cons_of_mem _ he)
theorem putM_keys {es : List (AVal × AVal)} (hk : NKeys es) (y : Nd) (v : AVal) : ∃ es', putM (nodeV y) v es = some es' ∧ NKeys es' := by
  obtain ⟨r, hr⟩ := findM_keys y es 0 hk
  unfold putM
  rw [hr]
  cases r with
  | none =>
    refine ⟨_, rfl, fun e he => ?_⟩
    rcases List.mem_append.1 he with he | he
    · exact hk e he
    · rw [List.mem_singleton.1 he]; exact ⟨y, rfl⟩
  | some r =>
    refine ⟨_, rfl, fun e he => ?_⟩
    rcases List.mem_or_eq_of_mem_set he with he | he
    · exact hk e he
    · rw [he]; exact ⟨y, rfl⟩
theorem ents_keys : ∀ (xs : List Nd) (s : Nat), NKeys (ents s xs)
  | [], s => fun e he => by cases he
  | x :: xs, s => fun e he => by
    rcases List.mem_cons.1 he with he | he
    · rw [he]; exact ⟨x, rfl⟩
    · exact ents_keys xs (s + 1) e he
theorem mapDel_keys {h : Heap} {q : Nat} {es : List (AVal × AVal)} (hq : h q = some (.map es)) (hk : NKeys es) (y : Nd) {K : Heap → Prop} (hK : ∀ es', NKeys es' → K (h.set q (.map es'))) : mapDel h (.mapr q) (nodeV y) K := by
  obtain ⟨r, hr⟩ := findM_keys y es 0 hk
  unfold mapDel mapDelR
  simp only [hq, hr]
  cases r with
  | none => exact hK _ hk
  | some r => exact hK _ fun e he => hk e (List.mem_of_mem_eraseIdx he)

/-- a table under way, of whatever rows -/
def PX (hb : Heap) (rc : Nat) (L : List AVal) (R : List Ow) (h : Heap) : Prop := ∃ vN q es, NKeys es ∧ Own hb ([.slc 4 vN L, .cell rc (.row 2 [.agg [vN, .mapr q]]), .cell q (.map es)] ++ R) h
theorem copyP_l1 {rc : Nat} {v : AVal} {xs : List Nd} (hv : RdN h0 v xs) (hx : xs.length ≤ 1048576) (hk : K (.ptr rc 0 0) h0) :
    ∀ d i : Nat, i + d = xs.length → ∀ L h, L.length = i → PX h0 rc L [] h → s23l1 K (d + 1) (.ptr rc 0 0) v (xs.length : Int) (i : Int) h
  | 0, i, hd, L, h, hL, W => by
    obtain ⟨vN, q, es, _, O⟩ := W
    unfold s23l1
    exact ifT_neg (by simp; omega) (retG_drop O.old hk)
  | d + 1, i, hd, L, h, hL, W => by
    have hil : i < xs.length := by omega
    obtain ⟨vN, q, es, hes, O⟩ := W
    have hv' := hv.ext O.old
    unfold s23l1
    refine ifT_pos (by simp; omega) (hv'.ix (List.getElem?_eq_getElem hil) ?_)
    rw [nodeC, tCons_cons, tInt_int, tCons_cons, tStr_str, tCons_cons, tInt_int, tCons_cons, tInt_int, tNil_nil]
    refine newRow_in fun r hr => st4 (Heap.set_same _ _ _) rfl rfl ?_
    rw [Heap.set_set]
    have O1 := O.newC hr (.row 4 [nodeV xs[i]])
    have rc1 := O1.get 1 _ rc rfl rfl
    rw [nilCheck_ptr, addOff_ptr]
    refine Eq.mpr (ld1_fld rc1 rfl _) ?_
    refine Eq.mpr (ldN_elem (n := 4) (i := 0) (cs := nodeC xs[i]) (Heap.set_same _ _ _) rfl rfl _) ?_
    rw [nodeC, tCons_cons, tInt_int, tCons_cons, tStr_str, tCons_cons, tInt_int, tCons_cons, tInt_int, tNil_nil]
    refine ⟨Eq.mpr (ld1_fld rc1 rfl _) rfl, O1.app (x := nodeV xs[i]) (i := 0) rfl (by omega) (by omega) fun v2 h2 O2 => ?_⟩
    rw [nilCheck_ptr, addOff_ptr]
    refine chk_iff.2 ⟨(O2.sc (i := 0) rfl).1, st_fld (O2.get 1 _ rc rfl rfl) (by simp) ?_⟩
    have O3 := O2.put (i := 1) rfl (.row 2 [.agg [v2, .mapr q]])
    rw [nilCheck_ptr, addOff_ptr]
    refine Eq.mpr (ld1_fld (O3.get 1 _ rc rfl rfl) rfl _) ?_
    refine Eq.mpr (ldN_elem (n := 4) (i := 0) (cs := nodeC xs[i]) (O3.get 3 _ r rfl rfl) rfl rfl _) ?_
    rw [nodeC, tCons_cons, tInt_int, tCons_cons, tStr_str, tCons_cons, tInt_int, tCons_cons, tInt_int, tNil_nil]
    obtain ⟨es', he, hes'⟩ := putM_keys hes xs[i] (.int .i64 (i : Int))
    refine Eq.mpr (mapPut_map (O3.get 2 _ q rfl rfl) he _) (rg_of (by omega) (by omega) (s23l1_go ?_))
    have O4 := O3.put (i := 2) rfl (.map es')
    have O5 : Own h0 ([.slc 4 v2 (L ++ [nodeV xs[i]]), .cell rc (.row 2 [.agg [v2, .mapr q]]), .cell q (.map es')] ++ [.cell r (.row 4 [nodeV xs[i]])]) _ := O4
    exact copyP_l1 hv hx hk d (i + 1) (by omega) (L ++ [nodeV xs[i]]) _ (by simp; omega) ⟨v2, q, es', hes', O5.pop⟩
theorem copyP_ok {t : AVal} {xs : List Nd} (P : PRd h0 t xs) (hx : xs.length ≤ 1048576) (hk : ∀ r, K (.ptr r 0 0) h0) : ACalls prog 23 [t] h0 K := by
  refine s23_ok ?_
  unfold s23
  refine callG_of (aliveP_ok P ?_)
  rw [tBool_bool]
  refine ifT_neg rfl (callG_of (newP_ok (Own.start h0) fun rc h' W => ?_))
  obtain ⟨vN, q, O⟩ := W
  obtain ⟨v, hv, hl⟩ := (P.ext O.old).ld
  obtain ⟨v0, hv0, hl0⟩ := P.ld
  have e : v = v0 := by
    obtain ⟨rt, vT, qT, eT, rfl, h2, h3, h4⟩ := P
    have a := hl (fun x => x = vT)
    have b := hl0 (fun x => x = vT)
    rw [nilCheck_ptr, addOff_ptr, ld1_fld (O.old _ _ h2) rfl] at a
    rw [nilCheck_ptr, addOff_ptr, ld1_fld h2 rfl] at b
    have a' : v = vT := a ▸ rfl
    have b' : v0 = vT := b ▸ rfl
    rw [a', b']
  subst e
  rw [hl, hv.len]
  exact s23l1_in (xs.length + 1) (copyP_l1 hv0 hx (hk rc) xs.length 0 (by omega) [] h' rfl ⟨vN, q, [], (fun e he => by cases he), O⟩)

theorem slX_sl {es r off len : Nat} {l h : Int} {K : AVal → Prop} (h0 : 0 ≤ l) (h1 : l ≤ h) (h2 : h ≤ len) (hk : K (.sl r es (off + l.toNat) (h.toNat - l.toNat))) : slX es (.sl r es off len) l (some h) K := by
  show slA es (.sl r es off len) l h K
  rw [slA_eq]
  exact chk_iff.2 ⟨Nat.beq_refl _, ⟨h0, h1, h2⟩, hk⟩
theorem slX_nil {es : Nat} {K : AVal → Prop} (hk : K .nilsl) : slX es .nilsl 0 (some 0) K := by
  show slA es .nilsl 0 0 K
  rw [slA_eq]
  exact ⟨rfl, rfl, hk⟩
theorem slX_end {es r off len : Nat} {l : Int} {K : AVal → Prop} (h0 : 0 ≤ l) (h1 : l ≤ len) (hk : K (.sl r es (off + l.toNat) (len - l.toNat))) : slX es (.sl r es off len) l none K := by
  show slA es (.sl r es off len) l (len : Int) K
  rw [slA_eq]
  exact chk_iff.2 ⟨Nat.beq_refl _, ⟨h0, h1, Int.le_refl _⟩, hk⟩
theorem slX_nile {es : Nat} {K : AVal → Prop} (hk : K .nilsl) : slX es .nilsl 0 none K := slX_nil (es := es) hk
/-- a program's table, in whatever things -/
def PL (rt : Nat) (xs : List Nd) (A : List Ow) : Prop := ∀ hb h R, Own hb (A ++ R) h → PRd h (.ptr rt 0 0) xs
theorem PP.pl {rt : Nat} {xs : List Nd} {R : List Ow} (W : PP hb rt xs R h) : ∃ A, PL rt xs A ∧ Own hb (A ++ R) h := by
  obtain ⟨vN, q, O⟩ := W
  exact ⟨_, fun hb h R O => PP.prd ⟨vN, q, O⟩, O⟩
theorem cutP_l2 {rt n m : Nat} {R : List Ow} {vN v : AVal} {xs : List Nd} (hn : n ≤ xs.length) (hm : m = xs.length - n) (hx : xs.length ≤ 1024) (hv : (vN = .nilsl ∧ xs = [] ∧ v = .nilsl) ∨ ∃ r, vN = .sl r 4 0 xs.length ∧ v = .sl r 4 n m) (q : Nat)
    (hk : ∀ A h', PL rt (xs.take n) A → Own hb (A ++ R) h' → K (.int .i64 0) h') :
    ∀ d i : Nat, i + d = m → ∀ es h, NKeys es → Own hb ([.slc 4 vN (xs.map nodeV), .cell rt (.row 2 [.agg [vN, .mapr q]]), .cell q (.map es)] ++ R) h → s27l2 K (d + 1) (.ptr rt 0 0) (n : Int) v (m : Int) (i : Int) h
  | 0, i, hd, es, h, hes, O => by
    unfold s27l2
    refine ifT_neg (by simp; omega) ?_
    have rc := O.get 1 _ rt rfl rfl
    rw [nilCheck_ptr, addOff_ptr, ld1_fld rc rfl]
    rcases hv with ⟨rfl, rfl, rfl⟩ | ⟨r, rfl, rfl⟩
    · obtain rfl : n = 0 := by simpa using hn
      refine slX_nil ?_
      rw [nilCheck_ptr, addOff_ptr]
      refine chk_iff.2 ⟨rfl, st_fld rc (by simp) (retG_of ?_)⟩
      have O2 := O.put (i := 1) rfl (.row 2 [.agg [.nilsl, .mapr q]])
      exact hk [.slc 4 .nilsl (([] : List Nd).map nodeV), .cell rt (.row 2 [.agg [.nilsl, .mapr q]]), .cell q (.map es)] _ (fun hb h R O => ⟨rt, .nilsl, q, es, rfl, O.get 1 _ rt rfl rfl, O.get 2 _ q rfl rfl, .inl ⟨rfl, rfl⟩⟩) O2
    · refine slX_sl (by omega) (by omega) (by omega) ?_
      rw [nilCheck_ptr, addOff_ptr]
      refine chk_iff.2 ⟨rfl, st_fld rc (by simp) (retG_of ?_)⟩
      have O2 := O.put (i := 1) rfl (.row 2 [.agg [.sl r 4 0 n, .mapr q]])
      refine hk [.slc 4 (.sl r 4 0 xs.length) (xs.map nodeV), .cell rt (.row 2 [.agg [.sl r 4 0 n, .mapr q]]), .cell q (.map es)] _ (fun hb h R O => ⟨rt, .sl r 4 0 n, q, es, rfl, O.get 1 _ rt rfl rfl, O.get 2 _ q rfl rfl, .inr (.inl ⟨r, xs.map nodeV, by rw [List.length_take, Nat.min_eq_left hn], O.get 0 _ r rfl rfl, fun j x hj => ?_⟩)⟩) ?_
      · rw [List.getElem?_take] at hj
        split at hj
        · rw [List.getElem?_map, hj]; rfl
        · cases hj
      · simp only [Int.toNat_zero, Int.toNat_natCast, Nat.sub_zero, Nat.add_zero]
        exact O2
  | d + 1, i, hd, es, h, hes, O => by
    unfold s27l2
    refine ifT_pos (by simp; omega) ?_
    rcases hv with ⟨rfl, rfl, rfl⟩ | ⟨r, rfl, rfl⟩
    · simp at hm; omega
    have hil : n + i < xs.length := by omega
    refine ixS_sl (by omega) (by omega) ?_
    rw [Int.toNat_natCast]
    rw [ldN_elem (n := 4) (cs := nodeC xs[n + i]) (O.get 0 _ r rfl rfl) (by rw [List.getElem?_map, List.getElem?_eq_getElem hil]; rfl) rfl]
    rw [nodeC, tCons_cons, tInt_int, tCons_cons, tStr_str, tCons_cons, tInt_int, tCons_cons, tInt_int, tNil_nil]
    refine newRow_in fun r1 hr1 => st4 (Heap.set_same _ _ _) rfl rfl ?_
    rw [Heap.set_set]
    have O1 := Own.skip O hr1 (.row 4 [nodeV xs[n + i]])
    rw [nilCheck_ptr, addOff_ptr]
    refine Eq.mpr (ld1_fld (O1.get 1 _ rt rfl rfl) rfl _) ?_
    refine Eq.mpr (ldN_elem (n := 4) (i := 0) (cs := nodeC xs[n + i]) (Heap.set_same _ _ _) rfl rfl _) ?_
    rw [nodeC, tCons_cons, tInt_int, tCons_cons, tStr_str, tCons_cons, tInt_int, tCons_cons, tInt_int, tNil_nil]
    refine mapDel_keys (O1.get 2 _ q rfl rfl) hes xs[n + i] fun es' hes' => rg_of (by omega) (by omega) (s27l2_go ?_)
    exact cutP_l2 hn hm hx (.inr ⟨r, rfl, rfl⟩) q hk d (i + 1) (by omega) es' _ hes' (O1.put (i := 2) rfl (.map es'))
theorem cutP_ok {rt n : Nat} {xs : List Nd} {R : List Ow} (W : PP hb rt xs R h) (hn : n ≤ xs.length) (hx : xs.length ≤ 1024) (hk : ∀ A h', PL rt (xs.take n) A → Own hb (A ++ R) h' → K (.int .i64 0) h') : ACalls prog 27 [.ptr rt 0 0, .int .i64 n] h K := by
  refine s27_ok ?_
  unfold s27
  refine callG_of (aliveP_ok W.prd ?_)
  rw [tBool_bool]
  obtain ⟨vN, q, O⟩ := W
  have rc := O.get 1 _ rt rfl rfl
  refine ifT_neg rfl (ifT_neg (by simp) ?_)
  rw [nilCheck_ptr, addOff_ptr, ld1_fld rc rfl, O.len (i := 0) rfl, List.length_map]
  unfold s27c1
  refine ifT_neg (by simp; omega) ?_
  rw [nilCheck_ptr, addOff_ptr, ld1_fld rc rfl]
  rcases O.fit 0 _ rfl with ⟨rfl, e⟩ | ⟨r, e⟩
  · obtain rfl := List.map_eq_nil_iff.1 e
    obtain rfl : n = 0 := by simpa using hn
    refine slX_nile ?_
    exact s27l2_in 1 (cutP_l2 (m := 0) (n := 0) (by simp) (by simp) hx (.inl ⟨rfl, rfl, rfl⟩) q hk 0 0 (by omega) _ h (ents_keys _ 0) O)
  · rw [List.length_map] at e
    subst e
    refine slX_end (by omega) (by omega) ?_
    simp only [Int.toNat_natCast, Nat.zero_add]
    rw [lenN_sl]
    exact s27l2_in (xs.length - n + 1) (cutP_l2 hn rfl hx (.inr ⟨r, rfl, rfl⟩) q hk (xs.length - n) 0 (by omega) _ h (ents_keys _ 0) O)
theorem ladderP_ok {rt : Nat} {xs : List Nd} {R : List Ow} (W : PP hb rt xs R h) (hx : xs.length ≤ 1024) {s : ByteArray} (hs : s.size ≤ 1073741824) (k : Int) (hpre : wordB s = true → xs <+: (climbV xs s k).2.2)
    (bad : wordB s = false → K (.tuple [.int .i64 0, .int .i64 32]) h) (arg : wordB s = true → ¬ (-1 ≤ k ∧ k ≤ 4096) → K (.tuple [.int .i64 0, .int .i64 2]) h)
    (err : wordB s = true → -1 ≤ k → k ≤ 4096 → (climbV xs s k).2.1 ≠ 0 → ∀ A h', PL rt xs A → Own hb (A ++ R) h' → K (.tuple [.int .i64 0, .int .i64 (climbV xs s k).2.1]) h')
    (good : wordB s = true → -1 ≤ k → k ≤ 4096 → (climbV xs s k).2.1 = 0 → ∀ A h', PL rt (climbV xs s k).2.2 A → Own hb (A ++ R) h' → K (.tuple [.int .i64 (climbV xs s k).1, .int .i64 0]) h') :
    ACalls prog 7 [.ptr rt 0 0, .str s, .int .i64 k] h K := by
  refine s7_ok ?_
  unfold s7
  refine callG_of (copyP_ok W.prd (by omega) fun r => ?_)
  rw [nilPp]
  refine ifT_neg rfl (callG_of (word_ok s hs ?_))
  rw [tBool_bool]
  cases hw : wordB s with
  | false => exact ifT_pos rfl (retG_of (bad hw))
  | true =>
    refine ifT_neg rfl ?_
    have c1t : ¬ (-1 ≤ k ∧ k ≤ 4096) → s7c1 K (.ptr rt 0 0) s k true h := fun hr => ifT_pos rfl (retG_of (arg hw hr))
    by_cases h1 : k < -1
    · exact ifT_pos (by simpa using h1) (c1t (by omega))
    · refine ifT_neg (by simpa using h1) ?_
      by_cases h2 : 4096 < k
      · rw [decide_eq_true h2]
        exact c1t (by omega)
      · rw [decide_eq_false h2]
        unfold s7c1
        refine ifT_neg rfl (callG_of (lenP_ok W.prd ?_))
        rw [tInt_int]
        refine callG_of (climbP_ok W hx s hs (k := k) (by omega) (by omega) fun i h' hi W' => ?_)
        rw [tTup_tuple, tCons_cons, tInt_int, tCons_cons, tInt_int, tNil_nil]
        have hlen := climbV_len hx s k
        by_cases e0 : (climbV xs s k).2.1 = 0
        · refine ifT_neg (by simpa using e0) (retG_of ?_)
          rw [hi e0]
          obtain ⟨A, hA, O⟩ := W'.pl
          exact good hw (by omega) (by omega) e0 A h' hA O
        · refine ifT_pos (by simpa using e0) (callG_of (cutP_ok W' (hpre hw).length_le hlen fun A h2 hA O => ?_))
          rw [tInt_int]
          rw [← List.prefix_iff_eq_take.1 (hpre hw)] at hA
          exact retG_of (err hw (by omega) (by omega) e0 A h2 hA O)

theorem ladL_end (H : HeadsOK) (hk : ∀ h', K (.bool true) h') {rt rd : Nat} {xs : List Nd} {A B : List Ow} (hx : xs.length ≤ 1024) (hA : PL rt xs A) (hB : DL rd xs B) {h : Heap} (O : Own hb (B ++ (A ++ [])) h) {X : Heap → Prop} :
    callG prog 10 [.ptr rt 0 0, .ptr rd 0 0] h fun v15 h_4 =>
            tBool v15 fun v16 =>
            ifT v16 (
              callG prog 11 [] h_4 fun v17 h_5 =>
              tBool v17 fun v18 =>
              retG (.bool v18) h_5 K) (X h_4) := by
  refine callG_of (likeT4_ok (hA _ _ _ (Own.rot O)) (hB _ _ _ O) (by omega) fun h' _ => ?_)
  rw [tBool_bool]
  exact ifT_pos rfl (headsRet H hk)
theorem ladderL_ok (H : HeadsOK) {v : AVal} {xs : List Nd} (hv : Nodes v xs) (hxs : xs.length ≤ 1048576) (hns : ∀ x ∈ xs, x.s.size ≤ 1073741824) {s : ByteArray} (hs : s.size ≤ 1073741824) (k : Int) (hk : ∀ h', K (.bool true) h') : ACalls prog 3 [v, .str s, .int .i64 k] h K := by
  refine s3_ok ?_
  unfold s3
  refine callG_of (tables_ok hv hxs hns fun ys ok hl hn rt rd h1 W => ?_)
  rw [tTup_tuple, tCons_cons, tCons_cons, tNil_nil]
  obtain ⟨vM, W⟩ := W
  have hB0 : DL rd ys [.slc 4 vM (ys.map nodeV), .cell rd (.row 1 [.agg [vM]])] := fun hb h R O => DD.drd ⟨vM, O⟩
  have toD : ∀ {A : List Ow} {h' : Heap}, Own h (A ++ ([.slc 4 vM (ys.map nodeV), .cell rd (.row 1 [.agg [vM]])] ++ [])) h' → DD h rd ys (A ++ []) h' := fun O => ⟨vM, Own.rot O⟩
  have hlen := climbV_len hl s k
  refine callG_of (ladderP_ok W hl hs k (fun hw => (climb_ok hw k).2) (fun hw => ?_) (fun hw hr => ?_) (fun hw k1 k2 he A h2 hA O => ?_) (fun hw k1 k2 he A h2 hA O => ?_))
  · rw [tTup_tuple, tCons_cons, tInt_int, tCons_cons, tInt_int, tNil_nil]
    obtain ⟨A, hA, O⟩ := W.pl
    refine callG_of (ladderT_ok (toD O) hl s k (fun h => by rw [hw] at h; cases h) (fun _ => ?_) (fun h => by rw [hw] at h; cases h) (fun h => by rw [hw] at h; cases h) (fun h => by rw [hw] at h; cases h))
    rw [tTup_tuple, tCons_cons, tInt_int, tCons_cons, tInt_int, tNil_nil]
    refine ifT_pos (by simp) (callG_of (num26_ok ?_))
    rw [tInt_int]
    exact ifT_pos (by simp) (ladL_end H hk hl hA hB0 (Own.rot O))
  · rw [tTup_tuple, tCons_cons, tInt_int, tCons_cons, tInt_int, tNil_nil]
    obtain ⟨A, hA, O⟩ := W.pl
    refine callG_of (ladderT_ok (toD O) hl s k (fun _ => (climb_ok hw k).2) (fun h => by rw [hw] at h; cases h) (fun _ _ => ?_) (fun _ a b => absurd ⟨a, b⟩ hr) (fun _ a b => absurd ⟨a, b⟩ hr))
    rw [tTup_tuple, tCons_cons, tInt_int, tCons_cons, tInt_int, tNil_nil]
    refine ifT_pos (by simp) (callG_of (num26_ok ?_))
    rw [tInt_int]
    exact ifT_pos (by simp) (ladL_end H hk hl hA hB0 (Own.rot O))
  · rw [tTup_tuple, tCons_cons, tInt_int, tCons_cons, tInt_int, tNil_nil]
    refine callG_of (ladderT_ok (toD O) hl s k (fun _ => (climb_ok hw k).2) (fun h => by rw [hw] at h; cases h) (fun _ hr => absurd ⟨k1, k2⟩ hr) (fun _ _ _ _ B h3 hB O3 => ?_) (fun _ _ _ h => absurd h he))
    rw [tTup_tuple, tCons_cons, tInt_int, tCons_cons, tInt_int, tNil_nil]
    rw [(climb_ok hw k).1.resolve_left he]
    refine ifT_pos (by simp) (callG_of (num26_ok ?_))
    rw [tInt_int]
    exact ifT_pos (by simp) (ladL_end H hk hl hA hB O3)
  · rw [tTup_tuple, tCons_cons, tInt_int, tCons_cons, tInt_int, tNil_nil]
    refine callG_of (ladderT_ok (toD O) hl s k (fun _ => (climb_ok hw k).2) (fun h => by rw [hw] at h; cases h) (fun _ hr => absurd ⟨k1, k2⟩ hr) (fun _ _ _ h => absurd he h) (fun _ _ _ _ B h3 hB O3 => ?_))
    rw [tTup_tuple, tCons_cons, tInt_int, tCons_cons, tInt_int, tNil_nil]
    refine ifT_pos (by simp) (callG_of (num26_ok ?_))
    rw [tInt_int]
    exact ifT_pos (by simp) (ladL_end H hk hlen hA hB O3)
end Go.Proofs.YtobpfhmjdoekfaaGreat

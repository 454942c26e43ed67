/- Contracts: the document's table of what is forced where. No condition. Contracts: the document's sets of numbers, right sequents; what a world forces (the document). No condition. Contracts: all formulas that a world forces; does a sequent hold (the document). No condition. Contracts: both tables out of rows (a law's own). No condition. Contracts: a copy of a model. No condition. ForceTells over its inputs. No condition. -/
import Derived.Test.YtaopdcjjcpgebaaGreatDoorA2
import Derived.Test.YtaopdcjjcpgebaaGreatDoorA3
import Derived.Test.YtaopdcjjcpgebaaGreatDoorA1
import Derived.Test.YtaopdcjjcpgebaaGreatDoorM5

set_option linter.unusedVariables false
set_option linter.unusedSimpArgs false

namespace Go.Proofs.YtaopdcjjcpgebaaGreatDoor
open Go Go.Sym Go.Proofs.Tryz
set_option maxRecDepth 100000
variable {K : AVal → Heap → Prop} {h h0 hb : Heap} {t mU mV o : AVal} {up : List (List Int)} {val : List (List ByteArray)} {xs : List Nd}
structure Mk (n : Nat) (g : Nat → Bool) (a : Nat) (marks : List Bool) : Prop where
  len : marks.length = n
  done : ∀ a', a' < a → marks[a']? = some (g a')
  rest : ∀ a', a ≤ a' → a' < n → marks[a']? = some false
theorem Mk.next {n : Nat} {g : Nat → Bool} {a : Nat} {marks : List Bool} {b : Bool} (M : Mk n g a marks) (ha : a < n) (hb : b = g a) : Mk n g (a + 1) (marks.set a b) where
  len := by rw [List.length_set]; exact M.len
  done a' h := by
    by_cases e : a' = a
    · subst e; rw [hb]; exact List.getElem?_set_self (by rw [M.len]; exact ha)
    · rw [List.getElem?_set_ne (Ne.symm e)]; exact M.done a' (by omega)
  rest a' h1 h2 := by rw [List.getElem?_set_ne (by omega)]; exact M.rest a' (by omega) h2
theorem Mk.all {n : Nat} {g : Nat → Bool} {marks : List Bool} (M : Mk n g n marks) : marks.map AVal.bool = (List.range n).map fun a => .bool (g a) := by
  apply List.ext_getElem?
  intro i
  by_cases hi : i < n
  · simp [M.done i hi, hi]
  · rw [List.getElem?_eq_none (by rw [List.length_map, M.len]; omega), List.getElem?_eq_none (by simp; omega)]
structure RowsF (v : AVal) (m n : Nat) (f : Nat → Nat → Bool) : Prop where
  ex : ∃ rows, SlOf 1 v rows ∧ rows.length = m ∧ ∀ j, j < m → ∃ e, rows[j]? = some e ∧ e.isAgg = false ∧ SlOf 1 e ((List.range n).map fun a => .bool (f j a))
theorem cells1 {e : AVal} (h : e.isAgg = false) : cellsOf e = [e] := by cases e <;> first | rfl | cases h
theorem RowsF.len {v : AVal} {m n : Nat} {f : Nat → Nat → Bool} (R : RowsF v m n f) (X : Int → Prop) : lenN v X = X m := by
  obtain ⟨rows, h1, h2, _⟩ := R.ex
  rw [lenN_of h1, h2]
theorem RowsF.row {v : AVal} {m n : Nat} {f : Nat → Nat → Bool} (R : RowsF v m n f) {j : Nat} (hj : j < m) : ∃ e, SlOf 1 e ((List.range n).map fun a => .bool (f j a)) ∧ ∀ (H : Heap) (X : AVal → Prop), (ixS 1 v (j : Int) fun p => ld1 H p X) = X e := by
  obtain ⟨rows, h1, h2, h3⟩ := R.ex
  obtain ⟨e, he, ha, hs⟩ := h3 j hj
  refine ⟨e, hs, fun H X => ?_⟩
  rw [ixS_nat h1 he, cells1 ha, ld1_lptr]
theorem boolS {e : AVal} {n : Nat} {g : Nat → Bool} (hs : SlOf 1 e ((List.range n).map fun a => .bool (g a))) {a : Nat} (ha : a < n) (H : Heap) (X : AVal → Prop) : (ixS 1 e (a : Int) fun p => ld1 H p X) = X (.bool (g a)) := by
  rw [ixS_nat hs (e := .bool (g a)) (by simp [ha])]
  rfl
theorem slAgg1 {es : Nat} {v : AVal} {l : List AVal} (hv : SlOf es v l) : v.isAgg = false := by rcases hv with rfl | ⟨rfl, _⟩ <;> rfl
abbrev TM (h0 : Heap) (ro ra r N n : Nat) (R : List AVal) (marks : List Bool) (x : Nd) (h : Heap) : Prop := Own h0 [.slc 1 (.sl ro 1 0 N) R, .slc 1 (.sl ra 1 0 n) (marks.map .bool), .cell r (.row 4 [.agg (nodeC x)])] h
structure TX (n i N ra : Nat) (R : List AVal) (T : Nat → Nat → Bool) : Prop where
  lenR : R.length = N
  at_ : R[i]? = some (.sl ra 1 0 n)
  done : ∀ j, j < i → ∃ e, R[j]? = some e ∧ e.isAgg = false ∧ SlOf 1 e ((List.range n).map fun a => .bool (T j a))
section
variable {ro ra r N n i a : Nat} {R : List AVal} {marks : List Bool} {T : Nat → Nat → Bool} {x : Nd} {last : Int}
theorem TM.rdR (M : TM h0 ro ra r N n R marks x h) (X : TX n i N ra R T) {Y : AVal → Prop} (hY : Y (.sl ra 1 0 n)) : ixS 1 (.sl ro 1 0 N) (i : Int) fun p => ld1 h p Y := Own.rd M (j := 0) rfl X.at_ rfl hY
theorem TM.rdA (M : TM h0 ro ra r N n R marks x h) {b : Bool} (hm : marks[a]? = some b) {Y : AVal → Prop} (hY : Y (.bool b)) : ixS 1 (.sl ra 1 0 n) (a : Int) fun p => ld1 h p Y := Own.rd M (j := 1) rfl (x := .bool b) (by simp [hm]) rfl hY
theorem TM.wrA (M : TM h0 ro ra r N n R marks x h) (hl : marks.length = n) (ha : a < n) {b : Bool} {Y : Heap → Prop} (hY : ∀ h', TM h0 ro ra r N n R (marks.set a b) x h' → Y h') : ixS 1 (.sl ra 1 0 n) (a : Int) fun p => st true h p [.bool b] Y := by
  refine Own.wr M (j := 1) rfl (x := .bool (marks[a]'(by omega))) (by simp [hl, ha]) rfl fun h' M' => hY h' ?_
  have e : (marks.map AVal.bool).set a (.bool b) = (marks.set a b).map .bool := by rw [List.map_set]
  rw [e] at M'
  exact M'
theorem TM.rdL (M : TM h0 ro ra r N n R marks x h) (X : TX n i N ra R T) {j : Nat} (hj : j < i) {b : Nat} (hb : b < n) {Y : AVal → Prop} (hY : Y (.bool (T j b))) : ixS 1 (.sl ro 1 0 N) (j : Int) fun p => ld1 h p fun v => ixS 1 v (b : Int) fun p => ld1 h p Y := by
  obtain ⟨e, he, ha, hs⟩ := X.done j hj
  refine Own.rd M (j := 0) rfl he ha ?_
  rw [boolS hs hb]
  exact hY
theorem TM.fld (M : TM h0 ro ra r N n R marks x h) {k : Nat} {v : AVal} (hv : (nodeC x)[k]? = some v) (Y : AVal → Prop) : ld1 h (.ptr r 0 (0 + k)) Y = Y v := ld1_fld (M.get 2 _ r rfl rfl) (by rw [Nat.zero_add]; exact hv) Y
theorem table_l4 (X : TX n i N ra R T) (S : Small up val) (hV : Strss mV val) (hvl : val.length = n) (hn : n ≤ 512) (ha : a < n) {m0 : List Bool} (hl : m0.length = n) {L1 : s52l1_T} {F : s52l2_T}
    (hgo : ∀ h, TM h0 ro ra r N n R (m0.set a (inS (val.getD a []) x.s)) x h → F t o last (.lptr [mU, mV]) (.sl ro 1 0 N) (i : Int) (.ptr r 0 0) ((a : Int) + 1) h) :
    ∀ d k : Nat, k + d = (val.getD a []).length → ∀ h, TM h0 ro ra r N n R (m0.set a (inS ((val.getD a []).take k) x.s)) x h → s52l4 K L1 (s52l2_G F) (d + 1) t o last (.lptr [mU, mV]) (.sl ro 1 0 N) (i : Int) (.ptr r 0 0) (a : Int) (k : Int) h
  | 0, k, hd, h, M => by
    have hav : a < val.length := by omega
    obtain ⟨e, he, hie⟩ := hV.ix hav
    have hg : val.getD a [] = val[a] := by simp [List.getD_eq_getElem?_getD, hav]
    unfold s52l4
    rw [addOff_lptr]
    simp only [List.drop_succ_cons, List.drop_zero, ld1_lptr]
    rw [hg] at hd M
    rw [hie, ld1_lptr, he.len]
    rw [List.take_of_length_le (by omega)] at M
    refine ifT_neg (by simp; omega) ?_
    unfold s52c3
    refine rg_of (by omega) (by omega) (s52l2_go (hgo h ?_))
    rw [hg]
    exact M
  | d + 1, k, hd, h, M => by
    have hav : a < val.length := by omega
    have hg : val.getD a [] = val[a] := by simp [List.getD_eq_getElem?_getD, hav]
    have hk : k < val[a].length := by rw [hg] at hd; omega
    have hsl := (S.names _ (List.getElem_mem hav)).2
    obtain ⟨e, he, hie⟩ := hV.ix hav
    have hl2 : ∀ b, (m0.set a b).length = n := fun b => by rw [List.length_set]; exact hl
    unfold s52l4
    rw [addOff_lptr]
    simp only [List.drop_succ_cons, List.drop_zero, ld1_lptr]
    rw [hie, ld1_lptr, he.len]
    refine ifT_pos (by simp; omega) (M.rdR X (M.rdR X (M.rdA (List.getElem?_set_self (by rw [hl]; exact ha)) ?_)))
    rw [tBool_bool]
    have hsucc : inS ((val.getD a []).take (k + 1)) x.s = (inS ((val.getD a []).take k) x.s || strEq val[a][k] x.s) := by
      rw [hg, List.take_succ_eq_append_getElem hk]
      unfold inS
      rw [List.any_append, strEq_dec]
      simp
    have next : ∀ h', TM h0 ro ra r N n R (m0.set a (inS ((val.getD a []).take (k + 1)) x.s)) x h' → s52c5 K L1 (s52l2_G F) (s52l4_G (s52l4 K L1 (s52l2_G F) (d + 1))) t o last (.lptr [mU, mV]) (.sl ro 1 0 N) (i : Int) (.ptr r 0 0) (a : Int) (k : Int) h' := fun h' M' => by
      unfold s52c5
      exact rg_of (by omega) (by omega) (s52l4_go (table_l4 X S hV hvl hn ha hl hgo d (k + 1) (by omega) h' M'))
    cases hin : inS ((val.getD a []).take k) x.s with
    | true =>
      refine ifT_pos rfl (M.wrA (hl2 _) ha fun h' M' => next h' ?_)
      rw [List.set_set] at M'
      rw [hsucc, hin, Bool.true_or]
      exact M'
    | false =>
      refine ifT_neg rfl ?_
      rw [addOff_lptr]
      simp only [List.drop_succ_cons, List.drop_zero, ld1_lptr]
      rw [hie, ld1_lptr, he.ix hk, ld1_lptr, tStr_str, addOff_ptr, M.fld (k := 1) (v := .str x.s) rfl, tStr_str]
      refine M.wrA (hl2 _) ha fun h' M' => next h' ?_
      rw [List.set_set] at M'
      rw [hsucc, hin, Bool.false_or]
      exact M'
theorem table_l6 {l rr : Nat} (X : TX up.length i N ra R T) (hO : OTab o up) (hn : up.length ≤ 512) (ha : a < up.length) {m0 : List Bool} (hl : m0.length = up.length) (hxl : x.l = (l : Int)) (hxr : x.r = (rr : Int)) (hli : l < i) (hri : rr < i) {L1 : s52l1_T} {F : s52l2_T}
    (hgo : ∀ h, TM h0 ro ra r N up.length R (m0.set a ((List.range up.length).all fun b => !(rb up a b && (T l b && !T rr b)))) x h → F t o last (.lptr [mU, mV]) (.sl ro 1 0 N) (i : Int) (.ptr r 0 0) ((a : Int) + 1) h) :
    ∀ d k : Nat, k + d = up.length → ∀ h, TM h0 ro ra r N up.length R (m0.set a ((List.range k).all fun b => !(rb up a b && (T l b && !T rr b)))) x h → s52l6 K L1 (s52l2_G F) (d + 1) t o last (.lptr [mU, mV]) (.sl ro 1 0 N) (i : Int) (.ptr r 0 0) (a : Int) (k : Int) h
  | 0, k, hd, h, M => by
    obtain rfl : k = up.length := by omega
    unfold s52l6
    rw [hO.len]
    refine ifT_neg (by simp) ?_
    unfold s52c7
    refine ifT_neg rfl ?_
    unfold s52c3
    exact rg_of (by omega) (by omega) (s52l2_go (hgo h M))
  | d + 1, k, hd, h, M => by
    have hk : k < up.length := by omega
    have hl2 : ∀ b, (m0.set a b).length = up.length := fun b => by rw [List.length_set]; exact hl
    have hsucc : ((List.range (k + 1)).all fun b => !(rb up a b && (T l b && !T rr b))) = (((List.range k).all fun b => !(rb up a b && (T l b && !T rr b))) && !(rb up a k && (T l k && !T rr k))) := by
      rw [List.range_succ, List.all_append]; simp
    have next : ∀ h', TM h0 ro ra r N up.length R (m0.set a ((List.range (k + 1)).all fun b => !(rb up a b && (T l b && !T rr b)))) x h' → s52c8 K L1 (s52l2_G F) (s52l6_G (s52l6 K L1 (s52l2_G F) (d + 1))) t o last (.lptr [mU, mV]) (.sl ro 1 0 N) (i : Int) (.ptr r 0 0) (a : Int) (k : Int) h' := fun h' M' => by
      unfold s52c8
      exact rg_of (by omega) (by omega) (s52l6_go (table_l6 X hO hn ha hl hxl hxr hli hri hgo d (k + 1) (by omega) h' M'))
    unfold s52l6
    rw [hO.len]
    refine ifT_pos (decide_eq_true (by omega)) (M.rdR X (M.rdA (List.getElem?_set_self (by rw [hl]; exact ha)) ?_))
    rw [tBool_bool]
    unfold s52c7
    cases hc : (List.range k).all fun b => !(rb up a b && (T l b && !T rr b)) with
    | false =>
      refine ifT_neg rfl ?_
      unfold s52c3
      refine rg_of (by omega) (by omega) (s52l2_go (hgo h ?_))
      have : ((List.range up.length).all fun b => !(rb up a b && (T l b && !T rr b))) = false := by
        rw [List.all_eq_false] at hc ⊢
        obtain ⟨b, hb, hp⟩ := hc
        exact ⟨b, List.mem_range.2 (by have := List.mem_range.1 hb; omega), hp⟩
      rw [this]
      rw [hc] at M
      exact M
    | true =>
      rw [hc, Bool.true_and] at hsucc
      rw [hsucc] at next
      rw [hc] at M
      have no : (rb up a k && (T l k && !T rr k)) = false → s52c9 K L1 (s52l2_G F) (s52l6_G (s52l6 K L1 (s52l2_G F) (d + 1))) t o last (.lptr [mU, mV]) (.sl ro 1 0 N) (i : Int) (.ptr r 0 0) (a : Int) (k : Int) false h := fun e => by
        unfold s52c9
        rw [e] at next
        exact ifT_neg rfl (next h M)
      refine ifT_pos rfl ?_
      obtain ⟨eo, hre, _, hro⟩ := hO.row (h' := h) ha
      rw [hre, hro k hk, tBool_bool]
      cases h1 : rb up a k with
      | false => exact ifT_neg rfl (no (by rw [h1]; rfl))
      | true =>
        refine ifT_pos rfl ?_
        rw [addOff_ptr, M.fld (k := 2) (v := .int .i64 x.l) rfl, tInt_int, hxl]
        refine M.rdL X hli hk ?_
        rw [tBool_bool]
        cases h2 : T l k with
        | false => exact ifT_neg rfl (no (by rw [h2]; simp))
        | true =>
          refine ifT_pos rfl ?_
          rw [addOff_ptr, M.fld (k := 3) (v := .int .i64 x.r) rfl, tInt_int, hxr]
          refine M.rdL X hri hk ?_
          rw [tBool_bool]
          cases h3 : T rr k with
          | true => exact no (by rw [h3]; simp)
          | false =>
            unfold s52c9
            refine ifT_pos rfl (M.rdR X (M.wrA (hl2 _) ha fun h' M' => next h' ?_))
            rw [List.set_set] at M'
            rw [h1, h2, h3]
            exact M'
theorem frc_imp {l rr : Nat} (hx : xs[i]? = some x) (hk : x.k = 5) (hxl : x.l = (l : Int)) (hxr : x.r = (rr : Int)) (hli : l < i) (hri : rr < i) (a : Nat) : frc up val xs i a = (List.range up.length).all fun b => !(rb up a b && (frc up val xs l b && !frc up val xs rr b)) := by
  rw [frc_5 hx hk hxl hxr hli hri]
  unfold aboveL
  rw [List.any_filter, Bool.eq_iff_iff]
  simp only [Bool.not_eq_true', List.any_eq_false, List.all_eq_true]
  constructor
  · intro h b hb
    have := h b hb
    simpa using this
  · intro h b hb
    have := h b hb
    simpa using this
theorem table_l2 (X : TX up.length i N ra R (frc up val xs)) (S : Small up val) (hV : Strss mV val) (hvl : val.length = up.length) (hO : OTab o up) (hn : up.length ≤ 512) (hx : xs[i]? = some x) (hnd : NdOK i x) {L1 : s52l1_T}
    (hgo : ∀ m h, Mk up.length (frc up val xs i) up.length m → TM h0 ro ra r N up.length R m x h → rg ((i : Int) + 1) (L1 t o last (.lptr [mU, mV]) (.sl ro 1 0 N) ((i : Int) + 1) h)) :
    ∀ d a : Nat, a + d = up.length → ∀ m h, Mk up.length (frc up val xs i) a m → TM h0 ro ra r N up.length R m x h → s52l2 K L1 (d + 1) t o last (.lptr [mU, mV]) (.sl ro 1 0 N) (i : Int) (.ptr r 0 0) (a : Int) h
  | 0, a, hd, m, h, B, M => by
    obtain rfl : a = up.length := by omega
    unfold s52l2
    rw [hO.len]
    exact ifT_neg (by simp) (hgo m h B M)
  | d + 1, a, hd, m, h, B, M => by
    have ha : a < up.length := by omega
    have hset : m.set a false = m := by
      have h0 := B.rest a (Nat.le_refl _) ha
      have h1 : m[a]'(by rw [B.len]; exact ha) = false := (List.getElem?_eq_some_iff.1 h0).2
      rw [← h1, List.set_getElem_self]
    unfold s52l2
    rw [hO.len]
    refine ifT_pos (decide_eq_true (by omega)) ?_
    rw [show (0 : Nat) = 0 + 0 from rfl, addOff_ptr, M.fld (k := 0) (v := .int .i64 x.k) rfl, tInt_int]
    have next : ∀ (b : Bool) h', b = frc up val xs i a → TM h0 ro ra r N up.length R (m.set a b) x h' → s52l2 K L1 (d + 1) t o last (.lptr [mU, mV]) (.sl ro 1 0 N) (i : Int) (.ptr r 0 0) ((a : Int) + 1) h' := fun b h' hb M' =>
      table_l2 X S hV hvl hO hn hx hnd hgo d (a + 1) (by omega) _ h' (B.next ha hb) M'
    have next3 : ∀ (b : Bool) h', b = frc up val xs i a → TM h0 ro ra r N up.length R (m.set a b) x h' → s52c3 K L1 (s52l2_G (s52l2 K L1 (d + 1))) t o last (.lptr [mU, mV]) (.sl ro 1 0 N) (i : Int) (.ptr r 0 0) (a : Int) h' := fun b h' hb M' => by
      unfold s52c3
      exact rg_of (by omega) (by omega) (s52l2_go (next b h' hb M'))
    rcases hnd with e | e | ⟨e, ⟨l1, l2⟩, r1, r2⟩
    · refine ifT_pos (by simp [e]) ?_
      refine s52l4_in ((val.getD a []).length + 1) (table_l4 X S hV hvl hn ha B.len (fun h' M' => next _ h' (frc_1 hx e).symm M') (val.getD a []).length 0 (by omega) h ?_)
      rw [List.take_zero, show inS [] x.s = false from rfl, hset]
      exact M
    · refine ifT_neg (by simp [e]) (ifT_neg (by simp [e]) (ifT_neg (by simp [e]) (ifT_neg (by simp [e]) ?_)))
      refine next3 false h (frc_2 hx e).symm ?_
      rw [hset]
      exact M
    · obtain ⟨l, hxl⟩ := Int.eq_ofNat_of_zero_le l1
      obtain ⟨rr, hxr⟩ := Int.eq_ofNat_of_zero_le r1
      have hli : l < i := by omega
      have hri : rr < i := by omega
      rcases e with e | e | e
      · have hf := frc_3 (up := up) (val := val) (w := a) hx e hxl hxr hli hri
        refine ifT_neg (by simp [e]) (ifT_pos (by simp [e]) (M.rdR X ?_))
        rw [addOff_ptr, M.fld (k := 2) (v := .int .i64 x.l) rfl, tInt_int, hxl]
        refine M.rdL X hli ha ?_
        rw [tBool_bool]
        cases h1 : frc up val xs l a with
        | true =>
          refine ifT_pos rfl ?_
          rw [addOff_ptr, M.fld (k := 3) (v := .int .i64 x.r) rfl, tInt_int, hxr]
          refine M.rdL X hri ha ?_
          rw [tBool_bool]
          exact M.wrA B.len ha fun h' M' => next3 _ h' (by rw [hf, h1]; rfl) M'
        | false => exact ifT_neg rfl (M.wrA B.len ha fun h' M' => next3 _ h' (by rw [hf, h1]; rfl) M')
      · have hf := frc_4 (up := up) (val := val) (w := a) hx e hxl hxr hli hri
        refine ifT_neg (by simp [e]) (ifT_neg (by simp [e]) (ifT_pos (by simp [e]) (M.rdR X ?_)))
        rw [addOff_ptr, M.fld (k := 2) (v := .int .i64 x.l) rfl, tInt_int, hxl]
        refine M.rdL X hli ha ?_
        rw [tBool_bool]
        cases h1 : frc up val xs l a with
        | true => exact ifT_pos rfl (M.wrA B.len ha fun h' M' => next3 _ h' (by rw [hf, h1]; rfl) M')
        | false =>
          refine ifT_neg rfl ?_
          rw [addOff_ptr, M.fld (k := 3) (v := .int .i64 x.r) rfl, tInt_int, hxr]
          refine M.rdL X hri ha ?_
          rw [tBool_bool]
          exact M.wrA B.len ha fun h' M' => next3 _ h' (by rw [hf, h1]; rfl) M'
      · have hf := frc_imp (up := up) (val := val) hx e hxl hxr hli hri a
        refine ifT_neg (by simp [e]) (ifT_neg (by simp [e]) (ifT_neg (by simp [e]) (ifT_pos (by simp [e]) (M.rdR X (M.wrA B.len ha fun h' M' => ?_)))))
        exact s52l6_in (up.length + 1) (table_l6 X hO hn ha B.len hxl hxr hli hri (fun h2 M2 => next _ h2 hf.symm M2) up.length 0 (by omega) h' M')
end
theorem table_l1 {ro N : Nat} {last : Int} (D : DRd h0 t xs) (G : GoodT xs) (S : Small up val) (hV : Strss mV val) (hvl : val.length = up.length) (hO : OTab o up) (hn : up.length ≤ 512) (hlast : last = (N : Int) - 1) (hN : N ≤ xs.length) (hx : xs.length ≤ 1024)
    (hk : ∀ v, RowsF v N up.length (frc up val xs) → K v h0) :
    ∀ d i : Nat, i + d = N → ∀ R h, R.length = N → (∀ j, j < i → ∃ e, R[j]? = some e ∧ e.isAgg = false ∧ SlOf 1 e ((List.range up.length).map fun a => .bool (frc up val xs j a))) → (∀ j, i ≤ j → j < N → R[j]? = some .nilsl) →
      Own h0 [.slc 1 (.sl ro 1 0 N) R] h → s52l1 K (d + 1) t o last (.lptr [mU, mV]) (.sl ro 1 0 N) (i : Int) h
  | 0, i, hd, R, h, hR, hdone, hrest, M => by
    obtain rfl : i = N := by omega
    unfold s52l1
    refine ifT_neg (decide_eq_false (by omega)) ?_
    obtain ⟨v', lv, sv⟩ := M.lit (i := 0) rfl (S := nameOf (.sl ro 1 0 i)) (fun _ h => h) (Lits.refl _)
    exact ⟨_, v', h0, lv, base_step M _ (fun n hn => M.new 0 _ n rfl hn), hk v' ⟨R, sv, hR, hdone⟩⟩
  | d + 1, i, hd, R, h, hR, hdone, hrest, M => by
    have hi : i < N := by omega
    have hix : xs[i]? = some (xs[i]'(by omega)) := List.getElem?_eq_getElem (by omega)
    generalize (xs[i]'(by omega)) = x at hix
    unfold s52l1
    refine ifT_pos (decide_eq_true (by omega)) ?_
    rw [hO.len]
    refine mkS_own (by omega) (by omega) fun ra hra => ixS_sl0 hi (chk_iff.2 ⟨rfl, ?_⟩)
    have M1 := M.newS (es := 1) hra (List.replicate up.length (.bool false))
    rw [List.length_replicate] at M1
    refine st_elem (M1.get 0 _ ro rfl rfl) (hrest i (Nat.le_refl _) hi) rfl ?_
    have hi0 : ([Ow.slc 1 (.sl ro 1 0 N) R] ++ [.slc 1 (.sl ra 1 0 up.length) (List.replicate up.length (.bool false))])[0]? = some (.slc 1 (.sl ro 1 0 R.length) R) := by rw [hR]; rfl
    have M2 := M1.putS (i := 0) hi0 (l' := R.set i (.sl ra 1 0 up.length)) (by simp)
    rw [hR] at M2
    obtain ⟨vN, hv, ld⟩ := (D.ext M2.old).ld
    rw [ld]
    refine hv.ix hix ?_
    rw [nodeC, tCons_cons, tInt_int, tCons_cons, tStr_str, tCons_cons, tInt_int, tCons_cons, tInt_int, tNil_nil]
    refine newRow_in fun r hr => st4 (Heap.set_same _ _ _) rfl rfl ?_
    rw [Heap.set_set]
    have X : TX up.length i N ra (R.set i (.sl ra 1 0 up.length)) (frc up val xs) := ⟨by simp [hR], List.getElem?_set_self (by omega), fun j hj => by rw [List.getElem?_set_ne (by omega)]; exact hdone j hj⟩
    refine s52l2_in (up.length + 1) (table_l2 X S hV hvl hO hn hix (G i x hix) (fun m h2 B M4 => rg_of (by omega) (by omega) ?_) up.length 0 (by omega) (List.replicate up.length false) _ ⟨by simp, fun a' h => by omega, fun a' _ h => by simp [h]⟩ (by have M3 := M2.newC hr (.row 4 [.agg (nodeC x)]); unfold TM; rw [List.map_replicate]; exact M3))
    have M5 : Own h0 ([.slc 1 (.sl ro 1 0 N) (R.set i (.sl ra 1 0 up.length))] ++ [.slc 1 (.sl ra 1 0 up.length) (m.map .bool)]) h2 := Own.pop (os := [_, _]) M4
    obtain ⟨Sg, h3, v', s1, g, M6⟩ := Own.settleAt (i := 0) (k := i) M5 rfl (List.getElem?_set_self (by omega))
    rw [B.all] at s1
    rw [List.set_set] at M6
    refine ⟨Sg, _, h3, Lits.refl _, g, rfl, table_l1 D G S hV hvl hO hn hlast hN hx hk d (i + 1) (by omega) _ h3 (by simp [hR]) (fun j hj => ?_) (fun j h1 h2 => ?_) M6⟩
    · by_cases e : j = i
      · subst e
        exact ⟨v', List.getElem?_set_self (by omega), slAgg1 s1, s1⟩
      · rw [List.getElem?_set_ne (by omega)]
        exact hdone j (by omega)
    · rw [List.getElem?_set_ne (by omega)]
      exact hrest j (by omega) h2
theorem table_ok {N : Nat} {last : Int} (D : DRd h t xs) (G : GoodT xs) (S : Small up val) (hV : Strss mV val) (hvl : val.length = up.length) (hO : OTab o up) (hn : up.length ≤ 512) (hlast : last = (N : Int) - 1) (hN : N ≤ xs.length) (hx : xs.length ≤ 1024)
    (hk : ∀ v, RowsF v N up.length (frc up val xs) → K v h) : ACalls prog 52 [t, .agg [mU, mV], o, .int .i64 last] h K := by
  refine s52_ok ?_
  unfold s52
  rw [show last + 1 = (N : Int) by omega]
  refine rg_of (by omega) (by omega) (mkS_own (by omega) (by omega) fun ro hro => ?_)
  refine s52l1_in (N + 1) (table_l1 D G S hV hvl hO hn hlast hN hx hk N 0 (by omega) (List.replicate N .nilsl) _ (by simp) (fun j hj => by omega) (fun j _ hj => by simp [hj]) ?_)
  have := (Own.start h).newS (es := 1) hro (List.replicate N .nilsl)
  rw [List.length_replicate] at this
  exact this
end Go.Proofs.YtaopdcjjcpgebaaGreatDoor

namespace Go.Proofs.YtaopdcjjcpgebaaGreatDoor
open Go Go.Sym Go.Proofs.Tryz
set_option maxRecDepth 100000
variable {K : AVal → Heap → Prop} {h h0 hb : Heap} {t mU mV o : AVal} {up : List (List Int)} {val : List (List ByteArray)} {xs : List Nd}
theorem with05_ok {v : AVal} {ws : List (BitVec 64)} (B : BitsV v ws) {n : Nat} (hn : n < 1024) (hk : K (.agg ((putW ws n).map wV)) h) : ACalls prog 26 [v, .int .i64 (n : Int)] h K := by
  refine s26_ok ?_
  unfold s26
  rw [B.eq]
  refine BitsV.agg (v := .agg (ws.map wV)) ⟨rfl, B.len⟩ _ (newRow_in fun r hr => newRow_in fun r1 hr1 => ⟨by decide, ?_⟩)
  have e1 : Int.tdiv (n : Int) 64 = ((n / 64 : Nat) : Int) := rfl
  have e2 : Int.tmod (n : Int) 64 = ((n % 64 : Nat) : Int) := rfl
  rw [e1, e2]
  have M := ((Own.start h).newC hr (.row 16 [.agg (ws.map wV)])).newC hr1 (.row 16 [.agg zW])
  refine rg_of (by omega) (by omega) ⟨by decide, rg_of (by omega) (by omega) (ixP_w (by omega) ?_)⟩
  rw [ld1_fld (M.get 0 _ r rfl rfl) (ws_get B.len (by omega)), wV, tInt_int]
  refine ⟨by decide, by rw [w_wrap]; omega, ixP_w (by omega) (st_fld (M.get 0 _ r rfl rfl) (by simp [B.len]; omega) ?_)⟩
  have e4 : IntKind.u64.wrap (1 * 2 ^ (min (Int.toNat (IntKind.u64.wrap ((n % 64 : Nat) : Int))) IntKind.u64.bits)) = (((1#64 <<< (n % 64)).toNat : Nat) : Int) := by
    rw [w_wrap, Nat.mod_eq_of_lt (by omega)]
    exact w_shl 1#64 (by omega)
  rw [e4, w_or]
  have e5 : (ws.map wV).set (n / 64) (.int .u64 (((ws.getD (n / 64) 0#64 ||| 1#64 <<< (n % 64)).toNat : Nat) : Int)) = (putW ws n).map wV := ws_set _
  rw [e5]
  have M2 := M.put (i := 0) rfl (.row 16 [.agg ((putW ws n).map wV)])
  rw [ldN_fld (n := 16) (cs := (putW ws n).map wV) (Heap.set_same _ _ _) (by simp [putW_len, B.len])]
  refine aggN_l (by simp [putW_len, B.len]) (st_all (M2.get 1 _ r1 rfl rfl) (by simp [putW_len, B.len, zW]) ?_)
  rw [ldN_fld (n := 16) (cs := (putW ws n).map wV) (Heap.set_same _ _ _) (by simp [putW_len, B.len])]
  exact retG_drop (M2.put (i := 1) rfl _).old hk
/- ---- At, Worlds ---- -/
section
variable (D : DRd h t xs) (G : GoodT xs) (hx : xs.length ≤ 1024) (S : Small up val) (hU : Intss mU up) (hV : Strss mV val)
include D G hx S hU hV
theorem at18_ok (w i : Int) (hk : K (.tuple [.bool (atR up val xs w i).1, .int .i64 (atR up val xs w i).2]) h) : ACalls prog 28 [t, .agg [mU, mV], .int .i64 w, .int .i64 i] h K := by
  refine s28_ok ?_
  unfold s28
  unfold atR at hk
  refine callG_of (right_ok S hU hV (fun hW => ?_) (fun W o hO => ?_))
  · rw [tTup_tuple, tCons_cons, tCons_cons, tBool_bool, tNil_nil]
    rw [if_pos hW] at hk
    exact ifT_pos rfl (retG_of hk)
  · rw [tTup_tuple, tCons_cons, tCons_cons, tBool_bool, tNil_nil]
    rw [if_neg (fun e => e W)] at hk
    refine ifT_neg rfl ?_
    by_cases h0 : w < 0
    · rw [if_pos (by rw [decide_eq_false (p := 0 ≤ w) (by omega)]; rfl)] at hk
      refine ifT_pos (decide_eq_true h0) ?_
      unfold s28c1
      exact ifT_pos rfl (retG_of hk)
    · refine ifT_neg (decide_eq_false h0) ?_
      rw [hO.len]
      unfold s28c1
      by_cases h1 : (up.length : Int) ≤ w
      · rw [if_pos (by rw [decide_eq_false (p := w < up.length) (by omega), Bool.and_false])] at hk
        exact ifT_pos (decide_eq_true h1) (retG_of hk)
      · rw [if_neg (by rw [decide_eq_true (p := 0 ≤ w) (by omega), decide_eq_true (p := w < up.length) (by omega)]; simp)] at hk
        refine ifT_neg (decide_eq_false h1) (callG_of (hasT_ok D i ?_))
        rw [tBool_bool]
        cases hh : hasN xs.length i with
        | false =>
          rw [if_pos hh] at hk
          exact ifT_pos rfl (retG_of hk)
        | true =>
          rw [if_neg (by simp [hh])] at hk
          obtain ⟨j, y, rfl, hy⟩ := hasN_get hh
          have hj := (List.getElem?_eq_some_iff.1 hy).1
          obtain ⟨a, rfl⟩ := Int.eq_ofNat_of_zero_le (show 0 ≤ w by omega)
          rw [Int.toNat_natCast, Int.toNat_natCast] at hk
          refine ifT_neg rfl ?_
          rw [ldN_agg2, tCons_cons, tCons_cons, tNil_nil]
          refine callG_of (table_ok (N := j + 1) D G S hV W.len hO W.max (by omega) (by omega) hx fun v R => ?_)
          obtain ⟨e, hs, hrd⟩ := R.row (show j < j + 1 by omega)
          rw [hrd, boolS hs (show a < up.length by omega), tBool_bool]
          exact retG_of hk
omit D G hx S hU hV in
theorem worlds18_l1 {j : Nat} {e : AVal} (hup : up.length ≤ 512) (hs : SlOf 1 e ((List.range up.length).map fun a => .bool (frc up val xs j a))) (hk : ∀ v, Ints v (natI (onL up val xs j)) → K (.tuple [v, .int .i64 0]) h) :
    ∀ d w : Nat, w + d = up.length → ∀ u h', Own h [.slc 1 u ((natI ((List.range w).filter (frc up val xs j))).map (.int .i64))] h' → s32l1 K (d + 1) e u (w : Int) h'
  | 0, w, hd, u, h', M => by
    obtain rfl : w = up.length := by omega
    unfold s32l1
    rw [lenN_of hs, List.length_map, List.length_range]
    refine ifT_neg (by simp) ?_
    obtain ⟨v', lv, sv⟩ := M.lit (i := 0) rfl (S := nameOf u) (fun _ h => h) (Lits.refl _)
    exact ⟨_, .tuple [v', .int .i64 0], h, .tuple (.cons lv (.cons (.refl _) .nil)), base_step M _ (fun n hn => M.new 0 _ n rfl hn), hk v' sv⟩
  | d + 1, w, hd, u, h', M => by
    have hw : w < up.length := by omega
    unfold s32l1
    rw [lenN_of hs, List.length_map, List.length_range]
    refine ifT_pos (decide_eq_true (by omega)) ?_
    rw [boolS hs hw, tBool_bool]
    have hsucc := range_filter_succ (frc up val xs j) w
    have hlen : ((natI ((List.range w).filter (frc up val xs j))).map (AVal.int .i64)).length ≤ w := by
      simp only [natI, List.length_map]
      have := List.length_filter_le (frc up val xs j) (List.range w)
      simpa using this
    cases hf : frc up val xs j w with
    | true =>
      refine ifT_pos rfl (Own.app M (i := 0) rfl (by omega) (by omega) fun v3 h3 M3 => ?_)
      unfold s32c2
      refine rg_of (by omega) (by omega) (s32l1_go (worlds18_l1 hup hs hk d (w + 1) (by omega) v3 h3 ?_))
      rw [hsucc, hf]
      simpa [natI] using M3
    | false =>
      refine ifT_neg rfl ?_
      unfold s32c2
      refine rg_of (by omega) (by omega) (s32l1_go (worlds18_l1 hup hs hk d (w + 1) (by omega) u h' ?_))
      rw [hsucc, hf]
      simpa using M
theorem worlds18_ok (i : Int) (hk : ∀ v, Ints v (natI (worldsR up val xs i).1) → K (.tuple [v, .int .i64 (worldsR up val xs i).2]) h) : ACalls prog 32 [t, .agg [mU, mV], .int .i64 i] h K := by
  refine s32_ok ?_
  unfold s32
  unfold worldsR at hk
  refine callG_of (right_ok S hU hV (fun hW => ?_) (fun W o hO => ?_))
  · rw [tTup_tuple, tCons_cons, tCons_cons, tBool_bool, tNil_nil]
    rw [if_pos hW] at hk
    exact ifT_pos rfl (retG_of (hk _ (.nil 1)))
  · rw [tTup_tuple, tCons_cons, tCons_cons, tBool_bool, tNil_nil]
    rw [if_neg (fun e => e W)] at hk
    refine ifT_neg rfl (callG_of (hasT_ok D i ?_))
    rw [tBool_bool]
    cases hh : hasN xs.length i with
    | false =>
      rw [if_pos hh] at hk
      exact ifT_pos rfl (retG_of (hk _ (.nil 1)))
    | true =>
      rw [if_neg (by simp [hh])] at hk
      obtain ⟨j, y, rfl, hy⟩ := hasN_get hh
      have hj := (List.getElem?_eq_some_iff.1 hy).1
      rw [Int.toNat_natCast] at hk
      refine ifT_neg rfl (callG_of (table_ok (N := j + 1) D G S hV W.len hO W.max (by omega) (by omega) hx fun v R => ?_))
      obtain ⟨e, hs, hrd⟩ := R.row (show j < j + 1 by omega)
      rw [hrd]
      exact s32l1_in (up.length + 1) (worlds18_l1 W.max hs hk up.length 0 (by omega) .nilsl h ((Own.start h).newN 1))
end
end Go.Proofs.YtaopdcjjcpgebaaGreatDoor

namespace Go.Proofs.YtaopdcjjcpgebaaGreatDoor
open Go Go.Sym Go.Proofs.Tryz
set_option maxRecDepth 100000
variable {K : AVal → Heap → Prop} {h h0 hb : Heap} {t mU mV o : AVal} {up : List (List Int)} {val : List (List ByteArray)} {xs : List Nd}
theorem all18_l2 {r r1 w : Nat} {f : AVal} (hr : h0 r = some (.row 16 [.agg zW])) (R : RowsF f xs.length up.length (frc up val xs)) (hw : w < up.length) (hx : xs.length ≤ 1024)
    (hk : ∀ H, Ext h0 H → H r = some (.row 16 [.agg zW]) → st false H (.ptr r 0 0) ((ofW ((List.range xs.length).filter fun i => frc up val xs i w)).map wV) fun h9 => ldN 16 h9 (.ptr r 0 0) fun l => retG (.tuple [.agg l, .int .i64 0]) h9 K) :
    ∀ d i : Nat, i + d = xs.length → ∀ h, Own h0 [.cell r1 (.row 16 [.agg ((ofW ((List.range i).filter fun i => frc up val xs i w)).map wV)])] h → s30l2 K (d + 1) (w : Int) (.ptr r 0 0) f (.ptr r1 0 0) (i : Int) h
  | 0, i, hd, h, M => by
    obtain rfl : i = xs.length := by omega
    unfold s30l2
    rw [R.len]
    refine ifT_neg (by simp) ?_
    rw [ldN_fld (n := 16) (M.get 0 _ r1 rfl rfl) (by simp [ofW_len])]
    exact aggN_l (by simp [ofW_len]) (hk h M.old (M.old _ _ hr))
  | d + 1, i, hd, h, M => by
    have hi : i < xs.length := by omega
    unfold s30l2
    rw [R.len]
    refine ifT_pos (decide_eq_true (by omega)) ?_
    obtain ⟨e, hs, hrd⟩ := R.row hi
    rw [hrd, boolS hs hw, tBool_bool]
    have hsucc := range_filter_succ (fun i => frc up val xs i w) i
    cases hf : frc up val xs i w with
    | true =>
      refine ifT_pos rfl ?_
      rw [ldN_fld (n := 16) (M.get 0 _ r1 rfl rfl) (by simp [ofW_len])]
      refine callG_of (with05_ok ⟨rfl, ofW_len _⟩ (by omega) ?_)
      refine aggN_l (by simp [putW_len, ofW_len]) (st_all (M.get 0 _ r1 rfl rfl) (by simp [putW_len, ofW_len]) ?_)
      unfold s30c3
      refine rg_of (by omega) (by omega) (s30l2_go (all18_l2 hr R hw hx hk d (i + 1) (by omega) _ ?_))
      rw [hsucc, hf, if_pos rfl, ofW_app]
      exact M.put (i := 0) rfl _
    | false =>
      refine ifT_neg rfl ?_
      unfold s30c3
      refine rg_of (by omega) (by omega) (s30l2_go (all18_l2 hr R hw hx hk d (i + 1) (by omega) h ?_))
      rw [hsucc, hf]
      simpa using M
section
variable (D : DRd h t xs) (G : GoodT xs) (hx : xs.length ≤ 1024) (S : Small up val) (hU : Intss mU up) (hV : Strss mV val)
include D G hx S hU hV
theorem all18_ok (w : Int) (hk : K (.tuple [.agg ((allR up val xs w).1.map wV), .int .i64 (allR up val xs w).2]) h) : ACalls prog 30 [t, .agg [mU, mV], .int .i64 w] h K := by
  refine s30_ok ?_
  unfold s30
  unfold allR at hk
  refine newRow_in fun r hr => ?_
  have e0 : Ext h (h.set r (.row 16 [.agg zW])) := Ext.new hr _
  have fin : ∀ (ws : List (BitVec 64)) (c : Int) H, ws.length = 16 → Ext h H → H r = some (.row 16 [.agg zW]) → K (.tuple [.agg (ws.map wV), .int .i64 c]) h → st false H (.ptr r 0 0) (ws.map wV) fun h2 => ldN 16 h2 (.ptr r 0 0) fun l => retG (.tuple [.agg l, .int .i64 c]) h2 K := fun ws c H hl x hH hc => by
    refine st_all hH (by simp [hl, zW]) ?_
    rw [ldN_fld (n := 16) (cs := ws.map wV) (Heap.set_same _ _ _) (by simp [hl])]
    exact retG_drop (Ext.put x hr _) hc
  refine callG_of (right_ok S hU hV (fun hW => ?_) (fun W o hO => ?_))
  · rw [tTup_tuple, tCons_cons, tCons_cons, tBool_bool, tNil_nil]
    rw [if_pos hW] at hk
    exact ifT_pos rfl (fin noW 170 _ rfl e0 (Heap.set_same _ _ _) hk)
  · rw [tTup_tuple, tCons_cons, tCons_cons, tBool_bool, tNil_nil]
    rw [if_neg (fun e => e W)] at hk
    refine ifT_neg rfl ?_
    by_cases h0 : w < 0
    · rw [if_pos (by rw [decide_eq_false (p := 0 ≤ w) (by omega)]; rfl)] at hk
      refine ifT_pos (decide_eq_true h0) ?_
      unfold s30c1
      exact ifT_pos rfl (fin noW 2 _ rfl e0 (Heap.set_same _ _ _) hk)
    · refine ifT_neg (decide_eq_false h0) ?_
      rw [hO.len]
      unfold s30c1
      by_cases h1 : (up.length : Int) ≤ w
      · rw [if_pos (by rw [decide_eq_false (p := w < up.length) (by omega), Bool.and_false])] at hk
        exact ifT_pos (decide_eq_true h1) (fin noW 2 _ rfl e0 (Heap.set_same _ _ _) hk)
      · rw [if_neg (by rw [decide_eq_true (p := 0 ≤ w) (by omega), decide_eq_true (p := w < up.length) (by omega)]; simp)] at hk
        refine ifT_neg (decide_eq_false h1) ?_
        rw [ldN_agg2, tCons_cons, tCons_cons, tNil_nil]
        obtain ⟨vN, hv, ld⟩ := (D.ext e0).ld
        rw [ld, hv.len]
        obtain ⟨a, rfl⟩ := Int.eq_ofNat_of_zero_le (show 0 ≤ w by omega)
        rw [Int.toNat_natCast] at hk
        refine rg_of (by omega) (by omega) (callG_of (table_ok (N := xs.length) (D.ext e0) G S hV W.len hO W.max (by omega) (Nat.le_refl _) hx fun f R => ?_))
        refine newRow_in fun r1 hr1 => st_all (Heap.set_same _ _ _) rfl ?_
        rw [Heap.set_set]
        refine s30l2_in (xs.length + 1) (all18_l2 (h0 := h.set r (.row 16 [.agg zW])) (Heap.set_same _ _ _) R (show a < up.length by omega) hx (fun H x hH => fin _ 0 H (ofW_len _) (e0.trans x) hH hk) xs.length 0 (by omega) _ ?_)
        exact (Own.start _).newC hr1 _
end
end Go.Proofs.YtaopdcjjcpgebaaGreatDoor

namespace Go.Proofs.YtaopdcjjcpgebaaGreatDoor
open Go Go.Sym Go.Proofs.Tryz
variable {K : AVal → Heap → Prop} {h h0 hb : Heap}
theorem tables_ok {v : AVal} {xs : List Nd} (hv : Nodes v xs) (hxs : xs.length ≤ 1048576) (hs : ∀ x ∈ xs, x.s.size ≤ 1073741824)
    (good : ∀ ys, okTab ys → ys.length ≤ 1024 → (∀ x ∈ ys, x.s.size ≤ 1073741824) → ∀ rt rd h', TT h0 rt rd ys ys [] h' → K (.tuple [.ptr rt 0 0, .ptr rd 0 0]) h') : ACalls prog 12 [v] h0 K := by
  refine s12_ok ?_
  unfold s12
  refine callG_of (both_ok hv hxs hs (fun nok => ?_) (fun ok hl rt rd h' W => ?_))
  · rw [tTup_tuple, tCons_cons, tCons_cons, tCons_cons, tBool_bool, tNil_nil]
    refine ifT_pos rfl (callG_of (newP_ok (Own.start h0) fun rt h' W => newRow_in fun rd hrd => retG_of (good [] okTab_nil (by simp) (fun x hx => by cases hx) rt rd _ ⟨.nilsl, ?_⟩)))
    obtain ⟨vN, q, O⟩ := W
    refine ⟨vN, q, ?_⟩
    exact (O.newN 4).newC hrd (.row 1 [.agg [.nilsl]])
  · rw [tTup_tuple, tCons_cons, tCons_cons, tCons_cons, tBool_bool, tNil_nil]
    exact ifT_neg rfl (retG_of (good xs ok hl hs rt rd h' W))
end Go.Proofs.YtaopdcjjcpgebaaGreatDoor

namespace Go.Proofs.YtaopdcjjcpgebaaGreatDoor
open Go Go.Sym Go.Proofs.Tryz
variable {K : AVal → Heap → Prop} {h : Heap} {up up' : List (List Int)} {val val' : List (List ByteArray)} {mU mV nU nV : AVal}
theorem copy_l2 (S : Small up val) (hV : Strss mV val) {hb : Heap} {ro rt : Nat} {X : AVal} (hrt : hb rt = some (.row 2 [.agg [.nilsl, X]])) {h0 : Heap} (hsub : ∀ q o, h0 q = some o → q ≠ rt ∧ hb q = some o)
    (good : ∀ vU vV, Intss vU up → Strss vV val → K (.agg [vU, vV]) h0) {LU : List AVal} (aU : All2 Ints LU up) :
    ∀ d i : Nat, i + d = val.length → ∀ vU vV LV h, MB hb ro vU vV LU LV h → All2 Strs LV (val.take i) → s14l2 K (d + 1) (.lptr [mU, mV]) (.ptr rt 0 0) (.ptr ro 0 0) (i : Int) h
  | 0, i, hd, vU, vV, LV, h, M, aV => by
    unfold s14l2
    rw [addOff_lptr]
    simp only [List.drop_succ_cons, List.drop_zero, ld1_lptr]
    rw [hV.len]
    refine ifT_neg (by simp; omega) ?_
    rw [M.ld, tCons_cons, tCons_cons, tNil_nil]
    have M1 := M.upd (x := .row 2 [.agg [vU, vV]]) hrt
    refine st_all (M.old hrt) rfl ?_
    rw [ldN2 (Heap.set_same _ _ _), tCons_cons, tCons_cons, tNil_nil]
    obtain ⟨Sn, vU', vV', l1, l2, s1, s2, hS, hold⟩ := M1.freeze
    rw [List.take_of_length_le (by omega)] at aV
    refine ⟨Sn, _, h0, .agg (.cons l1 (.cons l2 .nil)), ⟨fun _ _ => trivial, fun q o hq => ⟨o, ?_, ?_, .refl o⟩⟩, good vU' vV' ⟨LU, s1, aU⟩ ⟨LV, s2, aV⟩⟩
    · obtain ⟨h1, h2⟩ := hsub q o hq
      exact hold q o (by rw [Heap.set_ne _ _ h1]; exact h2)
    · intro hs
      have h3 := hS q hs
      obtain ⟨h1, h2⟩ := hsub q o hq
      rw [Heap.set_ne _ _ h1, h2] at h3
      cases h3
  | d + 1, i, hd, vU, vV, LV, h, M, aV => by
    have hi : i < val.length := by omega
    have hvl := S.vals
    have hSn := S.names _ (List.getElem_mem hi)
    have hLV : LV.length ≤ i := by have := aV.length; simp at this; omega
    obtain ⟨ev, hev, hix⟩ := hV.ix hi
    unfold s14l2
    rw [addOff_lptr]
    simp only [List.drop_succ_cons, List.drop_zero, ld1_lptr]
    rw [hV.len]
    refine ifT_pos (by simp; omega) ?_
    rw [addOff_ptr, M.ldV, addOff_lptr]
    simp only [List.drop_succ_cons, List.drop_zero, ld1_lptr]
    rw [hix, ld1_lptr]
    refine newRow_in fun r2 hr2 => ?_
    have hget : (h.set r2 (.row 1 [])) ro = some (.row 2 [.agg [vU, vV]]) := Heap.set_sub hr2 _ _ M.get
    refine ⟨by first | rfl | trivial, ⟨by first | rfl | trivial, ⟨by rw [ld1_fld hget rfl], ?_⟩⟩⟩
    refine appC_copy hr2 (elemsA_of hev) (by simp; omega) (by simp; omega) fun cp h3 g2 => ?_
    have hget3 : h3 ro = some (.row 2 [.agg [vU, vV]]) := g2.old M.get
    refine ⟨by rw [ld1_fld hget3 rfl], chk_iff.2 ⟨g2.sc.1, ⟨by rw [ld1_fld hget3 rfl], ?_⟩⟩⟩
    obtain ⟨hb'', g3, M4⟩ := M.swap g2
    refine M4.appV (by omega) (by omega) fun v2 h4 M5 => ?_
    rw [addOff_ptr]
    refine chk_iff.2 ⟨M5.sc.2.1, M5.stV fun h5 M6 => rg_of (by omega) (by omega) ?_⟩
    obtain ⟨Sg, h6, cp', s1, M7, hg⟩ := M6.settleV g3
    refine ⟨Sg, _, h6, Lits.refl _, hg, rfl, ?_⟩
    have := copy_l2 S hV hrt hsub good aU d (i + 1) (by omega) vU v2 _ h6 M7 ?_
    · exact this
    · rw [List.take_succ_eq_append_getElem hi]
      exact aV.append (.cons s1 .nil)
theorem copy_l1 (S : Small up val) (hU : Intss mU up) (hV : Strss mV val) {hb : Heap} {ro rt : Nat} {X : AVal} (hrt : hb rt = some (.row 2 [.agg [.nilsl, X]])) {h0 : Heap} (hsub : ∀ q o, h0 q = some o → q ≠ rt ∧ hb q = some o)
    (good : ∀ vU vV, Intss vU up → Strss vV val → K (.agg [vU, vV]) h0) :
    ∀ d i : Nat, i + d = up.length → ∀ vU LU h, MB hb ro vU .nilsl LU [] h → All2 Ints LU (up.take i) → s14l1 K (d + 1) (.lptr [mU, mV]) (.ptr rt 0 0) (.ptr ro 0 0) (i : Int) h
  | 0, i, hd, vU, LU, h, M, aU => by
    unfold s14l1
    rw [addOff_lptr]
    simp only [List.drop_zero, ld1_lptr]
    rw [hU.len]
    rw [List.take_of_length_le (by omega)] at aU
    exact ifT_neg (by simp; omega) (s14l2_in (val.length + 1) (copy_l2 S hV hrt hsub good aU val.length 0 (by omega) vU .nilsl [] h M .nil))
  | d + 1, i, hd, vU, LU, h, M, aU => by
    have hi : i < up.length := by omega
    have hvl := S.ups
    have hSn := S.row _ (List.getElem_mem hi)
    have hLU : LU.length ≤ i := by have := aU.length; simp at this; omega
    obtain ⟨ev, hev, hix⟩ := hU.ix hi
    unfold s14l1
    rw [addOff_lptr]
    simp only [List.drop_zero, ld1_lptr]
    rw [hU.len]
    refine ifT_pos (by simp; omega) ?_
    rw [addOff_ptr, M.ldU, addOff_lptr]
    simp only [List.drop_zero, ld1_lptr]
    rw [hix, ld1_lptr]
    refine newRow_in fun r2 hr2 => ?_
    have hget : (h.set r2 (.row 1 [])) ro = some (.row 2 [.agg [vU, .nilsl]]) := Heap.set_sub hr2 _ _ M.get
    refine ⟨by first | rfl | trivial, ⟨by first | rfl | trivial, ⟨by rw [ld1_fld hget rfl], ?_⟩⟩⟩
    refine appC_copy hr2 (elemsA_of hev) (by simp; omega) (by simp; omega) fun cp h3 g2 => ?_
    have hget3 : h3 ro = some (.row 2 [.agg [vU, .nilsl]]) := g2.old M.get
    refine ⟨by rw [ld1_fld hget3 rfl], chk_iff.2 ⟨g2.sc.1, ⟨by rw [ld1_fld hget3 rfl], ?_⟩⟩⟩
    obtain ⟨hb'', g3, M4⟩ := M.swap g2
    refine M4.appU (by omega) (by omega) fun v2 h4 M5 => ?_
    rw [addOff_ptr]
    refine chk_iff.2 ⟨M5.sc.1.1, M5.stU fun h5 M6 => rg_of (by omega) (by omega) ?_⟩
    obtain ⟨Sg, h6, cp', s1, M7, hg⟩ := M6.settle1 g3
    refine ⟨Sg, _, h6, Lits.refl _, hg, rfl, ?_⟩
    have := copy_l1 S hU hV hrt hsub good d (i + 1) (by omega) v2 _ h6 M7 ?_
    · exact this
    · rw [List.take_succ_eq_append_getElem hi]
      exact aU.append (.cons s1 .nil)
theorem copy_ok (S : Small up val) (hU : Intss mU up) (hV : Strss mV val) (good : ∀ vU vV, Intss vU up → Strss vV val → K (.agg [vU, vV]) h) : ACalls prog 14 [.agg [mU, mV]] h K := by
  refine s14_ok ?_
  unfold s14
  refine newRow_in fun rt hrt => newRow_in fun ro hro => st_all (Heap.set_same _ _ _) rfl ?_
  rw [Heap.set_set]
  exact s14l1_in (up.length + 1) (copy_l1 S hU hV (Heap.set_same _ _ _) (fun q o hq => ⟨(fun e => by rw [e, hrt] at hq; cases hq), Heap.set_sub hrt q o hq⟩) good up.length 0 (by omega) .nilsl [] _ (MBs.start hro) .nil)
end Go.Proofs.YtaopdcjjcpgebaaGreatDoor

namespace Go.Proofs.YtaopdcjjcpgebaaGreatDoor
open Go Go.Sym Go.Proofs.Tryz
set_option maxRecDepth 100000
variable {K : AVal → Heap → Prop} {h h0 hb : Heap} {mU mV : AVal} {up : List (List Int)} {val : List (List ByteArray)}
theorem eqQ_b18 {p q : Bool} {X : Bool → Prop} (hx : X (p == q)) : eqQ prog 4 (.bool p) (.bool q) X := by
  have e : eqT prog 8 4 (.bool p) (.bool q) = some (p == q) := by cases p <;> cases q <;> kernel_rfl
  refine ⟨trivial, ?_⟩
  rw [e]
  exact hx
theorem headsRet18 (hk : ∀ h', K (.bool true) h') : callG prog 17 [] h fun v h' => tBool v fun b => retG (.bool b) h' K :=
  callG_of (heads18 (by rw [tBool_bool]; exact retG_of (hk _)))
theorem tellsL_ok (hk : ∀ h', K (.bool true) h') {rv : AVal} {xs : List Nd} (hr : Nodes rv xs) (hxs : xs.length ≤ 1048576) (hs : ∀ x ∈ xs, x.s.size ≤ 1073741824) (S : Small up val) (hU : Intss mU up) (hV : Strss mV val) (w id : Int) :
    ACalls prog 7 [rv, .agg [mU, mV], .int .i64 w, .int .i64 id] h K := by
  refine s7_ok ?_
  unfold s7
  refine callG_of (tables_ok hr hxs hs fun ys ok hy hys rt rd h1 W1 => ?_)
  obtain ⟨P1, D1⟩ := W1.reads
  have G := okTab_good ok
  rw [tTup_tuple, tCons_cons, tCons_cons, tNil_nil]
  refine callG_of (copy_ok S hU hV fun vU vV hvU hvV => ?_)
  rw [tAgg_agg, tCons_cons, tCons_cons, tNil_nil]
  refine newRow_in fun r hr => st_all (Heap.set_same _ _ _) rfl ?_
  rw [Heap.set_set]
  have P2 := P1.ext (h' := h1.set r (.row 2 [.agg [vU, vV]])) (Ext.new hr _)
  have D2 := D1.ext (h' := h1.set r (.row 2 [.agg [vU, vV]])) (Ext.new hr _)
  have g2 : (h1.set r (.row 2 [.agg [vU, vV]])) r = some (.row 2 [.agg [vU, vV]]) := Heap.set_same _ _ _
  generalize h1.set r (.row 2 [.agg [vU, vV]]) = h2 at P2 D2 g2 ⊢
  have rdm : ∀ {H}, H r = some (.row 2 [.agg [vU, vV]]) → ∀ X, ldN 2 H (.ptr r 0 0) X = X [vU, vV] := fun hH X => ldN_fld (n := 2) (cs := [vU, vV]) hH rfl X
  rw [rdm g2, tCons_cons, tCons_cons, tNil_nil]
  refine callG_of (atF_ok P2 G hy rfl S hvU hvV w id ?_)
  rw [tTup_tuple, tCons_cons, tBool_bool, tCons_cons, tInt_int, tNil_nil]
  refine callG_of (at18_ok D2 G hy S hU hV w id ?_)
  rw [tTup_tuple, tCons_cons, tBool_bool, tCons_cons, tInt_int, tNil_nil, rdm g2, tCons_cons, tCons_cons, tNil_nil]
  refine callG_of (allF_ok P2 G hy rfl S hvU hvV w ?_)
  rw [tTup_tuple, tCons_cons, tCons_cons, tInt_int, tNil_nil]
  have hal := allR_len (up := up) (val := val) (xs := ys) w
  refine newRow_in fun r1 hr1 => aggN_l (by simp [hal]) (st_all (Heap.set_same _ _ _) (by simp [hal]) ?_)
  rw [Heap.set_set]
  have hne : r ≠ r1 := fun e => by rw [← e, g2] at hr1; cases hr1
  have P3 := P2.ext (h' := h2.set r1 (.row 16 [.agg ((allR up val ys w).1.map wV)])) (Ext.new hr1 _)
  have D3 := D2.ext (h' := h2.set r1 (.row 16 [.agg ((allR up val ys w).1.map wV)])) (Ext.new hr1 _)
  have g3 : (h2.set r1 (.row 16 [.agg ((allR up val ys w).1.map wV)])) r = some (.row 2 [.agg [vU, vV]]) := by rw [Heap.set_other _ _ hne]; exact g2
  have a3 : (h2.set r1 (.row 16 [.agg ((allR up val ys w).1.map wV)])) r1 = some (.row 16 [.agg ((allR up val ys w).1.map wV)]) := Heap.set_same _ _ _
  generalize h2.set r1 (.row 16 [.agg ((allR up val ys w).1.map wV)]) = h3 at P3 D3 g3 a3 ⊢
  refine callG_of (all18_ok D3 G hy S hU hV w ?_)
  rw [tTup_tuple, tCons_cons, tCons_cons, tInt_int, tNil_nil]
  refine newRow_in fun r2 hr2 => aggN_l (by simp [hal]) (st_all (Heap.set_same _ _ _) (by simp [hal]) ?_)
  rw [Heap.set_set]
  have hne2 : r ≠ r2 := fun e => by rw [← e, g3] at hr2; cases hr2
  have hne3 : r1 ≠ r2 := fun e => by rw [← e, a3] at hr2; cases hr2
  have P4 := P3.ext (h' := h3.set r2 (.row 16 [.agg ((allR up val ys w).1.map wV)])) (Ext.new hr2 _)
  have D4 := D3.ext (h' := h3.set r2 (.row 16 [.agg ((allR up val ys w).1.map wV)])) (Ext.new hr2 _)
  have g4 : (h3.set r2 (.row 16 [.agg ((allR up val ys w).1.map wV)])) r = some (.row 2 [.agg [vU, vV]]) := by rw [Heap.set_other _ _ hne2]; exact g3
  have a4 : (h3.set r2 (.row 16 [.agg ((allR up val ys w).1.map wV)])) r1 = some (.row 16 [.agg ((allR up val ys w).1.map wV)]) := by rw [Heap.set_other _ _ hne3]; exact a3
  have b4 : (h3.set r2 (.row 16 [.agg ((allR up val ys w).1.map wV)])) r2 = some (.row 16 [.agg ((allR up val ys w).1.map wV)]) := Heap.set_same _ _ _
  generalize h3.set r2 (.row 16 [.agg ((allR up val ys w).1.map wV)]) = h4 at P4 D4 g4 a4 b4 ⊢
  rw [rdm g4, tCons_cons, tCons_cons, tNil_nil]
  refine callG_of (worldsR_ok P4 G hy rfl S hvU hvV id fun v1 hv1 => ?_)
  rw [tTup_tuple, tCons_cons, tCons_cons, tInt_int, tNil_nil]
  refine callG_of (worlds18_ok D4 G hy S hU hV id fun v2 hv2 => ?_)
  rw [tTup_tuple, tCons_cons, tCons_cons, tInt_int, tNil_nil, rdm g4, tCons_cons, tCons_cons, tNil_nil]
  refine callG_of (validF_ok P4 G hy rfl S hvU hvV id ?_)
  rw [tTup_tuple, tCons_cons, tBool_bool, tCons_cons, tInt_int, tNil_nil]
  refine eqQ_b18 (ifT_pos (by simp) (callG_of (num18_ok ?_)))
  rw [tInt_int]
  refine ifT_pos (by simp) ?_
  rw [ldN_fld (n := 16) (cs := (allR up val ys w).1.map wV) a4 (by simp [hal]), ldN_fld (n := 16) (cs := (allR up val ys w).1.map wV) b4 (by simp [hal])]
  refine eqBits hal hal (ifT_pos (by simp) (callG_of (num18_ok ?_)))
  rw [tInt_int]
  have hwl : (natI (worldsR up val ys id).1).length ≤ 1073741824 := by
    have hup := S.ups
    unfold worldsR
    split
    · simp [natI]
    · split
      · simp [natI]
      · have := List.length_filter_le (frc up val ys id.toNat) (List.range up.length)
        rw [List.length_range] at this
        unfold onL
        simp only [natI, List.length_map]
        omega
  refine ifT_pos (by simp) (callG_of (ints_ok hv1 hv2 hwl ?_))
  rw [tBool_bool]
  refine ifT_pos (by simp) (callG_of (num18_ok ?_))
  rw [tInt_int]
  refine ifT_pos (by simp) ?_
  have e2 : (validR up val ys id).2 = (worldsR up val ys id).2 := rfl
  have tail : ∀ h5, h5 = h4 → callG prog 16 [.int .i64 (validR up val ys id).2] h5 fun v53 h_19 => tInt .i64 v53 fun v54 => ifT (v54 == (worldsR up val ys id).2) (
      ldN 2 h_19 (.ptr r 0 0) fun l_41 => tCons l_41 fun v55 l_42 => tCons l_42 fun v56 l_43 => tNil l_43 (
      callG prog 20 [.agg [v55, v56], .agg [mU, mV]] h_19 fun v57 h_20 => tBool v57 fun v58 => ifT v58 (
      callG prog 34 [.ptr rt 0 0, .ptr rd 0 0] h_20 fun v59 h_21 => tBool v59 fun v60 => ifT v60 (
      callG prog 17 [] h_21 fun v61 h_22 => tBool v61 fun v62 => retG (.bool v62) h_22 K) (retG (.bool false) h_21 K)) (retG (.bool false) h_20 K))) (retG (.bool false) h_19 K) := fun h5 e5 => by
    subst e5
    refine callG_of (num18_ok ?_)
    rw [tInt_int, e2]
    refine ifT_pos (by simp) ?_
    rw [rdm g4, tCons_cons, tCons_cons, tNil_nil]
    refine callG_of (same_ok S hvU hvV hU hV ?_)
    rw [tBool_bool]
    refine ifT_pos (by simp) (callG_of (likeT4_ok P4 D4 (by omega) fun h6 x6 => ?_))
    rw [tBool_bool]
    exact ifT_pos rfl (headsRet18 hk)
  have e1 : (validR up val ys id).1 = (decide ((worldsR up val ys id).2 = 0) && decide ((worldsR up val ys id).1.length = up.length)) := rfl
  by_cases h0 : (worldsR up val ys id).2 = 0
  · refine ifT_pos (by rw [h0]; rfl) ?_
    rw [hv2.len, hU.len]
    have e3 : (((natI (worldsR up val ys id).1).length : Int) == (up.length : Int)) = decide ((worldsR up val ys id).1.length = up.length) := by
      rw [Bool.eq_iff_iff]
      simp only [natI, List.length_map, beq_iff_eq, decide_eq_true_eq]
      omega
    rw [e3]
    refine eqQ_b18 (ifT_pos (by rw [e1, decide_eq_true h0]; simp) (tail _ rfl))
  · refine ifT_neg (by simpa using h0) ?_
    refine eqQ_b18 (ifT_pos (by rw [e1, decide_eq_false h0]; rfl) (tail _ rfl))
end Go.Proofs.YtaopdcjjcpgebaaGreatDoor

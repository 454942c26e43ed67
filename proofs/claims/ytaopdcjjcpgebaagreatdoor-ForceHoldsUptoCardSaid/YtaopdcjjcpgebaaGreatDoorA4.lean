/- Contracts: the document's table of what is forced where. No condition. Contracts: the document's sets of numbers, right sequents; what a world forces (the document). No condition. Contracts: all formulas that a world forces; does a sequent hold (the document). No condition. Contracts: both tables out of rows (a law's own). No condition. Contracts: a copy of a model. No condition. ForceTells over its inputs. No condition. ForceHolds over its inputs. No condition. -/
import Derived.Test.YtaopdcjjcpgebaaGreatDoorA2
import Derived.Test.YtaopdcjjcpgebaaGreatDoorA3
import Derived.Test.YtaopdcjjcpgebaaGreatDoorA1
import Derived.Test.YtaopdcjjcpgebaaGreatDoorM5

set_option linter.unusedVariables false
set_option linter.unusedSimpArgs false

namespace Go.Proofs.YtaopdcjjcpgebaaGreatDoor
open Go Go.Sym Go.Proofs.Tryz
set_option maxRecDepth 100000
variable {K : AVal → Heap → Prop} {h h0 hb : Heap} {t mU mV o : AVal} {up : List (List Int)} {val : List (List ByteArray)} {xs : List Nd}
structure Mk (n : Nat) (g : Nat → Bool) (a : Nat) (marks : List Bool) : Prop where
  len : marks.length = n
  done : ∀ a', a' < a → marks[a']? = some (g a')
  rest : ∀ a', a ≤ a' → a' < n → marks[a']? = some false
theorem Mk.next {n : Nat} {g : Nat → Bool} {a : Nat} {marks : List Bool} {b : Bool} (M : Mk n g a marks) (ha : a < n) (hb : b = g a) : Mk n g (a + 1) (marks.set a b) where
  len := by rw [List.length_set]; exact M.len
  done a' h := by
    by_cases e : a' = a
    · subst e; rw [hb]; exact List.getElem?_set_self (by rw [M.len]; exact ha)
    · rw [List.getElem?_set_ne (Ne.symm e)]; exact M.done a' (by omega)
  rest a' h1 h2 := by rw [List.getElem?_set_ne (by omega)]; exact M.rest a' (by omega) h2
theorem Mk.all {n : Nat} {g : Nat → Bool} {marks : List Bool} (M : Mk n g n marks) : marks.map AVal.bool = (List.range n).map fun a => .bool (g a) := by
  apply List.ext_getElem?
  intro i
  by_cases hi : i < n
  · simp [M.done i hi, hi]
  · rw [List.getElem?_eq_none (by rw [List.length_map, M.len]; omega), List.getElem?_eq_none (by simp; omega)]
structure RowsF (v : AVal) (m n : Nat) (f : Nat → Nat → Bool) : Prop where
  ex : ∃ rows, SlOf 1 v rows ∧ rows.length = m ∧ ∀ j, j < m → ∃ e, rows[j]? = some e ∧ e.isAgg = false ∧ SlOf 1 e ((List.range n).map fun a => .bool (f j a))
theorem cells1 {e : AVal} (h : e.isAgg = false) : cellsOf e = [e] := by cases e <;> first | rfl | cases h
theorem RowsF.len {v : AVal} {m n : Nat} {f : Nat → Nat → Bool} (R : RowsF v m n f) (X : Int → Prop) : lenN v X = X m := by
  obtain ⟨rows, h1, h2, _⟩ := R.ex
  rw [lenN_of h1, h2]
theorem RowsF.row {v : AVal} {m n : Nat} {f : Nat → Nat → Bool} (R : RowsF v m n f) {j : Nat} (hj : j < m) : ∃ e, SlOf 1 e ((List.range n).map fun a => .bool (f j a)) ∧ ∀ (H : Heap) (X : AVal → Prop), (ixS 1 v (j : Int) fun p => ld1 H p X) = X e := by
  obtain ⟨rows, h1, h2, h3⟩ := R.ex
  obtain ⟨e, he, ha, hs⟩ := h3 j hj
  refine ⟨e, hs, fun H X => ?_⟩
  rw [ixS_nat h1 he, cells1 ha, ld1_lptr]
theorem boolS {e : AVal} {n : Nat} {g : Nat → Bool} (hs : SlOf 1 e ((List.range n).map fun a => .bool (g a))) {a : Nat} (ha : a < n) (H : Heap) (X : AVal → Prop) : (ixS 1 e (a : Int) fun p => ld1 H p X) = X (.bool (g a)) := by
  rw [ixS_nat hs (e := .bool (g a)) (by simp [ha])]
  rfl
theorem slAgg1 {es : Nat} {v : AVal} {l : List AVal} (hv : SlOf es v l) : v.isAgg = false := by rcases hv with rfl | ⟨rfl, _⟩ <;> rfl
abbrev TM (h0 : Heap) (ro ra r N n : Nat) (R : List AVal) (marks : List Bool) (x : Nd) (h : Heap) : Prop := Own h0 [.slc 1 (.sl ro 1 0 N) R, .slc 1 (.sl ra 1 0 n) (marks.map .bool), .cell r (.row 4 [.agg (nodeC x)])] h
structure TX (n i N ra : Nat) (R : List AVal) (T : Nat → Nat → Bool) : Prop where
  lenR : R.length = N
  at_ : R[i]? = some (.sl ra 1 0 n)
  done : ∀ j, j < i → ∃ e, R[j]? = some e ∧ e.isAgg = false ∧ SlOf 1 e ((List.range n).map fun a => .bool (T j a))
section
variable {ro ra r N n i a : Nat} {R : List AVal} {marks : List Bool} {T : Nat → Nat → Bool} {x : Nd} {last : Int}
theorem TM.rdR (M : TM h0 ro ra r N n R marks x h) (X : TX n i N ra R T) {Y : AVal → Prop} (hY : Y (.sl ra 1 0 n)) : ixS 1 (.sl ro 1 0 N) (i : Int) fun p => ld1 h p Y := Own.rd M (j := 0) rfl X.at_ rfl hY
theorem TM.rdA (M : TM h0 ro ra r N n R marks x h) {b : Bool} (hm : marks[a]? = some b) {Y : AVal → Prop} (hY : Y (.bool b)) : ixS 1 (.sl ra 1 0 n) (a : Int) fun p => ld1 h p Y := Own.rd M (j := 1) rfl (x := .bool b) (by simp [hm]) rfl hY
theorem TM.wrA (M : TM h0 ro ra r N n R marks x h) (hl : marks.length = n) (ha : a < n) {b : Bool} {Y : Heap → Prop} (hY : ∀ h', TM h0 ro ra r N n R (marks.set a b) x h' → Y h') : ixS 1 (.sl ra 1 0 n) (a : Int) fun p => st true h p [.bool b] Y := by
  refine Own.wr M (j := 1) rfl (x := .bool (marks[a]'(by omega))) (by simp [hl, ha]) rfl fun h' M' => hY h' ?_
  have e : (marks.map AVal.bool).set a (.bool b) = (marks.set a b).map .bool := by rw [List.map_set]
  rw [e] at M'
  exact M'
theorem TM.rdL (M : TM h0 ro ra r N n R marks x h) (X : TX n i N ra R T) {j : Nat} (hj : j < i) {b : Nat} (hb : b < n) {Y : AVal → Prop} (hY : Y (.bool (T j b))) : ixS 1 (.sl ro 1 0 N) (j : Int) fun p => ld1 h p fun v => ixS 1 v (b : Int) fun p => ld1 h p Y := by
  obtain ⟨e, he, ha, hs⟩ := X.done j hj
  refine Own.rd M (j := 0) rfl he ha ?_
  rw [boolS hs hb]
  exact hY
theorem TM.fld (M : TM h0 ro ra r N n R marks x h) {k : Nat} {v : AVal} (hv : (nodeC x)[k]? = some v) (Y : AVal → Prop) : ld1 h (.ptr r 0 (0 + k)) Y = Y v := ld1_fld (M.get 2 _ r rfl rfl) (by rw [Nat.zero_add]; exact hv) Y
theorem table_l4 (X : TX n i N ra R T) (S : Small up val) (hV : Strss mV val) (hvl : val.length = n) (hn : n ≤ 512) (ha : a < n) {m0 : List Bool} (hl : m0.length = n) {L1 : s52l1_T} {F : s52l2_T}
    (hgo : ∀ h, TM h0 ro ra r N n R (m0.set a (inS (val.getD a []) x.s)) x h → F t o last (.lptr [mU, mV]) (.sl ro 1 0 N) (i : Int) (.ptr r 0 0) ((a : Int) + 1) h) :
    ∀ d k : Nat, k + d = (val.getD a []).length → ∀ h, TM h0 ro ra r N n R (m0.set a (inS ((val.getD a []).take k) x.s)) x h → s52l4 K L1 (s52l2_G F) (d + 1) t o last (.lptr [mU, mV]) (.sl ro 1 0 N) (i : Int) (.ptr r 0 0) (a : Int) (k : Int) h
  | 0, k, hd, h, M => by
    have hav : a < val.length := by omega
    obtain ⟨e, he, hie⟩ := hV.ix hav
    have hg : val.getD a [] = val[a] := by simp [List.getD_eq_getElem?_getD, hav]
    unfold s52l4
    rw [addOff_lptr]
    simp only [List.drop_succ_cons, List.drop_zero, ld1_lptr]
    rw [hg] at hd M
    rw [hie, ld1_lptr, he.len]
    rw [List.take_of_length_le (by omega)] at M
    refine ifT_neg (by simp; omega) ?_
    unfold s52c3
    refine rg_of (by omega) (by omega) (s52l2_go (hgo h ?_))
    rw [hg]
    exact M
  | d + 1, k, hd, h, M => by
    have hav : a < val.length := by omega
    have hg : val.getD a [] = val[a] := by simp [List.getD_eq_getElem?_getD, hav]
    have hk : k < val[a].length := by rw [hg] at hd; omega
    have hsl := (S.names _ (List.getElem_mem hav)).2
    obtain ⟨e, he, hie⟩ := hV.ix hav
    have hl2 : ∀ b, (m0.set a b).length = n := fun b => by rw [List.length_set]; exact hl
    unfold s52l4
    rw [addOff_lptr]
    simp only [List.drop_succ_cons, List.drop_zero, ld1_lptr]
    rw [hie, ld1_lptr, he.len]
    refine ifT_pos (by simp; omega) (M.rdR X (M.rdR X (M.rdA (List.getElem?_set_self (by rw [hl]; exact ha)) ?_)))
    rw [tBool_bool]
    have hsucc : inS ((val.getD a []).take (k + 1)) x.s = (inS ((val.getD a []).take k) x.s || strEq val[a][k] x.s) := by
      rw [hg, List.take_succ_eq_append_getElem hk]
      unfold inS
      rw [List.any_append, strEq_dec]
      simp
    have next : ∀ h', TM h0 ro ra r N n R (m0.set a (inS ((val.getD a []).take (k + 1)) x.s)) x h' → s52c5 K L1 (s52l2_G F) (s52l4_G (s52l4 K L1 (s52l2_G F) (d + 1))) t o last (.lptr [mU, mV]) (.sl ro 1 0 N) (i : Int) (.ptr r 0 0) (a : Int) (k : Int) h' := fun h' M' => by
      unfold s52c5
      exact rg_of (by omega) (by omega) (s52l4_go (table_l4 X S hV hvl hn ha hl hgo d (k + 1) (by omega) h' M'))
    cases hin : inS ((val.getD a []).take k) x.s with
    | true =>
      refine ifT_pos rfl (M.wrA (hl2 _) ha fun h' M' => next h' ?_)
      rw [List.set_set] at M'
      rw [hsucc, hin, Bool.true_or]
      exact M'
    | false =>
      refine ifT_neg rfl ?_
      rw [addOff_lptr]
      simp only [List.drop_succ_cons, List.drop_zero, ld1_lptr]
      rw [hie, ld1_lptr, he.ix hk, ld1_lptr, tStr_str, addOff_ptr, M.fld (k := 1) (v := .str x.s) rfl, tStr_str]
      refine M.wrA (hl2 _) ha fun h' M' => next h' ?_
      rw [List.set_set] at M'
      rw [hsucc, hin, Bool.false_or]
      exact M'
theorem table_l6 {l rr : Nat} (X : TX up.length i N ra R T) (hO : OTab o up) (hn : up.length ≤ 512) (ha : a < up.length) {m0 : List Bool} (hl : m0.length = up.length) (hxl : x.l = (l : Int)) (hxr : x.r = (rr : Int)) (hli : l < i) (hri : rr < i) {L1 : s52l1_T} {F : s52l2_T}
    (hgo : ∀ h, TM h0 ro ra r N up.length R (m0.set a ((List.range up.length).all fun b => !(rb up a b && (T l b && !T rr b)))) x h → F t o last (.lptr [mU, mV]) (.sl ro 1 0 N) (i : Int) (.ptr r 0 0) ((a : Int) + 1) h) :
    ∀ d k : Nat, k + d = up.length → ∀ h, TM h0 ro ra r N up.length R (m0.set a ((List.range k).all fun b => !(rb up a b && (T l b && !T rr b)))) x h → s52l6 K L1 (s52l2_G F) (d + 1) t o last (.lptr [mU, mV]) (.sl ro 1 0 N) (i : Int) (.ptr r 0 0) (a : Int) (k : Int) h
  | 0, k, hd, h, M => by
    obtain rfl : k = up.length := by omega
    unfold s52l6
    rw [hO.len]
    refine ifT_neg (by simp) ?_
    unfold s52c7
    refine ifT_neg rfl ?_
    unfold s52c3
    exact rg_of (by omega) (by omega) (s52l2_go (hgo h M))
  | d + 1, k, hd, h, M => by
    have hk : k < up.length := by omega
    have hl2 : ∀ b, (m0.set a b).length = up.length := fun b => by rw [List.length_set]; exact hl
    have hsucc : ((List.range (k + 1)).all fun b => !(rb up a b && (T l b && !T rr b))) = (((List.range k).all fun b => !(rb up a b && (T l b && !T rr b))) && !(rb up a k && (T l k && !T rr k))) := by
      rw [List.range_succ, List.all_append]; simp
    have next : ∀ h', TM h0 ro ra r N up.length R (m0.set a ((List.range (k + 1)).all fun b => !(rb up a b && (T l b && !T rr b)))) x h' → s52c8 K L1 (s52l2_G F) (s52l6_G (s52l6 K L1 (s52l2_G F) (d + 1))) t o last (.lptr [mU, mV]) (.sl ro 1 0 N) (i : Int) (.ptr r 0 0) (a : Int) (k : Int) h' := fun h' M' => by
      unfold s52c8
      exact rg_of (by omega) (by omega) (s52l6_go (table_l6 X hO hn ha hl hxl hxr hli hri hgo d (k + 1) (by omega) h' M'))
    unfold s52l6
    rw [hO.len]
    refine ifT_pos (decide_eq_true (by omega)) (M.rdR X (M.rdA (List.getElem?_set_self (by rw [hl]; exact ha)) ?_))
    rw [tBool_bool]
    unfold s52c7
    cases hc : (List.range k).all fun b => !(rb up a b && (T l b && !T rr b)) with
    | false =>
      refine ifT_neg rfl ?_
      unfold s52c3
      refine rg_of (by omega) (by omega) (s52l2_go (hgo h ?_))
      have : ((List.range up.length).all fun b => !(rb up a b && (T l b && !T rr b))) = false := by
        rw [List.all_eq_false] at hc ⊢
        obtain ⟨b, hb, hp⟩ := hc
        exact ⟨b, List.mem_range.2 (by have := List.mem_range.1 hb; omega), hp⟩
      rw [this]
      rw [hc] at M
      exact M
    | true =>
      rw [hc, Bool.true_and] at hsucc
      rw [hsucc] at next
      rw [hc] at M
      have no : (rb up a k && (T l k && !T rr k)) = false → s52c9 K L1 (s52l2_G F) (s52l6_G (s52l6 K L1 (s52l2_G F) (d + 1))) t o last (.lptr [mU, mV]) (.sl ro 1 0 N) (i : Int) (.ptr r 0 0) (a : Int) (k : Int) false h := fun e => by
        unfold s52c9
        rw [e] at next
        exact ifT_neg rfl (next h M)
      refine ifT_pos rfl ?_
      obtain ⟨eo, hre, _, hro⟩ := hO.row (h' := h) ha
      rw [hre, hro k hk, tBool_bool]
      cases h1 : rb up a k with
      | false => exact ifT_neg rfl (no (by rw [h1]; rfl))
      | true =>
        refine ifT_pos rfl ?_
        rw [addOff_ptr, M.fld (k := 2) (v := .int .i64 x.l) rfl, tInt_int, hxl]
        refine M.rdL X hli hk ?_
        rw [tBool_bool]
        cases h2 : T l k with
        | false => exact ifT_neg rfl (no (by rw [h2]; simp))
        | true =>
          refine ifT_pos rfl ?_
          rw [addOff_ptr, M.fld (k := 3) (v := .int .i64 x.r) rfl, tInt_int, hxr]
          refine M.rdL X hri hk ?_
          rw [tBool_bool]
          cases h3 : T rr k with
          | true => exact no (by rw [h3]; simp)
          | false =>
            unfold s52c9
            refine ifT_pos rfl (M.rdR X (M.wrA (hl2 _) ha fun h' M' => next h' ?_))
            rw [List.set_set] at M'
            rw [h1, h2, h3]
            exact M'
theorem frc_imp {l rr : Nat} (hx : xs[i]? = some x) (hk : x.k = 5) (hxl : x.l = (l : Int)) (hxr : x.r = (rr : Int)) (hli : l < i) (hri : rr < i) (a : Nat) : frc up val xs i a = (List.range up.length).all fun b => !(rb up a b && (frc up val xs l b && !frc up val xs rr b)) := by
  rw [frc_5 hx hk hxl hxr hli hri]
  unfold aboveL
  rw [List.any_filter, Bool.eq_iff_iff]
  simp only [Bool.not_eq_true', List.any_eq_false, List.all_eq_true]
  constructor
  · intro h b hb
    have := h b hb
    simpa using this
  · intro h b hb
    have := h b hb
    simpa using this
theorem table_l2 (X : TX up.length i N ra R (frc up val xs)) (S : Small up val) (hV : Strss mV val) (hvl : val.length = up.length) (hO : OTab o up) (hn : up.length ≤ 512) (hx : xs[i]? = some x) (hnd : NdOK i x) {L1 : s52l1_T}
    (hgo : ∀ m h, Mk up.length (frc up val xs i) up.length m → TM h0 ro ra r N up.length R m x h → rg ((i : Int) + 1) (L1 t o last (.lptr [mU, mV]) (.sl ro 1 0 N) ((i : Int) + 1) h)) :
    ∀ d a : Nat, a + d = up.length → ∀ m h, Mk up.length (frc up val xs i) a m → TM h0 ro ra r N up.length R m x h → s52l2 K L1 (d + 1) t o last (.lptr [mU, mV]) (.sl ro 1 0 N) (i : Int) (.ptr r 0 0) (a : Int) h
  | 0, a, hd, m, h, B, M => by
    obtain rfl : a = up.length := by omega
    unfold s52l2
    rw [hO.len]
    exact ifT_neg (by simp) (hgo m h B M)
  | d + 1, a, hd, m, h, B, M => by
    have ha : a < up.length := by omega
    have hset : m.set a false = m := by
      have h0 := B.rest a (Nat.le_refl _) ha
      have h1 : m[a]'(by rw [B.len]; exact ha) = false := (List.getElem?_eq_some_iff.1 h0).2
      rw [← h1, List.set_getElem_self]
    unfold s52l2
    rw [hO.len]
    refine ifT_pos (decide_eq_true (by omega)) ?_
    rw [show (0 : Nat) = 0 + 0 from rfl, addOff_ptr, M.fld (k := 0) (v := .int .i64 x.k) rfl, tInt_int]
    have next : ∀ (b : Bool) h', b = frc up val xs i a → TM h0 ro ra r N up.length R (m.set a b) x h' → s52l2 K L1 (d + 1) t o last (.lptr [mU, mV]) (.sl ro 1 0 N) (i : Int) (.ptr r 0 0) ((a : Int) + 1) h' := fun b h' hb M' =>
      table_l2 X S hV hvl hO hn hx hnd hgo d (a + 1) (by omega) _ h' (B.next ha hb) M'
    have next3 : ∀ (b : Bool) h', b = frc up val xs i a → TM h0 ro ra r N up.length R (m.set a b) x h' → s52c3 K L1 (s52l2_G (s52l2 K L1 (d + 1))) t o last (.lptr [mU, mV]) (.sl ro 1 0 N) (i : Int) (.ptr r 0 0) (a : Int) h' := fun b h' hb M' => by
      unfold s52c3
      exact rg_of (by omega) (by omega) (s52l2_go (next b h' hb M'))
    rcases hnd with e | e | ⟨e, ⟨l1, l2⟩, r1, r2⟩
    · refine ifT_pos (by simp [e]) ?_
      refine s52l4_in ((val.getD a []).length + 1) (table_l4 X S hV hvl hn ha B.len (fun h' M' => next _ h' (frc_1 hx e).symm M') (val.getD a []).length 0 (by omega) h ?_)
      rw [List.take_zero, show inS [] x.s = false from rfl, hset]
      exact M
    · refine ifT_neg (by simp [e]) (ifT_neg (by simp [e]) (ifT_neg (by simp [e]) (ifT_neg (by simp [e]) ?_)))
      refine next3 false h (frc_2 hx e).symm ?_
      rw [hset]
      exact M
    · obtain ⟨l, hxl⟩ := Int.eq_ofNat_of_zero_le l1
      obtain ⟨rr, hxr⟩ := Int.eq_ofNat_of_zero_le r1
      have hli : l < i := by omega
      have hri : rr < i := by omega
      rcases e with e | e | e
      · have hf := frc_3 (up := up) (val := val) (w := a) hx e hxl hxr hli hri
        refine ifT_neg (by simp [e]) (ifT_pos (by simp [e]) (M.rdR X ?_))
        rw [addOff_ptr, M.fld (k := 2) (v := .int .i64 x.l) rfl, tInt_int, hxl]
        refine M.rdL X hli ha ?_
        rw [tBool_bool]
        cases h1 : frc up val xs l a with
        | true =>
          refine ifT_pos rfl ?_
          rw [addOff_ptr, M.fld (k := 3) (v := .int .i64 x.r) rfl, tInt_int, hxr]
          refine M.rdL X hri ha ?_
          rw [tBool_bool]
          exact M.wrA B.len ha fun h' M' => next3 _ h' (by rw [hf, h1]; rfl) M'
        | false => exact ifT_neg rfl (M.wrA B.len ha fun h' M' => next3 _ h' (by rw [hf, h1]; rfl) M')
      · have hf := frc_4 (up := up) (val := val) (w := a) hx e hxl hxr hli hri
        refine ifT_neg (by simp [e]) (ifT_neg (by simp [e]) (ifT_pos (by simp [e]) (M.rdR X ?_)))
        rw [addOff_ptr, M.fld (k := 2) (v := .int .i64 x.l) rfl, tInt_int, hxl]
        refine M.rdL X hli ha ?_
        rw [tBool_bool]
        cases h1 : frc up val xs l a with
        | true => exact ifT_pos rfl (M.wrA B.len ha fun h' M' => next3 _ h' (by rw [hf, h1]; rfl) M')
        | false =>
          refine ifT_neg rfl ?_
          rw [addOff_ptr, M.fld (k := 3) (v := .int .i64 x.r) rfl, tInt_int, hxr]
          refine M.rdL X hri ha ?_
          rw [tBool_bool]
          exact M.wrA B.len ha fun h' M' => next3 _ h' (by rw [hf, h1]; rfl) M'
      · have hf := frc_imp (up := up) (val := val) hx e hxl hxr hli hri a
        refine ifT_neg (by simp [e]) (ifT_neg (by simp [e]) (ifT_neg (by simp [e]) (ifT_pos (by simp [e]) (M.rdR X (M.wrA B.len ha fun h' M' => ?_)))))
        exact s52l6_in (up.length + 1) (table_l6 X hO hn ha B.len hxl hxr hli hri (fun h2 M2 => next _ h2 hf.symm M2) up.length 0 (by omega) h' M')
end
theorem table_l1 {ro N : Nat} {last : Int} (D : DRd h0 t xs) (G : GoodT xs) (S : Small up val) (hV : Strss mV val) (hvl : val.length = up.length) (hO : OTab o up) (hn : up.length ≤ 512) (hlast : last = (N : Int) - 1) (hN : N ≤ xs.length) (hx : xs.length ≤ 1024)
    (hk : ∀ v, RowsF v N up.length (frc up val xs) → K v h0) :
    ∀ d i : Nat, i + d = N → ∀ R h, R.length = N → (∀ j, j < i → ∃ e, R[j]? = some e ∧ e.isAgg = false ∧ SlOf 1 e ((List.range up.length).map fun a => .bool (frc up val xs j a))) → (∀ j, i ≤ j → j < N → R[j]? = some .nilsl) →
      Own h0 [.slc 1 (.sl ro 1 0 N) R] h → s52l1 K (d + 1) t o last (.lptr [mU, mV]) (.sl ro 1 0 N) (i : Int) h
  | 0, i, hd, R, h, hR, hdone, hrest, M => by
    obtain rfl : i = N := by omega
    unfold s52l1
    refine ifT_neg (decide_eq_false (by omega)) ?_
    obtain ⟨v', lv, sv⟩ := M.lit (i := 0) rfl (S := nameOf (.sl ro 1 0 i)) (fun _ h => h) (Lits.refl _)
    exact ⟨_, v', h0, lv, base_step M _ (fun n hn => M.new 0 _ n rfl hn), hk v' ⟨R, sv, hR, hdone⟩⟩
  | d + 1, i, hd, R, h, hR, hdone, hrest, M => by
    have hi : i < N := by omega
    have hix : xs[i]? = some (xs[i]'(by omega)) := List.getElem?_eq_getElem (by omega)
    generalize (xs[i]'(by omega)) = x at hix
    unfold s52l1
    refine ifT_pos (decide_eq_true (by omega)) ?_
    rw [hO.len]
    refine mkS_own (by omega) (by omega) fun ra hra => ixS_sl0 hi (chk_iff.2 ⟨rfl, ?_⟩)
    have M1 := M.newS (es := 1) hra (List.replicate up.length (.bool false))
    rw [List.length_replicate] at M1
    refine st_elem (M1.get 0 _ ro rfl rfl) (hrest i (Nat.le_refl _) hi) rfl ?_
    have hi0 : ([Ow.slc 1 (.sl ro 1 0 N) R] ++ [.slc 1 (.sl ra 1 0 up.length) (List.replicate up.length (.bool false))])[0]? = some (.slc 1 (.sl ro 1 0 R.length) R) := by rw [hR]; rfl
    have M2 := M1.putS (i := 0) hi0 (l' := R.set i (.sl ra 1 0 up.length)) (by simp)
    rw [hR] at M2
    obtain ⟨vN, hv, ld⟩ := (D.ext M2.old).ld
    rw [ld]
    refine hv.ix hix ?_
    rw [nodeC, tCons_cons, tInt_int, tCons_cons, tStr_str, tCons_cons, tInt_int, tCons_cons, tInt_int, tNil_nil]
    refine newRow_in fun r hr => st4 (Heap.set_same _ _ _) rfl rfl ?_
    rw [Heap.set_set]
    have X : TX up.length i N ra (R.set i (.sl ra 1 0 up.length)) (frc up val xs) := ⟨by simp [hR], List.getElem?_set_self (by omega), fun j hj => by rw [List.getElem?_set_ne (by omega)]; exact hdone j hj⟩
    refine s52l2_in (up.length + 1) (table_l2 X S hV hvl hO hn hix (G i x hix) (fun m h2 B M4 => rg_of (by omega) (by omega) ?_) up.length 0 (by omega) (List.replicate up.length false) _ ⟨by simp, fun a' h => by omega, fun a' _ h => by simp [h]⟩ (by have M3 := M2.newC hr (.row 4 [.agg (nodeC x)]); unfold TM; rw [List.map_replicate]; exact M3))
    have M5 : Own h0 ([.slc 1 (.sl ro 1 0 N) (R.set i (.sl ra 1 0 up.length))] ++ [.slc 1 (.sl ra 1 0 up.length) (m.map .bool)]) h2 := Own.pop (os := [_, _]) M4
    obtain ⟨Sg, h3, v', s1, g, M6⟩ := Own.settleAt (i := 0) (k := i) M5 rfl (List.getElem?_set_self (by omega))
    rw [B.all] at s1
    rw [List.set_set] at M6
    refine ⟨Sg, _, h3, Lits.refl _, g, rfl, table_l1 D G S hV hvl hO hn hlast hN hx hk d (i + 1) (by omega) _ h3 (by simp [hR]) (fun j hj => ?_) (fun j h1 h2 => ?_) M6⟩
    · by_cases e : j = i
      · subst e
        exact ⟨v', List.getElem?_set_self (by omega), slAgg1 s1, s1⟩
      · rw [List.getElem?_set_ne (by omega)]
        exact hdone j (by omega)
    · rw [List.getElem?_set_ne (by omega)]
      exact hrest j (by omega) h2
theorem table_ok {N : Nat} {last : Int} (D : DRd h t xs) (G : GoodT xs) (S : Small up val) (hV : Strss mV val) (hvl : val.length = up.length) (hO : OTab o up) (hn : up.length ≤ 512) (hlast : last = (N : Int) - 1) (hN : N ≤ xs.length) (hx : xs.length ≤ 1024)
    (hk : ∀ v, RowsF v N up.length (frc up val xs) → K v h) : ACalls prog 52 [t, .agg [mU, mV], o, .int .i64 last] h K := by
  refine s52_ok ?_
  unfold s52
  rw [show last + 1 = (N : Int) by omega]
  refine rg_of (by omega) (by omega) (mkS_own (by omega) (by omega) fun ro hro => ?_)
  refine s52l1_in (N + 1) (table_l1 D G S hV hvl hO hn hlast hN hx hk N 0 (by omega) (List.replicate N .nilsl) _ (by simp) (fun j hj => by omega) (fun j _ hj => by simp [hj]) ?_)
  have := (Own.start h).newS (es := 1) hro (List.replicate N .nilsl)
  rw [List.length_replicate] at this
  exact this
end Go.Proofs.YtaopdcjjcpgebaaGreatDoor

namespace Go.Proofs.YtaopdcjjcpgebaaGreatDoor
open Go Go.Sym Go.Proofs.Tryz
set_option maxRecDepth 100000
variable {K : AVal → Heap → Prop} {h h0 hb : Heap} {t mU mV o : AVal} {up : List (List Int)} {val : List (List ByteArray)} {xs : List Nd}
/- ---- sets of numbers ---- -/
theorem ixP_l {l : List AVal} {i : Nat} (hi : i < 16) {X : AVal → Prop} (hx : X (.lptr (l.drop i))) : ixP 16 1 (.lptr l) (i : Int) X := by
  refine ⟨⟨by omega, by omega⟩, ?_⟩
  show X (.lptr (l.drop ((i : Int).toNat * 1)))
  simpa using hx
theorem ld1_drop {ws : List (BitVec 64)} (hl : ws.length = 16) {i : Nat} (hi : i < 16) (H : Heap) (X : AVal → Prop) : ld1 H (.lptr ((ws.map wV).drop i)) X = X (wV (ws.getD i 0#64)) := by
  have hlt : i < (ws.map wV).length := by simp [hl, hi]
  rw [List.drop_eq_getElem_cons hlt, ld1_lptr]
  simp [List.getD_eq_getElem?_getD, hl, hi]
theorem has05_ok {v : AVal} {ws : List (BitVec 64)} (B : BitsV v ws) (n : Int) (hk : K (.bool (decide (0 ≤ n) && memW ws n.toNat)) h) : ACalls prog 38 [v, .int .i64 n] h K := by
  refine s38_ok ?_
  unfold s38
  refine B.agg _ ?_
  by_cases h0 : 0 ≤ n
  · rw [decide_eq_true h0, Bool.true_and] at hk
    obtain ⟨k, rfl⟩ := Int.eq_ofNat_of_zero_le h0
    rw [Int.toNat_natCast] at hk
    refine ifT_pos (decide_eq_true h0) ?_
    by_cases h1 : k < 1024
    · refine ifT_pos (decide_eq_true (by omega)) ⟨by decide, ?_⟩
      have e1 : Int.tdiv (k : Int) 64 = ((k / 64 : Nat) : Int) := rfl
      have e2 : Int.tmod (k : Int) 64 = ((k % 64 : Nat) : Int) := rfl
      rw [e1, e2]
      refine rg_of (by omega) (by omega) (ixP_l (by omega) ?_)
      rw [ld1_drop B.len (by omega), wV, tInt_int, w_wrap, Nat.mod_eq_of_lt (by omega)]
      refine ⟨by decide, by omega, ?_⟩
      rw [w_shr _ (by omega), w_bit]
      exact retG_of hk
    · rw [memW_big B.len (by omega)] at hk
      exact ifT_neg (decide_eq_false (by omega)) (retG_of hk)
  · rw [decide_eq_false h0, Bool.false_and] at hk
    exact ifT_neg (decide_eq_false h0) (retG_of hk)
theorem list05_l1 {ws : List (BitVec 64)} (hl : ws.length = 16) (hk : ∀ u, Ints u (natI (listW ws)) → K u h0) :
    ∀ d n : Nat, n + d = 1024 → ∀ u h, Own h0 [.slc 1 u ((natI ((List.range n).filter (memW ws))).map (.int .i64))] h → s53l1 K (d + 1) (.lptr (ws.map wV)) u (n : Int) h
  | 0, n, hd, u, h, M => by
    obtain rfl : n = 1024 := by omega
    unfold s53l1
    refine ifT_neg (by decide) ?_
    obtain ⟨v', lv, sv⟩ := M.lit (i := 0) rfl (S := nameOf u) (fun _ h => h) (Lits.refl _)
    exact ⟨_, v', h0, lv, base_step M _ (fun n hn => M.new 0 _ n rfl hn), hk v' sv⟩
  | d + 1, n, hd, u, h, M => by
    unfold s53l1
    refine ifT_pos (decide_eq_true (by omega)) ?_
    rw [ldN_lptr _ _ _ _ (by simp [hl]), List.take_of_length_le (by simp [hl])]
    refine callG_of (has05_ok ⟨rfl, hl⟩ _ ?_)
    rw [decide_eq_true (p := (0 : Int) ≤ (n : Int)) (by omega), Bool.true_and, Int.toNat_natCast, tBool_bool]
    have hsucc := range_filter_succ (memW ws) n
    have hlen : ((natI ((List.range n).filter (memW ws))).map (AVal.int .i64)).length ≤ n := by
      simp only [natI, List.length_map]
      have := List.length_filter_le (memW ws) (List.range n)
      simpa using this
    cases hm : memW ws n with
    | true =>
      refine ifT_pos rfl (Own.app M (i := 0) rfl (by omega) (by omega) fun v3 h3 M3 => ?_)
      unfold s53c2
      refine rg_of (by omega) (by omega) (s53l1_go (list05_l1 hl hk d (n + 1) (by omega) v3 h3 ?_))
      rw [hsucc, hm]
      simpa [natI] using M3
    | false =>
      refine ifT_neg rfl ?_
      unfold s53c2
      refine rg_of (by omega) (by omega) (s53l1_go (list05_l1 hl hk d (n + 1) (by omega) u h ?_))
      rw [hsucc, hm]
      simpa using M
theorem list05_ok {v : AVal} {ws : List (BitVec 64)} (B : BitsV v ws) (hk : ∀ u, Ints u (natI (listW ws)) → K u h) : ACalls prog 53 [v] h K := by
  refine s53_ok ?_
  unfold s53
  refine B.agg _ (s53l1_in (1024 + 1) (list05_l1 B.len hk 1024 0 (by omega) .nilsl h ?_))
  exact (Own.start h).newN 1
/- ---- a right sequent ---- -/
theorem right08_l1 {ws : List (BitVec 64)} {g : Int} {u : AVal} (D : DRd h t xs) (hl : ws.length = 16) (hu : Ints u (natI (listW ws))) (hk : K (.bool (rightS xs.length ws g)) h) :
    ∀ d i : Nat, i + d = (listW ws).length → (∀ n ∈ (listW ws).take i, n < xs.length) → s23l1 K (d + 1) t (.lptr (ws.map wV ++ [.int .i64 g])) u (i : Int) h
  | 0, i, hd, hi => by
    obtain rfl : i = (listW ws).length := by omega
    rw [List.take_of_length_le (Nat.le_refl _)] at hi
    unfold s23l1
    rw [hu.len]
    refine ifT_neg (by simp [natI]) ?_
    rw [addOff_lptr, seq_goal hl, tInt_int]
    refine callG_of (hasT_ok D g ?_)
    rw [tBool_bool]
    have e : rightS xs.length ws g = hasN xs.length g := by
      rw [Bool.eq_iff_iff, rightS_iff hl, hasN_iff]
      exact ⟨fun h => h.2, fun h => ⟨hi, h⟩⟩
    rw [e] at hk
    exact retG_of hk
  | d + 1, i, hd, hi => by
    have hil : i < (listW ws).length := by omega
    have hlw := listW_len ws
    unfold s23l1
    rw [hu.len]
    refine ifT_pos (decide_eq_true (by simp [natI]; omega)) ?_
    rw [hu.ix (by simpa [natI] using hil), ld1_lptr, show (natI (listW ws))[i]'(by simpa [natI] using hil) = (((listW ws)[i] : Nat) : Int) by simp [natI], tInt_int]
    refine callG_of (hasT_ok D _ ?_)
    rw [tBool_bool]
    cases hh : hasN xs.length (((listW ws)[i] : Nat) : Int) with
    | true =>
      refine ifT_neg rfl (rg_of (by omega) (by omega) (s23l1_go (right08_l1 D hl hu hk d (i + 1) (by omega) fun n hn => ?_)))
      rw [List.take_succ_eq_append_getElem hil] at hn
      rcases List.mem_append.1 hn with hn | hn
      · exact hi n hn
      · rw [List.mem_singleton.1 hn]
        have := (hasN_iff.1 hh).2
        omega
    | false =>
      have e : rightS xs.length ws g = false := by
        cases hr : rightS xs.length ws g with
        | false => rfl
        | true =>
          have h1 := ((rightS_iff hl).1 hr).1 _ (List.getElem_mem hil)
          have := hasN_iff.2 (show 0 ≤ (((listW ws)[i] : Nat) : Int) ∧ (((listW ws)[i] : Nat) : Int) < xs.length by omega)
          rw [hh] at this
          cases this
      rw [e] at hk
      exact ifT_pos rfl (retG_of hk)
theorem right08_ok {s : AVal} {ws : List (BitVec 64)} {g : Int} (D : DRd h t xs) (B : SeqV s ws g) (hk : K (.bool (rightS xs.length ws g)) h) : ACalls prog 23 [t, s] h K := by
  refine s23_ok ?_
  unfold s23
  refine B.agg ?_
  rw [addOff_lptr, seq_left B.len]
  refine callG_of (list05_ok ⟨rfl, B.len⟩ fun u hu => ?_)
  exact s23l1_in ((listW ws).length + 1) (right08_l1 D B.len hu hk (listW ws).length 0 (by omega) (fun n hn => by simp at hn))
/- ---- At, Worlds ---- -/
section
variable (D : DRd h t xs) (G : GoodT xs) (hx : xs.length ≤ 1024) (S : Small up val) (hU : Intss mU up) (hV : Strss mV val)
include D G hx S hU hV
end
end Go.Proofs.YtaopdcjjcpgebaaGreatDoor

namespace Go.Proofs.YtaopdcjjcpgebaaGreatDoor
open Go Go.Sym Go.Proofs.Tryz
set_option maxRecDepth 100000
variable {K : AVal → Heap → Prop} {h h0 hb : Heap} {t mU mV o : AVal} {up : List (List Int)} {val : List (List ByteArray)} {xs : List Nd}
section
variable (D : DRd h t xs) (G : GoodT xs) (hx : xs.length ≤ 1024) (S : Small up val) (hU : Intss mU up) (hV : Strss mV val)
include D G hx S hU hV
theorem holds18_ok {s : AVal} {ws : List (BitVec 64)} {g : Int} (B : SeqV s ws g) (hk : K (.tuple [.bool (holdsR up val xs ws g).1, .int .i64 (holdsR up val xs ws g).2]) h) : ACalls prog 15 [t, .agg [mU, mV], s] h K := by
  refine s15_ok ?_
  unfold s15
  unfold holdsR at hk
  refine B.agg (callG_of (right_ok S hU hV (fun hW => ?_) (fun W o hO => ?_)))
  · rw [tTup_tuple, tCons_cons, tCons_cons, tBool_bool, tNil_nil]
    rw [if_pos hW] at hk
    exact ifT_pos rfl (retG_of hk)
  · rw [tTup_tuple, tCons_cons, tCons_cons, tBool_bool, tNil_nil]
    rw [if_neg (fun e => e W)] at hk
    refine ifT_neg rfl ?_
    rw [ldN_lptr _ _ _ _ (by simp [B.len]), List.take_of_length_le (by simp [B.len])]
    refine callG_of (right08_ok D ⟨rfl, B.len⟩ ?_)
    rw [tBool_bool]
    cases hr2 : rightS xs.length ws g with
    | false =>
      rw [if_pos hr2] at hk
      exact ifT_pos rfl (retG_of hk)
    | true =>
      rw [if_neg (by simp [hr2])] at hk
      obtain ⟨h1', h2, h3⟩ := (rightS_iff B.len).1 hr2
      obtain ⟨b, rfl⟩ := Int.eq_ofNat_of_zero_le h2
      rw [Int.toNat_natCast] at hk
      have hb : b < xs.length := by omega
      refine ifT_neg rfl ?_
      obtain ⟨vN, hv, ld⟩ := D.ld
      rw [ld, hv.len]
      refine rg_of (by omega) (by omega) (callG_of (table_ok (N := xs.length) D G S hV W.len hO W.max (by omega) (Nat.le_refl _) hx fun f R => ?_))
      rw [addOff_lptr, seq_left B.len]
      refine callG_of (list05_ok ⟨rfl, B.len⟩ fun u hu => ?_)
      have hlw := listW_len ws
      have hmax := W.max
      have loop : ∀ d w : Nat, w + d = up.length → (∀ v, v < w → holdsW up val xs ws b v = true) → s15l1 K (d + 1) (.lptr (ws.map wV ++ [.int .i64 (b : Int)])) o f u (w : Int) h := by
        intro d
        induction d with
        | zero =>
          intro w hd hv
          obtain rfl : w = up.length := by omega
          unfold s15l1
          rw [hO.len]
          rw [range_all_true hv] at hk
          exact ifT_neg (by simp) (retG_of hk)
        | succ d ih =>
          intro w hd hv
          have hw : w < up.length := by omega
          have fin : s15c4 K (s15l1_G (s15l1 K (d + 1))) (.lptr (ws.map wV ++ [.int .i64 (b : Int)])) o f u (w : Int) (!holdsW up val xs ws b w) h := by
            unfold s15c4
            cases hh : holdsW up val xs ws b w with
            | false =>
              rw [range_all_false hw hh] at hk
              exact ifT_pos rfl (retG_of hk)
            | true =>
              refine ifT_neg rfl (rg_of (by omega) (by omega) (s15l1_go (ih (w + 1) (by omega) fun v hv2 => ?_)))
              by_cases e : v = w
              · rw [e]; exact hh
              · exact hv v (by omega)
          unfold s15l1
          rw [hO.len]
          refine ifT_pos (decide_eq_true (by omega)) ?_
          have inner : ∀ e i : Nat, i + e = (listW ws).length → ∀ all : Bool, (all && ((listW ws).drop i).all fun i => frc up val xs i w) = ((listW ws).all fun i => frc up val xs i w) → s15l2 K (s15l1_G (s15l1 K (d + 1))) (e + 1) (.lptr (ws.map wV ++ [.int .i64 (b : Int)])) o f u (w : Int) all (i : Int) h := by
            intro e
            induction e with
            | zero =>
              intro i he all ha
              obtain rfl : i = (listW ws).length := by omega
              rw [List.drop_of_length_le (Nat.le_refl _), List.all_nil, Bool.and_true] at ha
              unfold s15l2
              rw [hu.len]
              refine ifT_neg (by simp [natI]) ?_
              have ea : ((listW ws).any fun i => !frc up val xs i w) = !all := by rw [ha, List.not_all_eq_any_not]
              unfold holdsW at fin
              rw [ea] at fin
              cases all with
              | false => exact ifT_neg rfl (by simpa using fin)
              | true =>
                refine ifT_pos rfl ?_
                rw [addOff_lptr, seq_goal B.len, tInt_int]
                obtain ⟨e2, hs, hrd⟩ := R.row hb
                rw [hrd, boolS hs hw, tBool_bool]
                simpa using fin
            | succ e ih2 =>
              intro i he all ha
              have hi : i < (listW ws).length := by omega
              rw [List.drop_eq_getElem_cons hi, List.all_cons] at ha
              unfold s15l2
              rw [hu.len]
              refine ifT_pos (decide_eq_true (by simp [natI]; omega)) ?_
              cases all with
              | false =>
                refine ifT_neg rfl ?_
                unfold s15c3
                exact rg_of (by omega) (by omega) (s15l2_go (ih2 (i + 1) (by omega) false (by simpa using ha)))
              | true =>
                refine ifT_pos rfl ?_
                rw [hu.ix (by simpa [natI] using hi), ld1_lptr, show (natI (listW ws))[i]'(by simpa [natI] using hi) = (((listW ws)[i] : Nat) : Int) by simp [natI], tInt_int]
                obtain ⟨e2, hs, hrd⟩ := R.row (h1' _ (List.getElem_mem hi))
                rw [hrd, boolS hs hw, tBool_bool]
                unfold s15c3
                exact rg_of (by omega) (by omega) (s15l2_go (ih2 (i + 1) (by omega) _ (by simpa using ha)))
          exact s15l2_in ((listW ws).length + 1) (inner (listW ws).length 0 (by omega) true (by simp))
      exact s15l1_in (up.length + 1) (loop up.length 0 (by omega) fun v hv => by omega)
end
end Go.Proofs.YtaopdcjjcpgebaaGreatDoor

namespace Go.Proofs.YtaopdcjjcpgebaaGreatDoor
open Go Go.Sym Go.Proofs.Tryz
variable {K : AVal → Heap → Prop} {h h0 hb : Heap}
theorem tables_ok {v : AVal} {xs : List Nd} (hv : Nodes v xs) (hxs : xs.length ≤ 1048576) (hs : ∀ x ∈ xs, x.s.size ≤ 1073741824)
    (good : ∀ ys, okTab ys → ys.length ≤ 1024 → (∀ x ∈ ys, x.s.size ≤ 1073741824) → ∀ rt rd h', TT h0 rt rd ys ys [] h' → K (.tuple [.ptr rt 0 0, .ptr rd 0 0]) h') : ACalls prog 12 [v] h0 K := by
  refine s12_ok ?_
  unfold s12
  refine callG_of (both_ok hv hxs hs (fun nok => ?_) (fun ok hl rt rd h' W => ?_))
  · rw [tTup_tuple, tCons_cons, tCons_cons, tCons_cons, tBool_bool, tNil_nil]
    refine ifT_pos rfl (callG_of (newP_ok (Own.start h0) fun rt h' W => newRow_in fun rd hrd => retG_of (good [] okTab_nil (by simp) (fun x hx => by cases hx) rt rd _ ⟨.nilsl, ?_⟩)))
    obtain ⟨vN, q, O⟩ := W
    refine ⟨vN, q, ?_⟩
    exact (O.newN 4).newC hrd (.row 1 [.agg [.nilsl]])
  · rw [tTup_tuple, tCons_cons, tCons_cons, tCons_cons, tBool_bool, tNil_nil]
    exact ifT_neg rfl (retG_of (good xs ok hl hs rt rd h' W))
end Go.Proofs.YtaopdcjjcpgebaaGreatDoor

namespace Go.Proofs.YtaopdcjjcpgebaaGreatDoor
open Go Go.Sym Go.Proofs.Tryz
variable {K : AVal → Heap → Prop} {h : Heap} {up up' : List (List Int)} {val val' : List (List ByteArray)} {mU mV nU nV : AVal}
theorem copy_l2 (S : Small up val) (hV : Strss mV val) {hb : Heap} {ro rt : Nat} {X : AVal} (hrt : hb rt = some (.row 2 [.agg [.nilsl, X]])) {h0 : Heap} (hsub : ∀ q o, h0 q = some o → q ≠ rt ∧ hb q = some o)
    (good : ∀ vU vV, Intss vU up → Strss vV val → K (.agg [vU, vV]) h0) {LU : List AVal} (aU : All2 Ints LU up) :
    ∀ d i : Nat, i + d = val.length → ∀ vU vV LV h, MB hb ro vU vV LU LV h → All2 Strs LV (val.take i) → s14l2 K (d + 1) (.lptr [mU, mV]) (.ptr rt 0 0) (.ptr ro 0 0) (i : Int) h
  | 0, i, hd, vU, vV, LV, h, M, aV => by
    unfold s14l2
    rw [addOff_lptr]
    simp only [List.drop_succ_cons, List.drop_zero, ld1_lptr]
    rw [hV.len]
    refine ifT_neg (by simp; omega) ?_
    rw [M.ld, tCons_cons, tCons_cons, tNil_nil]
    have M1 := M.upd (x := .row 2 [.agg [vU, vV]]) hrt
    refine st_all (M.old hrt) rfl ?_
    rw [ldN2 (Heap.set_same _ _ _), tCons_cons, tCons_cons, tNil_nil]
    obtain ⟨Sn, vU', vV', l1, l2, s1, s2, hS, hold⟩ := M1.freeze
    rw [List.take_of_length_le (by omega)] at aV
    refine ⟨Sn, _, h0, .agg (.cons l1 (.cons l2 .nil)), ⟨fun _ _ => trivial, fun q o hq => ⟨o, ?_, ?_, .refl o⟩⟩, good vU' vV' ⟨LU, s1, aU⟩ ⟨LV, s2, aV⟩⟩
    · obtain ⟨h1, h2⟩ := hsub q o hq
      exact hold q o (by rw [Heap.set_ne _ _ h1]; exact h2)
    · intro hs
      have h3 := hS q hs
      obtain ⟨h1, h2⟩ := hsub q o hq
      rw [Heap.set_ne _ _ h1, h2] at h3
      cases h3
  | d + 1, i, hd, vU, vV, LV, h, M, aV => by
    have hi : i < val.length := by omega
    have hvl := S.vals
    have hSn := S.names _ (List.getElem_mem hi)
    have hLV : LV.length ≤ i := by have := aV.length; simp at this; omega
    obtain ⟨ev, hev, hix⟩ := hV.ix hi
    unfold s14l2
    rw [addOff_lptr]
    simp only [List.drop_succ_cons, List.drop_zero, ld1_lptr]
    rw [hV.len]
    refine ifT_pos (by simp; omega) ?_
    rw [addOff_ptr, M.ldV, addOff_lptr]
    simp only [List.drop_succ_cons, List.drop_zero, ld1_lptr]
    rw [hix, ld1_lptr]
    refine newRow_in fun r2 hr2 => ?_
    have hget : (h.set r2 (.row 1 [])) ro = some (.row 2 [.agg [vU, vV]]) := Heap.set_sub hr2 _ _ M.get
    refine ⟨by first | rfl | trivial, ⟨by first | rfl | trivial, ⟨by rw [ld1_fld hget rfl], ?_⟩⟩⟩
    refine appC_copy hr2 (elemsA_of hev) (by simp; omega) (by simp; omega) fun cp h3 g2 => ?_
    have hget3 : h3 ro = some (.row 2 [.agg [vU, vV]]) := g2.old M.get
    refine ⟨by rw [ld1_fld hget3 rfl], chk_iff.2 ⟨g2.sc.1, ⟨by rw [ld1_fld hget3 rfl], ?_⟩⟩⟩
    obtain ⟨hb'', g3, M4⟩ := M.swap g2
    refine M4.appV (by omega) (by omega) fun v2 h4 M5 => ?_
    rw [addOff_ptr]
    refine chk_iff.2 ⟨M5.sc.2.1, M5.stV fun h5 M6 => rg_of (by omega) (by omega) ?_⟩
    obtain ⟨Sg, h6, cp', s1, M7, hg⟩ := M6.settleV g3
    refine ⟨Sg, _, h6, Lits.refl _, hg, rfl, ?_⟩
    have := copy_l2 S hV hrt hsub good aU d (i + 1) (by omega) vU v2 _ h6 M7 ?_
    · exact this
    · rw [List.take_succ_eq_append_getElem hi]
      exact aV.append (.cons s1 .nil)
theorem copy_l1 (S : Small up val) (hU : Intss mU up) (hV : Strss mV val) {hb : Heap} {ro rt : Nat} {X : AVal} (hrt : hb rt = some (.row 2 [.agg [.nilsl, X]])) {h0 : Heap} (hsub : ∀ q o, h0 q = some o → q ≠ rt ∧ hb q = some o)
    (good : ∀ vU vV, Intss vU up → Strss vV val → K (.agg [vU, vV]) h0) :
    ∀ d i : Nat, i + d = up.length → ∀ vU LU h, MB hb ro vU .nilsl LU [] h → All2 Ints LU (up.take i) → s14l1 K (d + 1) (.lptr [mU, mV]) (.ptr rt 0 0) (.ptr ro 0 0) (i : Int) h
  | 0, i, hd, vU, LU, h, M, aU => by
    unfold s14l1
    rw [addOff_lptr]
    simp only [List.drop_zero, ld1_lptr]
    rw [hU.len]
    rw [List.take_of_length_le (by omega)] at aU
    exact ifT_neg (by simp; omega) (s14l2_in (val.length + 1) (copy_l2 S hV hrt hsub good aU val.length 0 (by omega) vU .nilsl [] h M .nil))
  | d + 1, i, hd, vU, LU, h, M, aU => by
    have hi : i < up.length := by omega
    have hvl := S.ups
    have hSn := S.row _ (List.getElem_mem hi)
    have hLU : LU.length ≤ i := by have := aU.length; simp at this; omega
    obtain ⟨ev, hev, hix⟩ := hU.ix hi
    unfold s14l1
    rw [addOff_lptr]
    simp only [List.drop_zero, ld1_lptr]
    rw [hU.len]
    refine ifT_pos (by simp; omega) ?_
    rw [addOff_ptr, M.ldU, addOff_lptr]
    simp only [List.drop_zero, ld1_lptr]
    rw [hix, ld1_lptr]
    refine newRow_in fun r2 hr2 => ?_
    have hget : (h.set r2 (.row 1 [])) ro = some (.row 2 [.agg [vU, .nilsl]]) := Heap.set_sub hr2 _ _ M.get
    refine ⟨by first | rfl | trivial, ⟨by first | rfl | trivial, ⟨by rw [ld1_fld hget rfl], ?_⟩⟩⟩
    refine appC_copy hr2 (elemsA_of hev) (by simp; omega) (by simp; omega) fun cp h3 g2 => ?_
    have hget3 : h3 ro = some (.row 2 [.agg [vU, .nilsl]]) := g2.old M.get
    refine ⟨by rw [ld1_fld hget3 rfl], chk_iff.2 ⟨g2.sc.1, ⟨by rw [ld1_fld hget3 rfl], ?_⟩⟩⟩
    obtain ⟨hb'', g3, M4⟩ := M.swap g2
    refine M4.appU (by omega) (by omega) fun v2 h4 M5 => ?_
    rw [addOff_ptr]
    refine chk_iff.2 ⟨M5.sc.1.1, M5.stU fun h5 M6 => rg_of (by omega) (by omega) ?_⟩
    obtain ⟨Sg, h6, cp', s1, M7, hg⟩ := M6.settle1 g3
    refine ⟨Sg, _, h6, Lits.refl _, hg, rfl, ?_⟩
    have := copy_l1 S hU hV hrt hsub good d (i + 1) (by omega) v2 _ h6 M7 ?_
    · exact this
    · rw [List.take_succ_eq_append_getElem hi]
      exact aU.append (.cons s1 .nil)
theorem copy_ok (S : Small up val) (hU : Intss mU up) (hV : Strss mV val) (good : ∀ vU vV, Intss vU up → Strss vV val → K (.agg [vU, vV]) h) : ACalls prog 14 [.agg [mU, mV]] h K := by
  refine s14_ok ?_
  unfold s14
  refine newRow_in fun rt hrt => newRow_in fun ro hro => st_all (Heap.set_same _ _ _) rfl ?_
  rw [Heap.set_set]
  exact s14l1_in (up.length + 1) (copy_l1 S hU hV (Heap.set_same _ _ _) (fun q o hq => ⟨(fun e => by rw [e, hrt] at hq; cases hq), Heap.set_sub hrt q o hq⟩) good up.length 0 (by omega) .nilsl [] _ (MBs.start hro) .nil)
end Go.Proofs.YtaopdcjjcpgebaaGreatDoor

namespace Go.Proofs.YtaopdcjjcpgebaaGreatDoor
open Go Go.Sym Go.Proofs.Tryz
set_option maxRecDepth 100000
variable {K : AVal → Heap → Prop} {h h0 hb : Heap} {mU mV : AVal} {up : List (List Int)} {val : List (List ByteArray)}
theorem eqQ_b18 {p q : Bool} {X : Bool → Prop} (hx : X (p == q)) : eqQ prog 4 (.bool p) (.bool q) X := by
  have e : eqT prog 8 4 (.bool p) (.bool q) = some (p == q) := by cases p <;> cases q <;> kernel_rfl
  refine ⟨trivial, ?_⟩
  rw [e]
  exact hx
theorem headsRet18 (hk : ∀ h', K (.bool true) h') : callG prog 17 [] h fun v h' => tBool v fun b => retG (.bool b) h' K :=
  callG_of (heads18 (by rw [tBool_bool]; exact retG_of (hk _)))
end Go.Proofs.YtaopdcjjcpgebaaGreatDoor

namespace Go.Proofs.YtaopdcjjcpgebaaGreatDoor
open Go Go.Sym Go.Proofs.Tryz
set_option maxRecDepth 100000
variable {K : AVal → Heap → Prop} {h h0 hb : Heap} {mU mV : AVal} {up : List (List Int)} {val : List (List ByteArray)}
theorem seq_whole {ws : List (BitVec 64)} {g : Int} (hl : ws.length = 16) (H : Heap) (X : List AVal → Prop) : ldN 17 H (.lptr (ws.map wV ++ [AVal.int .i64 g])) X = X (ws.map wV ++ [.int .i64 g]) := by
  rw [ldN_lptr _ _ _ _ (by simp [hl]), List.take_of_length_le (by simp [hl])]
theorem holdsL_ok (hk : ∀ h', K (.bool true) h') {rv : AVal} {xs : List Nd} (hr : Nodes rv xs) (hxs : xs.length ≤ 1048576) (hs : ∀ x ∈ xs, x.s.size ≤ 1073741824) (S : Small up val) (hU : Intss mU up) (hV : Strss mV val) {ws : List (BitVec 64)} {g : Int} (hw : ws.length = 16) :
    ACalls prog 3 [rv, .agg [mU, mV], .agg (ws.map wV ++ [.int .i64 g])] h K := by
  refine s3_ok ?_
  unfold s3
  refine SeqV.agg (v := .agg (ws.map wV ++ [.int .i64 g])) (ws := ws) (g := g) ⟨rfl, hw⟩ ?_
  refine callG_of (tables_ok hr hxs hs fun ys ok hy hys rt rd h1 W1 => ?_)
  obtain ⟨P1, D1⟩ := W1.reads
  have G := okTab_good ok
  rw [tTup_tuple, tCons_cons, tCons_cons, tNil_nil, seq_whole hw]
  refine callG_of (copy_ok S hU hV fun vU vV hvU hvV => ?_)
  rw [tAgg_agg, tCons_cons, tCons_cons, tNil_nil]
  refine ⟨by rw [seq_whole hw], callG_of (holdsF_ok P1 G hy rfl S hvU hvV ⟨rfl, hw⟩ ?_)⟩
  rw [tTup_tuple, tCons_cons, tBool_bool, tCons_cons, tInt_int, tNil_nil, seq_whole hw]
  refine callG_of (holds18_ok D1 G hy S hU hV ⟨rfl, hw⟩ ?_)
  rw [tTup_tuple, tCons_cons, tBool_bool, tCons_cons, tInt_int, tNil_nil]
  refine eqQ_b18 (ifT_pos (by simp) (callG_of (num18_ok ?_)))
  rw [tInt_int]
  exact ifT_pos (by simp) (headsRet18 hk)
end Go.Proofs.YtaopdcjjcpgebaaGreatDoor

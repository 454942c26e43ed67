/- Contracts: the document's table of what is forced where. No condition. Contracts: the document's sets of numbers, right sequents; what a world forces (the document). No condition. Contracts: all formulas that a world forces; does a sequent hold (the document). No condition. Contracts: both tables out of rows (a law's own). No condition. Contracts: a copy of a model. No condition. ForceTells over its inputs. No condition. Contracts: the worlds of which something holds. No condition. Contracts: the worlds above one; what is true in one; is a number among some? No condition. ForceSteps over its inputs. No condition. -/
import Derived.Test.YtaopdcjjcpgebaaGreatDoorA2
import Derived.Test.YtaopdcjjcpgebaaGreatDoorA3
import Derived.Test.YtaopdcjjcpgebaaGreatDoorA1
import Derived.Test.YtaopdcjjcpgebaaGreatDoorM5

set_option linter.unusedVariables false
set_option linter.unusedSimpArgs false

namespace Go.Proofs.YtaopdcjjcpgebaaGreatDoor
open Go Go.Sym Go.Proofs.Tryz
set_option maxRecDepth 100000
variable {K : AVal → Heap → Prop} {h h0 hb : Heap} {t mU mV o : AVal} {up : List (List Int)} {val : List (List ByteArray)} {xs : List Nd}
structure Mk (n : Nat) (g : Nat → Bool) (a : Nat) (marks : List Bool) : Prop where
  len : marks.length = n
  done : ∀ a', a' < a → marks[a']? = some (g a')
  rest : ∀ a', a ≤ a' → a' < n → marks[a']? = some false
theorem Mk.next {n : Nat} {g : Nat → Bool} {a : Nat} {marks : List Bool} {b : Bool} (M : Mk n g a marks) (ha : a < n) (hb : b = g a) : Mk n g (a + 1) (marks.set a b) where
  len := by rw [List.length_set]; exact M.len
  done a' h := by
    by_cases e : a' = a
    · subst e; rw [hb]; exact List.getElem?_set_self (by rw [M.len]; exact ha)
    · rw [List.getElem?_set_ne (Ne.symm e)]; exact M.done a' (by omega)
  rest a' h1 h2 := by rw [List.getElem?_set_ne (by omega)]; exact M.rest a' (by omega) h2
theorem Mk.all {n : Nat} {g : Nat → Bool} {marks : List Bool} (M : Mk n g n marks) : marks.map AVal.bool = (List.range n).map fun a => .bool (g a) := by
  apply List.ext_getElem?
  intro i
  by_cases hi : i < n
  · simp [M.done i hi, hi]
  · rw [List.getElem?_eq_none (by rw [List.length_map, M.len]; omega), List.getElem?_eq_none (by simp; omega)]
structure RowsF (v : AVal) (m n : Nat) (f : Nat → Nat → Bool) : Prop where
  ex : ∃ rows, SlOf 1 v rows ∧ rows.length = m ∧ ∀ j, j < m → ∃ e, rows[j]? = some e ∧ e.isAgg = false ∧ SlOf 1 e ((List.range n).map fun a => .bool (f j a))
theorem cells1 {e : AVal} (h : e.isAgg = false) : cellsOf e = [e] := by cases e <;> first | rfl | cases h
theorem RowsF.len {v : AVal} {m n : Nat} {f : Nat → Nat → Bool} (R : RowsF v m n f) (X : Int → Prop) : lenN v X = X m := by
  obtain ⟨rows, h1, h2, _⟩ := R.ex
  rw [lenN_of h1, h2]
theorem RowsF.row {v : AVal} {m n : Nat} {f : Nat → Nat → Bool} (R : RowsF v m n f) {j : Nat} (hj : j < m) : ∃ e, SlOf 1 e ((List.range n).map fun a => .bool (f j a)) ∧ ∀ (H : Heap) (X : AVal → Prop), (ixS 1 v (j : Int) fun p => ld1 H p X) = X e := by
  obtain ⟨rows, h1, h2, h3⟩ := R.ex
  obtain ⟨e, he, ha, hs⟩ := h3 j hj
  refine ⟨e, hs, fun H X => ?_⟩
  rw [ixS_nat h1 he, cells1 ha, ld1_lptr]
abbrev TM (h0 : Heap) (ro ra r N n : Nat) (R : List AVal) (marks : List Bool) (x : Nd) (h : Heap) : Prop := Own h0 [.slc 1 (.sl ro 1 0 N) R, .slc 1 (.sl ra 1 0 n) (marks.map .bool), .cell r (.row 4 [.agg (nodeC x)])] h
section
variable {ro ra r N n i a : Nat} {R : List AVal} {marks : List Bool} {T : Nat → Nat → Bool} {x : Nd} {last : Int}
theorem TM.fld (M : TM h0 ro ra r N n R marks x h) {k : Nat} {v : AVal} (hv : (nodeC x)[k]? = some v) (Y : AVal → Prop) : ld1 h (.ptr r 0 (0 + k)) Y = Y v := ld1_fld (M.get 2 _ r rfl rfl) (by rw [Nat.zero_add]; exact hv) Y
end
end Go.Proofs.YtaopdcjjcpgebaaGreatDoor

namespace Go.Proofs.YtaopdcjjcpgebaaGreatDoor
open Go Go.Sym Go.Proofs.Tryz
set_option maxRecDepth 100000
variable {K : AVal → Heap → Prop} {h h0 hb : Heap} {t mU mV o : AVal} {up : List (List Int)} {val : List (List ByteArray)} {xs : List Nd}
/- ---- At, Worlds ---- -/
section
variable (D : DRd h t xs) (G : GoodT xs) (hx : xs.length ≤ 1024) (S : Small up val) (hU : Intss mU up) (hV : Strss mV val)
include D G hx S hU hV
end
end Go.Proofs.YtaopdcjjcpgebaaGreatDoor

namespace Go.Proofs.YtaopdcjjcpgebaaGreatDoor
open Go Go.Sym Go.Proofs.Tryz
set_option maxRecDepth 100000
variable {K : AVal → Heap → Prop} {h h0 hb : Heap} {t mU mV o : AVal} {up : List (List Int)} {val : List (List ByteArray)} {xs : List Nd}
section
variable (D : DRd h t xs) (G : GoodT xs) (hx : xs.length ≤ 1024) (S : Small up val) (hU : Intss mU up) (hV : Strss mV val)
include D G hx S hU hV
end
end Go.Proofs.YtaopdcjjcpgebaaGreatDoor

namespace Go.Proofs.YtaopdcjjcpgebaaGreatDoor
open Go Go.Sym Go.Proofs.Tryz
variable {K : AVal → Heap → Prop} {h h0 hb : Heap}
theorem tables_ok {v : AVal} {xs : List Nd} (hv : Nodes v xs) (hxs : xs.length ≤ 1048576) (hs : ∀ x ∈ xs, x.s.size ≤ 1073741824)
    (good : ∀ ys, okTab ys → ys.length ≤ 1024 → (∀ x ∈ ys, x.s.size ≤ 1073741824) → ∀ rt rd h', TT h0 rt rd ys ys [] h' → K (.tuple [.ptr rt 0 0, .ptr rd 0 0]) h') : ACalls prog 12 [v] h0 K := by
  refine s12_ok ?_
  unfold s12
  refine callG_of (both_ok hv hxs hs (fun nok => ?_) (fun ok hl rt rd h' W => ?_))
  · rw [tTup_tuple, tCons_cons, tCons_cons, tCons_cons, tBool_bool, tNil_nil]
    refine ifT_pos rfl (callG_of (newP_ok (Own.start h0) fun rt h' W => newRow_in fun rd hrd => retG_of (good [] okTab_nil (by simp) (fun x hx => by cases hx) rt rd _ ⟨.nilsl, ?_⟩)))
    obtain ⟨vN, q, O⟩ := W
    refine ⟨vN, q, ?_⟩
    exact (O.newN 4).newC hrd (.row 1 [.agg [.nilsl]])
  · rw [tTup_tuple, tCons_cons, tCons_cons, tCons_cons, tBool_bool, tNil_nil]
    exact ifT_neg rfl (retG_of (good xs ok hl hs rt rd h' W))
end Go.Proofs.YtaopdcjjcpgebaaGreatDoor

namespace Go.Proofs.YtaopdcjjcpgebaaGreatDoor
open Go Go.Sym Go.Proofs.Tryz
variable {K : AVal → Heap → Prop} {h : Heap} {up up' : List (List Int)} {val val' : List (List ByteArray)} {mU mV nU nV : AVal}
theorem copy_l2 (S : Small up val) (hV : Strss mV val) {hb : Heap} {ro rt : Nat} {X : AVal} (hrt : hb rt = some (.row 2 [.agg [.nilsl, X]])) {h0 : Heap} (hsub : ∀ q o, h0 q = some o → q ≠ rt ∧ hb q = some o)
    (good : ∀ vU vV, Intss vU up → Strss vV val → K (.agg [vU, vV]) h0) {LU : List AVal} (aU : All2 Ints LU up) :
    ∀ d i : Nat, i + d = val.length → ∀ vU vV LV h, MB hb ro vU vV LU LV h → All2 Strs LV (val.take i) → s14l2 K (d + 1) (.lptr [mU, mV]) (.ptr rt 0 0) (.ptr ro 0 0) (i : Int) h
  | 0, i, hd, vU, vV, LV, h, M, aV => by
    unfold s14l2
    rw [addOff_lptr]
    simp only [List.drop_succ_cons, List.drop_zero, ld1_lptr]
    rw [hV.len]
    refine ifT_neg (by simp; omega) ?_
    rw [M.ld, tCons_cons, tCons_cons, tNil_nil]
    have M1 := M.upd (x := .row 2 [.agg [vU, vV]]) hrt
    refine st_all (M.old hrt) rfl ?_
    rw [ldN2 (Heap.set_same _ _ _), tCons_cons, tCons_cons, tNil_nil]
    obtain ⟨Sn, vU', vV', l1, l2, s1, s2, hS, hold⟩ := M1.freeze
    rw [List.take_of_length_le (by omega)] at aV
    refine ⟨Sn, _, h0, .agg (.cons l1 (.cons l2 .nil)), ⟨fun _ _ => trivial, fun q o hq => ⟨o, ?_, ?_, .refl o⟩⟩, good vU' vV' ⟨LU, s1, aU⟩ ⟨LV, s2, aV⟩⟩
    · obtain ⟨h1, h2⟩ := hsub q o hq
      exact hold q o (by rw [Heap.set_ne _ _ h1]; exact h2)
    · intro hs
      have h3 := hS q hs
      obtain ⟨h1, h2⟩ := hsub q o hq
      rw [Heap.set_ne _ _ h1, h2] at h3
      cases h3
  | d + 1, i, hd, vU, vV, LV, h, M, aV => by
    have hi : i < val.length := by omega
    have hvl := S.vals
    have hSn := S.names _ (List.getElem_mem hi)
    have hLV : LV.length ≤ i := by have := aV.length; simp at this; omega
    obtain ⟨ev, hev, hix⟩ := hV.ix hi
    unfold s14l2
    rw [addOff_lptr]
    simp only [List.drop_succ_cons, List.drop_zero, ld1_lptr]
    rw [hV.len]
    refine ifT_pos (by simp; omega) ?_
    rw [addOff_ptr, M.ldV, addOff_lptr]
    simp only [List.drop_succ_cons, List.drop_zero, ld1_lptr]
    rw [hix, ld1_lptr]
    refine newRow_in fun r2 hr2 => ?_
    have hget : (h.set r2 (.row 1 [])) ro = some (.row 2 [.agg [vU, vV]]) := Heap.set_sub hr2 _ _ M.get
    refine ⟨by first | rfl | trivial, ⟨by first | rfl | trivial, ⟨by rw [ld1_fld hget rfl], ?_⟩⟩⟩
    refine appC_copy hr2 (elemsA_of hev) (by simp; omega) (by simp; omega) fun cp h3 g2 => ?_
    have hget3 : h3 ro = some (.row 2 [.agg [vU, vV]]) := g2.old M.get
    refine ⟨by rw [ld1_fld hget3 rfl], chk_iff.2 ⟨g2.sc.1, ⟨by rw [ld1_fld hget3 rfl], ?_⟩⟩⟩
    obtain ⟨hb'', g3, M4⟩ := M.swap g2
    refine M4.appV (by omega) (by omega) fun v2 h4 M5 => ?_
    rw [addOff_ptr]
    refine chk_iff.2 ⟨M5.sc.2.1, M5.stV fun h5 M6 => rg_of (by omega) (by omega) ?_⟩
    obtain ⟨Sg, h6, cp', s1, M7, hg⟩ := M6.settleV g3
    refine ⟨Sg, _, h6, Lits.refl _, hg, rfl, ?_⟩
    have := copy_l2 S hV hrt hsub good aU d (i + 1) (by omega) vU v2 _ h6 M7 ?_
    · exact this
    · rw [List.take_succ_eq_append_getElem hi]
      exact aV.append (.cons s1 .nil)
theorem copy_l1 (S : Small up val) (hU : Intss mU up) (hV : Strss mV val) {hb : Heap} {ro rt : Nat} {X : AVal} (hrt : hb rt = some (.row 2 [.agg [.nilsl, X]])) {h0 : Heap} (hsub : ∀ q o, h0 q = some o → q ≠ rt ∧ hb q = some o)
    (good : ∀ vU vV, Intss vU up → Strss vV val → K (.agg [vU, vV]) h0) :
    ∀ d i : Nat, i + d = up.length → ∀ vU LU h, MB hb ro vU .nilsl LU [] h → All2 Ints LU (up.take i) → s14l1 K (d + 1) (.lptr [mU, mV]) (.ptr rt 0 0) (.ptr ro 0 0) (i : Int) h
  | 0, i, hd, vU, LU, h, M, aU => by
    unfold s14l1
    rw [addOff_lptr]
    simp only [List.drop_zero, ld1_lptr]
    rw [hU.len]
    rw [List.take_of_length_le (by omega)] at aU
    exact ifT_neg (by simp; omega) (s14l2_in (val.length + 1) (copy_l2 S hV hrt hsub good aU val.length 0 (by omega) vU .nilsl [] h M .nil))
  | d + 1, i, hd, vU, LU, h, M, aU => by
    have hi : i < up.length := by omega
    have hvl := S.ups
    have hSn := S.row _ (List.getElem_mem hi)
    have hLU : LU.length ≤ i := by have := aU.length; simp at this; omega
    obtain ⟨ev, hev, hix⟩ := hU.ix hi
    unfold s14l1
    rw [addOff_lptr]
    simp only [List.drop_zero, ld1_lptr]
    rw [hU.len]
    refine ifT_pos (by simp; omega) ?_
    rw [addOff_ptr, M.ldU, addOff_lptr]
    simp only [List.drop_zero, ld1_lptr]
    rw [hix, ld1_lptr]
    refine newRow_in fun r2 hr2 => ?_
    have hget : (h.set r2 (.row 1 [])) ro = some (.row 2 [.agg [vU, .nilsl]]) := Heap.set_sub hr2 _ _ M.get
    refine ⟨by first | rfl | trivial, ⟨by first | rfl | trivial, ⟨by rw [ld1_fld hget rfl], ?_⟩⟩⟩
    refine appC_copy hr2 (elemsA_of hev) (by simp; omega) (by simp; omega) fun cp h3 g2 => ?_
    have hget3 : h3 ro = some (.row 2 [.agg [vU, .nilsl]]) := g2.old M.get
    refine ⟨by rw [ld1_fld hget3 rfl], chk_iff.2 ⟨g2.sc.1, ⟨by rw [ld1_fld hget3 rfl], ?_⟩⟩⟩
    obtain ⟨hb'', g3, M4⟩ := M.swap g2
    refine M4.appU (by omega) (by omega) fun v2 h4 M5 => ?_
    rw [addOff_ptr]
    refine chk_iff.2 ⟨M5.sc.1.1, M5.stU fun h5 M6 => rg_of (by omega) (by omega) ?_⟩
    obtain ⟨Sg, h6, cp', s1, M7, hg⟩ := M6.settle1 g3
    refine ⟨Sg, _, h6, Lits.refl _, hg, rfl, ?_⟩
    have := copy_l1 S hU hV hrt hsub good d (i + 1) (by omega) v2 _ h6 M7 ?_
    · exact this
    · rw [List.take_succ_eq_append_getElem hi]
      exact aU.append (.cons s1 .nil)
theorem copy_ok (S : Small up val) (hU : Intss mU up) (hV : Strss mV val) (good : ∀ vU vV, Intss vU up → Strss vV val → K (.agg [vU, vV]) h) : ACalls prog 14 [.agg [mU, mV]] h K := by
  refine s14_ok ?_
  unfold s14
  refine newRow_in fun rt hrt => newRow_in fun ro hro => st_all (Heap.set_same _ _ _) rfl ?_
  rw [Heap.set_set]
  exact s14l1_in (up.length + 1) (copy_l1 S hU hV (Heap.set_same _ _ _) (fun q o hq => ⟨(fun e => by rw [e, hrt] at hq; cases hq), Heap.set_sub hrt q o hq⟩) good up.length 0 (by omega) .nilsl [] _ (MBs.start hro) .nil)
end Go.Proofs.YtaopdcjjcpgebaaGreatDoor

namespace Go.Proofs.YtaopdcjjcpgebaaGreatDoor
open Go Go.Sym Go.Proofs.Tryz
set_option maxRecDepth 100000
variable {K : AVal → Heap → Prop} {h h0 hb : Heap} {mU mV : AVal} {up : List (List Int)} {val : List (List ByteArray)}
theorem eqQ_b18 {p q : Bool} {X : Bool → Prop} (hx : X (p == q)) : eqQ prog 4 (.bool p) (.bool q) X := by
  have e : eqT prog 8 4 (.bool p) (.bool q) = some (p == q) := by cases p <;> cases q <;> kernel_rfl
  refine ⟨trivial, ?_⟩
  rw [e]
  exact hx
theorem headsRet18 (hk : ∀ h', K (.bool true) h') : callG prog 17 [] h fun v h' => tBool v fun b => retG (.bool b) h' K :=
  callG_of (heads18 (by rw [tBool_bool]; exact retG_of (hk _)))
end Go.Proofs.YtaopdcjjcpgebaaGreatDoor

namespace Go.Proofs.YtaopdcjjcpgebaaGreatDoor
open Go Go.Sym Go.Proofs.Tryz
variable {K : AVal → Heap → Prop} {h : Heap} {up : List (List Int)} {val : List (List ByteArray)} {mU mV : AVal}
theorem natV_eq (l : List Nat) : natV l = (natI l).map (.int .i64) := by simp [natV, natI, List.map_map, Function.comp_def]
theorem all_loop {f : AVal} {p : Nat → Bool} {n : Nat} (hn : n ≤ 1048576) (hf : ∀ b, b < n → ∀ (h' : Heap) (K' : AVal → Heap → Prop), (∀ q o, h q = some o → h' q = some o) → K' (.bool (p b)) h' → callV prog f [.int .i64 (b : Int)] h' K')
    (hk : ∀ v, Ints v (natI ((List.range n).filter p)) → K v h) : ∀ d i : Nat, i + d = n → ∀ l_ h', Grow 1 h l_ (natV ((List.range i).filter p)) h' → s71l1 K (d + 1) f l_ n (i : Int) h'
  | 0, i, hd, l_, h', g => by
    unfold s71l1
    refine ifT_neg (by simp; omega) ?_
    obtain ⟨S, v', h1, h2, h3⟩ := g.freeze
    obtain rfl : i = n := by omega
    exact ⟨S, v', h, h1, h3, hk v' (by unfold Ints; rw [← natV_eq]; exact h2)⟩
  | d + 1, i, hd, l_, h', g => by
    unfold s71l1
    refine ifT_pos (by simp; omega) ?_
    refine hf i (by omega) h' _ (fun q o hq => g.old hq) ?_
    rw [tBool_bool]
    have hle : (natV ((List.range i).filter p)).length ≤ i := by
      rw [natV_len]
      have := List.length_filter_le p (List.range i)
      simpa using this
    have hs := range_filter_succ p i
    cases hp : p i with
    | true =>
      rw [hp] at hs
      refine ifT_pos rfl (appC_one g (by omega) (by omega) fun v' h2 g2 => rg_of (by omega) (by omega) (s71l1_go (all_loop hn hf hk d (i + 1) (by omega) v' h2 ?_)))
      rw [hs, if_pos rfl, natV_app]
      exact g2
    | false =>
      rw [hp] at hs
      refine ifT_neg rfl (rg_of (by omega) (by omega) (s71l1_go (all_loop hn hf hk d (i + 1) (by omega) l_ h' ?_)))
      rw [hs]
      simpa using g
theorem all_ok {f : AVal} {p : Nat → Bool} (hU : Intss mU up) (hn : up.length ≤ 1048576) (hf : ∀ b, b < up.length → ∀ (h' : Heap) (K' : AVal → Heap → Prop), (∀ q o, h q = some o → h' q = some o) → K' (.bool (p b)) h' → callV prog f [.int .i64 (b : Int)] h' K')
    (hk : ∀ v, Ints v (natI ((List.range up.length).filter p)) → K v h) : ACalls prog 71 [.agg [mU, mV], f] h K := by
  refine s71_ok ?_
  unfold s71
  rw [hU.len]
  exact s71l1_in (up.length + 1) (all_loop hn hf hk up.length 0 (by omega) .nilsl h .nil)
end Go.Proofs.YtaopdcjjcpgebaaGreatDoor

namespace Go.Proofs.YtaopdcjjcpgebaaGreatDoor
open Go Go.Sym Go.Proofs.Tryz
set_option maxRecDepth 100000
variable {K : AVal → Heap → Prop} {h h0 hb : Heap} {mU mV : AVal} {up : List (List Int)} {val : List (List ByteArray)}
theorem one_in {w : Int} {n : Nat} : (∀ x ∈ [w], 0 ≤ x ∧ x < (n : Int)) ↔ (decide (0 ≤ w) && decide (w < n)) = true := by simp
open Classical in
noncomputable def aboveR (up : List (List Int)) (val : List (List ByteArray)) (w : Int) : List Nat × Int :=
  if ¬ WF up val then ([], 170) else if (decide (0 ≤ w) && decide (w < up.length)) = false then ([], 2) else (aboveL up w.toNat, 0)
theorem aboveR_ok (S : Small up val) (hU : Intss mU up) (hV : Strss mV val) (w : Int) (hk : ∀ v, Ints v (natI (aboveR up val w).1) → K (.tuple [v, .int .i64 (aboveR up val w).2]) h) : ACalls prog 35 [.agg [mU, mV], .int .i64 w] h K := by
  refine s35_ok ?_
  unfold s35
  unfold aboveR at hk
  refine callG_of (asked_ok (l := [w]) S hU hV (.lsl 1 _) (by simp) (fun hW => ?_) (fun W hW => ?_) (fun W hin f hF => ?_))
  · rw [tTup_tuple, tCons_cons, tCons_cons, tInt_int, tNil_nil]
    rw [if_pos hW] at hk
    exact newRow_in fun r hr => chk_iff.2 ⟨rfl, st_elem (Heap.set_same _ _ _) rfl rfl (ifT_pos rfl (retG_drop (Ext.put (Ext.new hr _) hr _) (hk _ (.nil 1))))⟩
  · rw [tTup_tuple, tCons_cons, tCons_cons, tInt_int, tNil_nil]
    rw [if_neg (fun e => e W), if_pos (by rw [one_in] at hW; simpa using hW)] at hk
    exact newRow_in fun r hr => chk_iff.2 ⟨rfl, st_elem (Heap.set_same _ _ _) rfl rfl (ifT_pos rfl (retG_drop (Ext.put (Ext.new hr _) hr _) (hk _ (.nil 1))))⟩
  · rw [tTup_tuple, tCons_cons, tCons_cons, tInt_int, tNil_nil]
    have hin2 := one_in.1 hin
    rw [if_neg (fun e => e W), if_neg (by rw [hin2]; simp)] at hk
    have hfa : f.isAgg = false ∧ sc f = true := by obtain ⟨o, rfl, _⟩ := hF; exact ⟨rfl, rfl⟩
    have hb := hin w (by simp)
    obtain ⟨a, rfl⟩ := Int.eq_ofNat_of_zero_le hb.1
    have ha : a < up.length := by omega
    rw [Int.toNat_natCast] at hk
    refine newRow_in fun r hr => chk_iff.2 ⟨hfa.2, st_elem (Heap.set_same _ _ _) rfl rfl (ifT_neg rfl ?_)⟩
    rw [Heap.set_set, List.set_cons_zero]
    refine callG_of (all_ok (p := rb up a) hU (by have := W.max; omega) (fun b hb2 h' K' x hk' => ?_) (fun v hv => ?_))
    · show callG prog 72 ([] ++ [.int .i64 (b : Int)] ++ [.ptr r 0 0, .lptr [.int .i64 (a : Int)]]) h' K'
      refine callG_of (s72_ok ?_)
      unfold s72
      rw [ld1_one (x _ _ (Heap.set_same _ _ _)) hfa.1, ld1_lptr, tInt_int]
      refine leq_call hF ha hb2 ?_
      rw [tBool_bool]
      exact retG_of hk'
    · exact retG_drop (Ext.new hr _) (hk v hv)
open Classical in
noncomputable def trueR (up : List (List Int)) (val : List (List ByteArray)) (w : Int) (s : ByteArray) : Bool × Int :=
  if ¬ WF up val then (false, 170) else if (decide (0 ≤ w) && decide (w < up.length)) = false then (false, 2) else (inS (val.getD w.toNat []) s, 0)
theorem trueW_ok (S : Small up val) (hU : Intss mU up) (hV : Strss mV val) (w : Int) (s : ByteArray) (hk : K (.tuple [.bool (trueR up val w s).1, .int .i64 (trueR up val w s).2]) h) : ACalls prog 39 [.agg [mU, mV], .int .i64 w, .str s] h K := by
  refine s39_ok ?_
  unfold s39
  unfold trueR at hk
  refine callG_of (asked_ok (l := [w]) S hU hV (.lsl 1 _) (by simp) (fun hW => ?_) (fun W hW => ?_) (fun W hin f hF => ?_))
  · rw [tTup_tuple, tCons_cons, tCons_cons, tInt_int, tNil_nil]
    rw [if_pos hW] at hk
    exact ifT_pos rfl (retG_of hk)
  · rw [tTup_tuple, tCons_cons, tCons_cons, tInt_int, tNil_nil]
    rw [if_neg (fun e => e W), if_pos (by rw [one_in] at hW; simpa using hW)] at hk
    exact ifT_pos rfl (retG_of hk)
  · rw [tTup_tuple, tCons_cons, tCons_cons, tInt_int, tNil_nil]
    have hin2 := one_in.1 hin
    rw [if_neg (fun e => e W), if_neg (by rw [hin2]; simp)] at hk
    have hb := hin w (by simp)
    obtain ⟨a, rfl⟩ := Int.eq_ofNat_of_zero_le hb.1
    have ha : a < val.length := by have := W.len; omega
    rw [Int.toNat_natCast] at hk
    obtain ⟨e, he, hie⟩ := hV.ix ha
    refine ifT_neg rfl ?_
    rw [hie, ld1_lptr]
    refine callG_of (containsS_ok he (S.names _ (List.getElem_mem ha)).1.1 ?_)
    rw [tBool_bool]
    have hg : val.getD a [] = val[a] := by simp [List.getD_eq_getElem?_getD, ha]
    rw [hg] at hk
    exact retG_of hk
theorem among_l1 {v : AVal} {l : List Int} (hv : Ints v l) (hl : l.length ≤ 1073741824) (n : Int) (hk : K (.bool (decide (n ∈ l))) h) :
    ∀ d i : Nat, i + d = l.length → n ∉ l.take i → s40l1 K (d + 1) v n (i : Int) h
  | 0, i, hd, hi => by
    obtain rfl : i = l.length := by omega
    rw [List.take_of_length_le (Nat.le_refl _)] at hi
    unfold s40l1
    rw [hv.len]
    rw [decide_eq_false hi] at hk
    exact ifT_neg (by simp) (retG_of hk)
  | d + 1, i, hd, hi => by
    have hil : i < l.length := by omega
    unfold s40l1
    rw [hv.len]
    refine ifT_pos (decide_eq_true (by omega)) ?_
    rw [hv.ix hil, ld1_lptr, tInt_int]
    by_cases e : l[i] = n
    · have hm : n ∈ l := e ▸ List.getElem_mem hil
      rw [decide_eq_true hm] at hk
      exact ifT_pos (by simpa using e) (retG_of hk)
    · refine ifT_neg (by simpa using e) (rg_of (by omega) (by omega) (s40l1_go (among_l1 hv hl n hk d (i + 1) (by omega) fun hm => ?_)))
      rw [List.take_succ_eq_append_getElem hil] at hm
      rcases List.mem_append.1 hm with hm | hm
      · exact hi hm
      · exact e (List.mem_singleton.1 hm).symm
theorem among_ok {v : AVal} {l : List Int} (hv : Ints v l) (hl : l.length ≤ 1073741824) (n : Int) (hk : K (.bool (decide (n ∈ l))) h) : ACalls prog 40 [v, .int .i64 n] h K := by
  refine s40_ok ?_
  unfold s40
  exact s40l1_in (l.length + 1) (among_l1 hv hl n hk l.length 0 (by omega) (by simp))
end Go.Proofs.YtaopdcjjcpgebaaGreatDoor

namespace Go.Proofs.YtaopdcjjcpgebaaGreatDoor
open Go Go.Sym Go.Proofs.Tryz
set_option maxRecDepth 100000
variable {K : AVal → Heap → Prop} {h h0 hb : Heap} {mU mV : AVal} {up : List (List Int)} {val : List (List ByteArray)} {xs : List Nd}
theorem atR_in {w i : Int} (h : (atR up val xs w i).2 = 0) : ∃ a j : Nat, WF up val ∧ w = (a : Int) ∧ a < up.length ∧ i = (j : Int) ∧ j < xs.length ∧ atR up val xs w i = (frc up val xs j a, 0) := by
  unfold atR at h ⊢
  by_cases hW : WF up val
  · rw [if_neg (fun e => e hW)] at h ⊢
    by_cases h1 : (decide (0 ≤ w) && decide (w < up.length)) = false
    · rw [if_pos h1] at h; cases h
    · rw [if_neg h1] at h ⊢
      by_cases h2 : hasN xs.length i = false
      · rw [if_pos h2] at h; cases h
      · rw [if_neg h2]
        have h3 := hasN_iff.1 (by simpa using h2 : hasN xs.length i = true)
        have h4 : (decide (0 ≤ w) && decide (w < up.length)) = true := by simpa using h1
        simp only [Bool.and_eq_true, decide_eq_true_eq] at h4
        obtain ⟨a, rfl⟩ := Int.eq_ofNat_of_zero_le h4.1
        obtain ⟨j, rfl⟩ := Int.eq_ofNat_of_zero_le h3.1
        exact ⟨a, j, hW, rfl, by omega, rfl, by omega, rfl⟩
  · rw [if_pos hW] at h; cases h
theorem atR_at (W : WF up val) {a j : Nat} (ha : a < up.length) (hj : j < xs.length) : atR up val xs (a : Int) (j : Int) = (frc up val xs j a, 0) := by
  unfold atR
  rw [if_neg (fun e => e W), if_neg (by rw [decide_eq_true (show (0 : Int) ≤ (a : Int) by omega), decide_eq_true (show (a : Int) < up.length by omega)]; simp), if_neg (by rw [hasN_iff.2 ⟨by omega, by omega⟩]; simp), Int.toNat_natCast, Int.toNat_natCast]
theorem atR_no {w i : Int} (h : (atR up val xs w i).2 ≠ 0) : (atR up val xs w i).1 = false := by
  unfold atR at h ⊢
  split
  · rfl
  · split
    · rfl
    · split
      · rfl
      · rename_i h1 h2 h3
        rw [if_neg h1, if_neg h2, if_neg h3] at h
        exact absurd rfl h
theorem worldsR_at (W : WF up val) {j : Nat} (hj : j < xs.length) : worldsR up val xs (j : Int) = (onL up val xs j, 0) := by
  unfold worldsR
  rw [if_neg (fun e => e W), if_neg (by rw [hasN_iff.2 ⟨by omega, by omega⟩]; simp), Int.toNat_natCast]
theorem mem_onL {j a : Nat} (ha : a < up.length) : decide (((a : Nat) : Int) ∈ natI (onL up val xs j)) = frc up val xs j a := by
  rw [Bool.eq_iff_iff, decide_eq_true_eq]
  unfold onL
  constructor
  · intro h
    obtain ⟨b, hb, e⟩ := mem_natI.1 h
    obtain rfl : a = b := by omega
    exact (List.mem_filter.1 hb).2
  · intro h
    exact mem_natI.2 ⟨a, List.mem_filter.2 ⟨List.mem_range.2 ha, h⟩, rfl⟩
theorem stepsL_end (hk : ∀ h', K (.bool true) h') {is want : Bool} (e : is = want) : s9c4 K is want h := by
  unfold s9c4
  exact eqQ_b18 (ifT_pos (by simp [e]) (headsRet18 hk))
theorem stepsL_l6 (hk : ∀ h', K (.bool true) h') {is : Bool} {l r a : Nat} {vu vl vr : AVal} (hn : up.length ≤ 512) (hu : Ints vu (natI (aboveL up a))) (hl : Ints vl (natI (onL up val xs l))) (hr : Ints vr (natI (onL up val xs r)))
    (e : is = !((aboveL up a).any fun b => frc up val xs l b && !frc up val xs r b)) :
    ∀ d i : Nat, i + d = (aboveL up a).length → ∀ want : Bool, (want && ((aboveL up a).drop i).all fun b => !frc up val xs l b || frc up val xs r b) = is → s9l6 K (d + 1) is want vu vl vr (i : Int) h
  | 0, i, hd, want, hw => by
    obtain rfl : i = (aboveL up a).length := by omega
    rw [List.drop_of_length_le (Nat.le_refl _), List.all_nil, Bool.and_true] at hw
    unfold s9l6
    rw [hu.len]
    exact ifT_neg (by simp [natI]) (stepsL_end hk hw.symm)
  | d + 1, i, hd, want, hw => by
    have hi : i < (aboveL up a).length := by omega
    have hlen := above_len (up := up) (a := a)
    have hbl : (aboveL up a)[i] < up.length := List.mem_range.1 (List.mem_filter.1 (List.getElem_mem hi)).1
    rw [List.drop_eq_getElem_cons hi, List.all_cons] at hw
    have onlen : ∀ j, (natI (onL up val xs j)).length ≤ 1073741824 := fun j => by
      have := List.length_filter_le (frc up val xs j) (List.range up.length)
      rw [List.length_range] at this
      unfold onL
      simp only [natI, List.length_map]
      omega
    have next : ∀ want' : Bool, (want' && ((aboveL up a).drop (i + 1)).all fun b => !frc up val xs l b || frc up val xs r b) = is → s9c7 K (s9l6_G (s9l6 K (d + 1))) is want' vu vl vr (i : Int) h := fun want' hw' => by
      unfold s9c7
      exact rg_of (by omega) (by omega) (s9l6_go (stepsL_l6 hk hn hu hl hr e d (i + 1) (by omega) want' hw'))
    unfold s9l6
    rw [hu.len]
    refine ifT_pos (decide_eq_true (by simp [natI]; omega)) ?_
    have rdu : ∀ X : AVal → Prop, (ixS 1 vu (i : Int) fun p => ld1 h p X) = X (.int .i64 (((aboveL up a)[i] : Nat) : Int)) := fun X => by
      rw [hu.ix (by simpa [natI] using hi), ld1_lptr]
      simp [natI]
    cases want with
    | false => exact ifT_neg rfl (next false (by simpa using hw))
    | true =>
      refine ifT_pos rfl ?_
      rw [rdu, tInt_int]
      refine callG_of (among_ok hl (onlen l) _ ?_)
      rw [mem_onL hbl, tBool_bool]
      cases h1 : frc up val xs l (aboveL up a)[i] with
      | false => exact ifT_pos rfl (next true (by rw [h1] at hw; simpa using hw))
      | true =>
        refine ifT_neg rfl ?_
        rw [rdu, tInt_int]
        refine callG_of (among_ok hr (onlen r) _ ?_)
        rw [mem_onL hbl, tBool_bool]
        exact next _ (by rw [h1] at hw; simpa using hw)
theorem stepsL_ok (hk : ∀ h', K (.bool true) h') {rv : AVal} {xs : List Nd} (hr : Nodes rv xs) (hxs : xs.length ≤ 1048576) (hs : ∀ x ∈ xs, x.s.size ≤ 1073741824) (S : Small up val) (hU : Intss mU up) (hV : Strss mV val) (w id : Int) :
    ACalls prog 9 [rv, .agg [mU, mV], .int .i64 w, .int .i64 id] h K := by
  refine s9_ok ?_
  unfold s9
  refine callG_of (tables_ok hr hxs hs fun ys ok hy hys rt rd h1 W1 => ?_)
  obtain ⟨P1, D1⟩ := W1.reads
  have G := okTab_good ok
  rw [tTup_tuple, tCons_cons, tCons_cons, tNil_nil]
  refine callG_of (copy_ok S hU hV fun vU vV hvU hvV => ?_)
  rw [tAgg_agg, tCons_cons, tCons_cons, tNil_nil]
  refine callG_of (atF_ok P1 G hy rfl S hvU hvV w id ?_)
  rw [tTup_tuple, tCons_cons, tBool_bool, tCons_cons, tInt_int, tNil_nil]
  refine callG_of (num18_ok ?_)
  rw [tInt_int]
  by_cases he : (atR up val ys w id).2 = 0
  · obtain ⟨a, j, W, rfl, ha, rfl, hj, eq⟩ := atR_in he
    rw [eq]
    refine ifT_neg rfl ?_
    have hix : ys[j]? = some ys[j] := List.getElem?_eq_getElem hj
    generalize ys[j] = x at hix
    obtain ⟨vN, hv, ld⟩ := D1.ld
    rw [ld]
    refine hv.ix hix ?_
    rw [nodeC, tCons_cons, tInt_int, tCons_cons, tStr_str, tCons_cons, tInt_int, tCons_cons, tInt_int, tNil_nil]
    refine newRow_in fun r hr => st4 (Heap.set_same _ _ _) rfl rfl ?_
    rw [Heap.set_set]
    have P2 := P1.ext (h' := h1.set r (.row 4 [.agg [.int .i64 x.k, .str x.s, .int .i64 x.l, .int .i64 x.r]])) (Ext.new hr _)
    have g2 : (h1.set r (.row 4 [.agg [.int .i64 x.k, .str x.s, .int .i64 x.l, .int .i64 x.r]])) r = some (.row 4 [.agg [.int .i64 x.k, .str x.s, .int .i64 x.l, .int .i64 x.r]]) := Heap.set_same _ _ _
    generalize h1.set r (.row 4 [.agg [.int .i64 x.k, .str x.s, .int .i64 x.l, .int .i64 x.r]]) = h2 at P2 g2 ⊢
    have f0 : ∀ X : AVal → Prop, ld1 h2 (.ptr r 0 0) X = X (.int .i64 x.k) := fun X => ld1_fld (o := 0) g2 rfl X
    have f0' : ∀ X : AVal → Prop, ld1 h2 (.ptr r 0 (0 + 0)) X = X (.int .i64 x.k) := fun X => ld1_fld (o := 0) g2 rfl X
    have f1 : ∀ X : AVal → Prop, ld1 h2 (.ptr r 0 1) X = X (.str x.s) := fun X => ld1_fld (o := 1) g2 rfl X
    have f2 : ∀ X : AVal → Prop, ld1 h2 (.ptr r 0 2) X = X (.int .i64 x.l) := fun X => ld1_fld (o := 2) g2 rfl X
    have f3 : ∀ X : AVal → Prop, ld1 h2 (.ptr r 0 3) X = X (.int .i64 x.r) := fun X => ld1_fld (o := 3) g2 rfl X
    have f2' : ∀ X : AVal → Prop, ld1 h2 (.ptr r 0 (0 + 2)) X = X (.int .i64 x.l) := fun X => ld1_fld (o := 2) g2 rfl X
    have f3' : ∀ X : AVal → Prop, ld1 h2 (.ptr r 0 (0 + 3)) X = X (.int .i64 x.r) := fun X => ld1_fld (o := 3) g2 rfl X
    rw [f0, tInt_int]
    rcases G _ x hix with e | e | ⟨e, ⟨l1, l2⟩, r1, r2⟩
    · refine ifT_neg (by simp [e]) ?_
      rw [f0, tInt_int]
      refine ifT_pos (by simp [e]) ?_
      rw [f1, tStr_str]
      refine callG_of (copy_ok S hU hV fun vU vV hvU hvV => ?_)
      rw [tAgg_agg, tCons_cons, tCons_cons, tNil_nil]
      refine ⟨by rw [f1], callG_of (trueW_ok S hvU hvV _ x.s ?_)⟩
      have et : trueR up val (a : Int) x.s = (inS (val.getD a []) x.s, 0) := by
        unfold trueR
        rw [if_neg (fun e => e W), if_neg (by rw [decide_eq_true (show (0 : Int) ≤ (a : Int) by omega), decide_eq_true (show (a : Int) < up.length by omega)]; simp), Int.toNat_natCast]
      rw [et, tTup_tuple, tCons_cons, tBool_bool, tCons_cons, tInt_int, tNil_nil]
      refine callG_of (num18_ok ?_)
      rw [tInt_int]
      refine ifT_pos rfl (eqQ_b18 (ifT_pos ?_ (headsRet18 hk)))
      rw [frc_1 hix e]
      simp
    · refine ifT_pos (by simp [e]) (ifT_pos ?_ (headsRet18 hk))
      rw [frc_2 hix e]
      rfl
    · obtain ⟨l, hxl⟩ := Int.eq_ofNat_of_zero_le l1
      obtain ⟨rr, hxr⟩ := Int.eq_ofNat_of_zero_le r1
      have hli : l < j := by omega
      have hri : rr < j := by omega
      refine ifT_neg (by rcases e with e | e | e <;> simp [e]) ?_
      rw [f0, tInt_int]
      refine ifT_neg (by rcases e with e | e | e <;> simp [e]) ?_
      rw [f2, tInt_int]
      refine callG_of (copy_ok S hU hV fun vU1 vV1 hvU1 hvV1 => ?_)
      rw [tAgg_agg, tCons_cons, tCons_cons, tNil_nil]
      refine ⟨by rw [f2], callG_of (atF_ok P2 G hy rfl S hvU1 hvV1 _ _ ?_)⟩
      rw [hxl, atR_at W ha (show l < ys.length by omega), tTup_tuple, tCons_cons, tBool_bool, tCons_cons, tInt_int, tNil_nil, f3, tInt_int]
      refine callG_of (copy_ok S hU hV fun vU2 vV2 hvU2 hvV2 => ?_)
      rw [tAgg_agg, tCons_cons, tCons_cons, tNil_nil]
      refine ⟨by rw [f3], callG_of (atF_ok P2 G hy rfl S hvU2 hvV2 _ _ ?_)⟩
      rw [hxr, atR_at W ha (show rr < ys.length by omega), tTup_tuple, tCons_cons, tBool_bool, tCons_cons, tInt_int, tNil_nil]
      refine callG_of (num18_ok ?_)
      rw [tInt_int]
      refine ifT_neg rfl (callG_of (num18_ok ?_))
      rw [tInt_int]
      have c3 : ∀ want, (x.k = 5 ∨ frc up val ys j a = want) → s9c3 K (a : Int) (.lptr [mU, mV]) (.ptr rt 0 0) (frc up val ys j a) (.ptr r 0 0) want h2 := fun want hw => by
        unfold s9c3
        rw [addOff_ptr, f0', tInt_int]
        by_cases e5 : x.k = 5
        · refine ifT_pos (by simp [e5]) ?_
          rw [ldN_agg2, tCons_cons, tCons_cons, tNil_nil]
          refine callG_of (copy_ok S hU hV fun vU3 vV3 hvU3 hvV3 => ?_)
          rw [tAgg_agg, tCons_cons, tCons_cons, tNil_nil]
          refine callG_of (aboveR_ok S hvU3 hvV3 _ fun vu hvu => ?_)
          have ea : aboveR up val (a : Int) = (aboveL up a, 0) := by
            unfold aboveR
            rw [if_neg (fun e => e W), if_neg (by rw [decide_eq_true (show (0 : Int) ≤ (a : Int) by omega), decide_eq_true (show (a : Int) < up.length by omega)]; simp), Int.toNat_natCast]
          rw [ea] at hvu ⊢
          rw [tTup_tuple, tCons_cons, tCons_cons, tInt_int, tNil_nil, ldN_agg2, tCons_cons, tCons_cons, tNil_nil, addOff_ptr, f2', tInt_int]
          refine callG_of (copy_ok S hU hV fun vU4 vV4 hvU4 hvV4 => ?_)
          rw [tAgg_agg, tCons_cons, tCons_cons, tNil_nil]
          refine ⟨by rw [f2'], callG_of (worldsR_ok P2 G hy rfl S hvU4 hvV4 _ fun vl hvl => ?_)⟩
          rw [hxl, worldsR_at W (show l < ys.length by omega)] at hvl ⊢
          rw [tTup_tuple, tCons_cons, tCons_cons, tInt_int, tNil_nil, ldN_agg2, tCons_cons, tCons_cons, tNil_nil, addOff_ptr, f3', tInt_int]
          refine callG_of (copy_ok S hU hV fun vU5 vV5 hvU5 hvV5 => ?_)
          rw [tAgg_agg, tCons_cons, tCons_cons, tNil_nil]
          refine ⟨by rw [f3'], callG_of (worldsR_ok P2 G hy rfl S hvU5 hvV5 _ fun vr hvr => ?_)⟩
          rw [hxr, worldsR_at W (show rr < ys.length by omega)] at hvr ⊢
          rw [tTup_tuple, tCons_cons, tCons_cons, tInt_int, tNil_nil]
          refine callG_of (num18_ok ?_)
          rw [tInt_int]
          refine ifT_neg rfl (callG_of (num18_ok ?_))
          rw [tInt_int]
          refine ifT_neg rfl (callG_of (num18_ok ?_))
          rw [tInt_int]
          unfold s9c5
          refine ifT_neg rfl ?_
          have hf := frc_5 (up := up) (val := val) (w := a) hix e5 hxl hxr hli hri
          refine s9l6_in ((aboveL up a).length + 1) (stepsL_l6 (xs := ys) hk W.max hvu hvl hvr hf (aboveL up a).length 0 (by omega) true ?_)
          rw [List.drop_zero, Bool.true_and, hf, Bool.eq_iff_iff]
          simp only [List.all_eq_true, Bool.not_eq_true', List.any_eq_false]
          constructor
          · intro h b hb
            have := h b hb
            cases h1 : frc up val ys l b <;> cases h2 : frc up val ys rr b <;> simp_all
          · intro h b hb
            have := h b hb
            cases h1 : frc up val ys l b <;> cases h2 : frc up val ys rr b <;> simp_all
        · refine ifT_neg (by simpa using e5) (stepsL_end hk ?_)
          rcases hw with hw | hw
          · exact absurd hw e5
          · exact hw
      unfold s9c1
      refine ifT_neg rfl ?_
      have c2 : ∀ want, want = (frc up val ys l a && frc up val ys rr a) → s9c2 K (a : Int) (.lptr [mU, mV]) (.ptr rt 0 0) (frc up val ys j a) (.ptr r 0 0) (frc up val ys l a) (frc up val ys rr a) want h2 := fun want hw => by
        unfold s9c2
        rw [addOff_ptr, f0', tInt_int]
        by_cases e4 : x.k = 4
        · have hf := frc_4 (up := up) (val := val) (w := a) hix e4 hxl hxr hli hri
          refine ifT_pos (by simp [e4]) ?_
          cases h1 : frc up val ys l a with
          | true => exact ifT_pos rfl (c3 _ (.inr (by rw [hf, h1]; rfl)))
          | false => exact ifT_neg rfl (c3 _ (.inr (by rw [hf, h1]; rfl)))
        · refine ifT_neg (by simpa using e4) (c3 _ ?_)
          rcases e with e | e | e
          · exact .inr (by rw [frc_3 (up := up) (val := val) (w := a) hix e hxl hxr hli hri, hw])
          · exact absurd e e4
          · exact .inl e
      cases h1 : frc up val ys l a with
      | true => rw [h1] at c2; exact ifT_pos rfl (c2 _ (by simp))
      | false => rw [h1] at c2; exact ifT_neg rfl (c2 _ (by simp))
  · refine ifT_pos (by simpa using he) (ifT_pos ?_ (headsRet18 hk))
    rw [atR_no he]
    rfl
end Go.Proofs.YtaopdcjjcpgebaaGreatDoor

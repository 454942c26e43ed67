/- Plain law: the worlds above one, mapped into their model, are a bounded morphism. No condition; no program. Contracts: the document's part and Above. No condition. Plain law: names with a blank behind each: who reads the text knows the names. No condition; no program. Contracts: keys are numbered in the order in which they come. No condition. Contracts: the program's numbering of keys. No condition. Plain law: classes of bisimilar worlds, numbered in the order in which they come. No condition; no program. Contracts: the program's classes. No condition. Contracts: the program's classes, whole; Classes. No condition. Plain law: the model of the classes; worlds to classes is a bounded morphism. No condition; no program. Words for contracts: a table of truths. No condition. Contracts: the document's table of worlds that are alike. No condition. Contracts: the program's Quotient. No condition. Contracts: the document's Alike, Classes. No condition. Contracts: the document's Classes, Quotient. No condition. Contracts: the document's Quotient. No condition. Contracts: the program's Unravel. No condition. Contracts: the program's Unravel, whole. No condition. Plain law: the tree of the ways up; its ends are a bounded morphism. No condition; no program. Plain law: the tree of the ways up is a model; its ends are a bounded morphism. No condition; no program. Contracts: the document's Unravel. No condition. Contracts: the document's Unravel, whole. No condition. -/
import Derived.Test.YtinficcdpggiaaaMM1

set_option linter.unusedVariables false
set_option linter.unusedSimpArgs false

namespace Go.Proofs.Ytinficcdpggiaaa
open Go Go.Sym Go.Proofs.Try

variable {up : List (List Int)} {val : List (List ByteArray)}

theorem above_wf (W : WF up val) {x : Nat} (hx : x < up.length) : WF (subUp up (aboveL up x)) (subVal val (aboveL up x)) := (subUp_rows up _).wf W (above_worlds W hx) above_len
theorem gOf_nat {L : List Nat} {a : Nat} (ha : a < L.length) : gOf (natI L) a = L.getD a 0 := by
  unfold gOf natI
  rw [List.getD_eq_getElem?_getD, List.getElem?_map, List.getElem?_eq_getElem ha]
  simp [List.getD, ha]
theorem above_fit (W : WF up val) {x : Nat} (hx : x < up.length) : FitF (tidyUp (subUp up (aboveL up x))) up (natI (aboveL up x)) where
  len := by rw [tidyUp_len, (subUp_rows up _).len]; simp [natI]
  rng w hw := by
    obtain ⟨k, hk, rfl⟩ := mem_natI.1 hw
    have := (above_worlds W hx).lt k hk
    omega
theorem above_isB (W : WF up val) {x : Nat} (hx : x < up.length) : IsB (tidyUp (subUp up (aboveL up x))) (subVal val (aboveL up x)) up val (natI (aboveL up x)) := by
  have R := subUp_rows up (aboveL up x)
  have WA := above_wf W hx
  have hW := above_worlds W hx
  intro a ha
  rw [tidyUp_len] at ha
  have ha2 : a < (aboveL up x).length := by rw [R.len] at ha; exact ha
  rw [gOf_nat ha2]
  refine ⟨subVal_get val ha2, fun b hb => ?_, fun c hc => ?_⟩
  · obtain ⟨hb2, hr⟩ := (R.reach ha2).1 ((reach_tidy WA ha).1 hb)
    rw [gOf_nat hb2]
    exact hr
  · have h1 : Reach up x ((aboveL up x).getD a 0) := by
      rw [getD_mem ha2]
      exact (mem_aboveL W.inR hx).1 (List.getElem_mem ha2)
    have hc2 : c ∈ aboveL up x := (mem_aboveL W.inR hx).2 (h1.trans hc)
    obtain ⟨b, hb, rfl⟩ := List.mem_iff_getElem.1 hc2
    refine ⟨b, (reach_tidy WA ha).2 ((R.reach ha2).2 ⟨hb, by rw [getD_mem hb]; exact hc⟩), by rw [gOf_nat hb, getD_mem hb]⟩
theorem above_small (S : Small up val) (W : WF up val) {x : Nat} (hx : x < up.length) : Small (tidyUp (subUp up (aboveL up x))) (subVal val (aboveL up x)) where
  ups := by
    have h1 := above_len (up := up) (a := x)
    have h2 := W.max
    rw [tidyUp_len, (subUp_rows up _).len]; omega
  vals := by
    have h1 := above_len (up := up) (a := x)
    have h2 := W.max
    simp only [subVal, List.length_map]; omega
  row r hr := by
    simp only [tidyUp, List.mem_map] at hr
    obtain ⟨a, _, rfl⟩ := hr
    have h3 : (tidyRow (subUp up (aboveL up x)) a).length ≤ (List.range (subUp up (aboveL up x)).length).length := List.length_filter_le _ _
    rw [List.length_range, (subUp_rows up _).len] at h3
    have h1 := above_len (up := up) (a := x)
    have h2 := W.max
    simp only [natI, List.length_map]; omega
  names l hl := by
    simp only [subVal, List.mem_map] at hl
    obtain ⟨y, hy, rfl⟩ := hl
    have hyl : y < val.length := by rw [W.len]; exact (above_worlds W hx).lt y hy
    rw [getD_val hyl]
    exact S.names _ (List.getElem_mem hyl)
end Go.Proofs.Ytinficcdpggiaaa

namespace Go.Proofs.Ytinficcdpggiaaa
open Go Go.Sym Go.Proofs.Try

variable {K : AVal → Heap → Prop} {h h0 hb : Heap} {up : List (List Int)} {val : List (List ByteArray)} {mU mV : AVal}

theorem asked17_ok (S : Small up val) (hU : Intss mU up) (hV : Strss mV val) (w : Int) (bad : ¬ WF up val → K (.tuple [.nilsl, .int .i64 170]) h) (out : WF up val → ¬ (0 ≤ w ∧ w < up.length) → K (.tuple [.nilsl, .int .i64 2]) h)
    (good : WF up val → 0 ≤ w ∧ w < up.length → ∀ o, OTab o up → K (.tuple [o, .int .i64 0]) h) : ACalls prog 62 [.agg [mU, mV], .int .i64 w] h K := by
  refine s62_ok ?_
  unfold s62
  refine callG_of (right_ok S hU hV (fun hW => ?_) fun W o hO => ?_)
  · simp only [tTup_tuple, tCons_cons, tBool_bool, tNil_nil]
    exact ifT_pos rfl (retG_of (bad hW))
  · simp only [tTup_tuple, tCons_cons, tBool_bool, tNil_nil]
    refine ifT_neg rfl ?_
    by_cases h1 : w < 0
    · exact ifT_pos (decide_eq_true h1) (ifT_pos rfl (retG_of (out W (by omega))))
    · refine ifT_neg (decide_eq_false h1) ?_
      rw [hO.len]
      by_cases h2 : (up.length : Int) ≤ w
      · exact ifT_pos (decide_eq_true h2) (retG_of (out W (by omega)))
      · exact ifT_neg (decide_eq_false h2) (retG_of (good W (by omega) o hO))

theorem above17_l1 (hn : up.length ≤ 512) {o : AVal} (hO : OTab o up) {x : Nat} (hx : x < up.length) (good : ∀ vl, Ints vl (natI (aboveL up x)) → K (.tuple [vl, .int .i64 0]) h0) :
    ∀ d b : Nat, b + d = up.length → ∀ v h, Own h0 [.slc 1 v ((natI ((List.range b).filter (rb up x))).map (.int .i64))] h → s32l1 K (d + 1) (x : Int) o v (b : Int) h
  | 0, b, hd, v, h, Ow => by
    obtain rfl : b = up.length := by omega
    unfold s32l1
    rw [hO.len]
    refine ifT_neg (by simp) ?_
    obtain ⟨v', l1, s1⟩ := Ow.lit (i := 0) rfl (S := nameOf v) (fun _ h => h) (Lits.refl _)
    exact ⟨nameOf v, .tuple [v', .int .i64 0], h0, .tuple (.cons l1 (.cons (.refl _) .nil)), Own.toBase Ow _ (fun n hn => Ow.new 0 _ n rfl hn), good v' s1⟩
  | d + 1, b, hd, v, h, Ow => by
    have hb : b < up.length := by omega
    obtain ⟨e, hr, _, hi⟩ := hO.row (h' := h) hx
    have hl : ((natI ((List.range b).filter (rb up x))).map (AVal.int .i64)).length ≤ b := by
      have := List.length_filter_le (rb up x) (List.range b)
      simpa [natI] using this
    unfold s32l1
    rw [hO.len]
    refine ifT_pos (decide_eq_true (by omega)) ?_
    rw [hr, hi b hb, tBool_bool]
    have e1 : (List.range (b + 1)).filter (rb up x) = (List.range b).filter (rb up x) ++ if rb up x b then [b] else [] := by
      rw [List.range_succ, List.filter_append, List.filter_cons]; rfl
    cases hrb : rb up x b with
    | true =>
      rw [hrb, if_pos rfl] at e1
      refine ifT_pos rfl (Ow.app (i := 0) rfl (by omega) (by omega) fun v2 h2 W2 => rg_of (by omega) (by omega) (s32l1_go ?_))
      refine above17_l1 hn hO hx good d (b + 1) (by omega) v2 h2 ?_
      rw [e1]
      simpa [natI] using W2
    | false =>
      rw [hrb] at e1
      refine ifT_neg rfl (rg_of (by omega) (by omega) (s32l1_go ?_))
      refine above17_l1 hn hO hx good d (b + 1) (by omega) v h ?_
      rw [e1]
      simpa using Ow
theorem above17_ok (S : Small up val) (hU : Intss mU up) (hV : Strss mV val) (W : WF up val) {x : Nat} (hx : x < up.length) (good : ∀ vl, Ints vl (natI (aboveL up x)) → K (.tuple [vl, .int .i64 0]) h) : ACalls prog 32 [.agg [mU, mV], .int .i64 (x : Int)] h K := by
  refine s32_ok ?_
  unfold s32
  refine callG_of (asked17_ok S hU hV _ (fun hn => absurd W hn) (fun _ hn => absurd ⟨by omega, by omega⟩ hn) fun _ _ o hO => ?_)
  simp only [tTup_tuple, tCons_cons, tInt_int, tNil_nil]
  refine ifT_neg rfl (s32l1_in (up.length + 1) (above17_l1 W.max hO hx good up.length 0 (by omega) .nilsl h ?_))
  exact (Own.start h).newN 1

/-- who of the first k stands above place a -/
noncomputable def subR (up : List (List Int)) (L : List Nat) (a k : Nat) : List Nat := (List.range k).filter fun x => rb up (L.getD a 0) (L.getD x 0)
theorem subR_next (up : List (List Int)) (L : List Nat) (a k : Nat) : subR up L a (k + 1) = subR up L a k ++ if rb up (L.getD a 0) (L.getD k 0) then [k] else [] := by
  unfold subR
  rw [List.range_succ, List.filter_append, List.filter_cons]; rfl
theorem subR_len {L : List Nat} {a k : Nat} : (subR up L a k).length ≤ k := by
  have := List.length_filter_le (fun x => rb up (L.getD a 0) (L.getD x 0)) (List.range k)
  simpa [subR] using this
section
variable {L : List Nat} {vl o t6 : AVal} {ro : Nat}
theorem part19_l2 (W : WF up val) (hV : Strss mV val) (hL : Worlds up L) (hLl : L.length ≤ 512) (hl : Ints vl (natI L)) (hO : OTab o up) {a : Nat} (ha : a < L.length) {vU vV : AVal} {LU LV : List AVal} (hLU : LU.length ≤ 512) (hLV : LV.length ≤ 512)
    {F : AVal → AVal → AVal → AVal → AVal → Int → Heap → Prop}
    (next : ∀ vU' vV' row' cp h', Ints row' (natI (subRow up L a)) → Strs cp (val.getD (L.getD a 0) []) → UV hb ro vU' vV' vU' (LU ++ [row']) vV' (LV ++ [cp]) h' → F o vl (.lptr [mU, mV]) t6 (.ptr ro 0 0) ((a : Int) + 1) h') :
    ∀ d k : Nat, k + d = L.length → ∀ row h, Own hb [.cell ro (.row 2 [.agg [vU, vV]]), .slc 1 vU LU, .slc 1 vV LV, .slc 1 row ((natI (subR up L a k)).map (.int .i64))] h →
      s33l2 K (s33l1_G F) (d + 1) o vl (.lptr [mU, mV]) t6 (.ptr ro 0 0) (a : Int) row (k : Int) h
  | 0, k, hd, row, h, Ow => by
    have hal : L.getD a 0 < val.length := by rw [W.len, getD_mem ha]; exact hL.lt _ (List.getElem_mem ha)
    obtain ⟨c, hc, hic⟩ := hV.ix hal
    obtain rfl : k = L.length := by omega
    have hnl : (natI L).length = L.length := by simp [natI]
    have hga : (natI L)[a]'(by rw [hnl]; exact ha) = ((L.getD a 0 : Nat) : Int) := by rw [getD_mem ha]; simp [natI]
    unfold s33l2
    rw [hl.len, hnl]
    refine ifT_neg (by simp) ?_
    rw [addOff_ptr, ld1_fld (Ow.get 0 _ ro rfl rfl) rfl]
    refine chk_iff.2 ⟨(Ow.sc (i := 3) rfl).1, Ow.app (i := 1) rfl (by omega) (by omega) fun v2 h2 W2 => ?_⟩
    refine chk_iff.2 ⟨(W2.sc (i := 1) rfl).1, st_fst (W2.get 0 _ ro rfl rfl) ?_⟩
    have W3 := W2.put (i := 0) rfl (.row 2 [.agg [v2, vV]])
    rw [addOff_ptr, ld1_fld (W3.get 0 _ ro rfl rfl) rfl, addOff_lptr]
    simp only [List.drop_succ_cons, List.drop_zero, ld1_lptr]
    rw [hl.ix (by rw [hnl]; exact ha), ld1_lptr, tInt_int, hga, hic, ld1_lptr]
    refine chk_iff.2 ⟨hc.notAgg.2, ⟨by rw [ld1_fld (W3.get 0 _ ro rfl rfl) rfl], W3.app (i := 2) rfl (by omega) (by omega) fun v3 h3 W4 => ?_⟩⟩
    refine chk_iff.2 ⟨(W4.sc (i := 2) rfl).1, st_snd (W4.get 0 _ ro rfl rfl) (rg_of (by omega) (by omega) ?_)⟩
    have W5 : Own hb ([.cell ro (.row 2 [.agg [v2, v3]]), .slc 1 v2 (LU ++ [row]), .slc 1 v3 (LV ++ [c])] ++ [.slc 1 row ((natI (subR up L a L.length)).map (.int .i64))]) _ := W4.put (i := 0) rfl (.row 2 [.agg [v2, v3]])
    obtain ⟨Sg, h', row', s1, g, W6⟩ := W5.settleL (i := 1) rfl
    exact ⟨Sg, _, h', Lits.refl _, g, rfl, next v2 v3 row' c h' s1 (by rw [getD_val hal]; exact hc) W6⟩
  | d + 1, k, hd, row, h, Ow => by
    have hk : k < L.length := by omega
    have hnl : (natI L).length = L.length := by simp [natI]
    have hga : ∀ (x : Nat) (hx : x < L.length), (natI L)[x]'(by rw [hnl]; exact hx) = ((L.getD x 0 : Nat) : Int) := fun x hx => by rw [getD_mem hx]; simp [natI]
    have hal : L.getD a 0 < up.length := by rw [getD_mem ha]; exact hL.lt _ (List.getElem_mem ha)
    have hkl : L.getD k 0 < up.length := by rw [getD_mem hk]; exact hL.lt _ (List.getElem_mem hk)
    obtain ⟨e, hr, _, hi⟩ := hO.row (h' := h) hal
    have hsl := subR_len (up := up) (L := L) (a := a) (k := k)
    unfold s33l2
    rw [hl.len, hnl]
    refine ifT_pos (decide_eq_true (by omega)) ?_
    rw [hl.ix (by rw [hnl]; exact ha), ld1_lptr, tInt_int, hga a ha, hr, hl.ix (by rw [hnl]; exact hk), ld1_lptr, tInt_int, hga k hk, hi _ hkl, tBool_bool]
    have e1 := subR_next up L a k
    cases hrb : rb up (L.getD a 0) (L.getD k 0) with
    | true =>
      rw [hrb, if_pos rfl] at e1
      refine ifT_pos rfl (Ow.app (i := 3) rfl (by simp [natI]; omega) (by simp [natI]; omega) fun row2 h2 W2 => rg_of (by omega) (by omega) (s33l2_go ?_))
      refine part19_l2 (vU := vU) (vV := vV) W hV hL hLl hl hO ha hLU hLV next d (k + 1) (by omega) row2 h2 ?_
      rw [e1]
      simpa [natI] using W2
    | false =>
      rw [hrb] at e1
      refine ifT_neg rfl (rg_of (by omega) (by omega) (s33l2_go ?_))
      refine part19_l2 (vU := vU) (vV := vV) W hV hL hLl hl hO ha hLU hLV next d (k + 1) (by omega) row h ?_
      rw [e1]
      simpa using Ow

theorem part19_l1 (S : Small up val) (W : WF up val) (hV : Strss mV val) (hL : Worlds up L) (hLl : L.length ≤ 512) (hLu : L.length ≤ up.length) (hl : Ints vl (natI L)) (hO : OTab o up) {rt : Nat} {X Y : AVal} (ht : hb rt = some (.row 2 [.agg [X, Y]])) (hsub : ∀ q o, h0 q = some o → q ≠ rt ∧ hb q = some o)
    (good : ∀ vU vV, Intss vU (tidyUp (subUp up L)) → Strss vV (subVal val L) → K (.agg [vU, vV]) h0) :
    ∀ d a : Nat, a + d = L.length → ∀ vU vV LU LV h, All2 Ints LU ((subUp up L).take a) → All2 Strs LV ((subVal val L).take a) → UV hb ro vU vV vU LU vV LV h →
      s33l1 K (d + 1) o vl (.lptr [mU, mV]) (.ptr rt 0 0) (.ptr ro 0 0) (a : Int) h
  | 0, a, hd, vU, vV, LU, LV, h, hR, hLV, Ow => by
    obtain rfl : a = L.length := by omega
    have hsv : (subVal val L).length = L.length := by simp [subVal]
    have SR := subUp_rows up L
    have hsu := SR.len
    rw [List.take_of_length_le (by omega)] at hLV hR
    unfold s33l1
    rw [hl.len, show (natI L).length = L.length by simp [natI]]
    refine ifT_neg (by simp) ?_
    rw [ldN2 (Ow.get 0 _ ro rfl rfl), tCons_cons, tCons_cons, tNil_nil]
    let Sg : Nat → Prop := fun n => nameOf vU n ∨ nameOf vV n
    obtain ⟨u', lu, su⟩ := Ow.lit (i := 1) rfl (S := Sg) (fun n h => .inl h) (Lits.refl LU)
    obtain ⟨v', lv, sv⟩ := Ow.lit (i := 2) rfl (S := Sg) (fun n h => .inr h) (Lits.refl LV)
    have SS : Small (subUp up L) (subVal val L) := ⟨by omega, by omega, fun r hr => by
      simp only [subUp, List.mem_map] at hr
      obtain ⟨i, _, rfl⟩ := hr
      have := subR_len (up := up) (L := L) (a := i) (k := L.length)
      have e : subRow up L i = subR up L i L.length := rfl
      rw [e]
      simp only [natI, List.length_map]
      omega, fun l hl => by
      simp only [subVal, List.mem_map] at hl
      obtain ⟨x, hx, rfl⟩ := hl
      have hxl : x < val.length := by rw [W.len]; exact hL.lt x hx
      rw [getD_val hxl]
      exact S.names _ (List.getElem_mem hxl)⟩
    refine ⟨Sg, [.agg [u', v']], hb, .cons (.agg (.cons lu (.cons lv .nil))) .nil, Own.toBase Ow Sg (fun n hn => by
      rcases hn with hn | hn
      · exact Ow.new 1 _ n rfl hn
      · exact Ow.new 2 _ n rfl hn), tidy19_ok SS ⟨_, su, hR⟩ ⟨_, sv, hLV⟩ (SR.wf W hL hLu) fun a b ha hbv => ?_⟩
    simp only [tAgg_agg, tCons_cons, tNil_nil]
    refine st_all ht rfl ?_
    rw [ldN2 (Heap.set_same _ _ _), tCons_cons, tCons_cons, tNil_nil]
    refine retG_drop (fun q o hq => ?_) (good a b ha hbv)
    rw [Heap.set_ne _ _ (hsub q o hq).1]
    exact (hsub q o hq).2
  | d + 1, a, hd, vU, vV, LU, LV, h, hR, hLV, Ow => by
    have ha : a < L.length := by omega
    have hsv : (subVal val L).length = L.length := by simp [subVal]
    have hsu := (subUp_rows up L).len
    have hUl := hR.length
    have hVl := hLV.length
    rw [List.length_take] at hVl hUl
    unfold s33l1
    rw [hl.len, show (natI L).length = L.length by simp [natI]]
    refine ifT_pos (decide_eq_true (by omega)) (s33l2_in (L.length + 1) ?_)
    refine part19_l2 W hV hL hLl hl hO ha (by omega) (by omega) (fun vU' vV' row' cp h' hr hc W' => ?_) _ 0 (by omega) .nilsl h (Ow.newN 1)
    refine part19_l1 S W hV hL hLl hLu hl hO ht hsub good d (a + 1) (by omega) vU' vV' _ _ h' ?_ ?_ W'
    · rw [List.take_succ_eq_append_getElem (by omega)]
      refine hR.append (.cons ?_ .nil)
      have : (subUp up L)[a]'(by omega) = natI (subRow up L a) := by simp [subUp]
      rw [this]
      exact hr
    · rw [List.take_succ_eq_append_getElem (by omega)]
      refine hLV.append (.cons ?_ .nil)
      have : (subVal val L)[a]'(by omega) = val.getD (L.getD a 0) [] := by rw [getD_mem ha]; simp [subVal]
      rw [this]
      exact hc
theorem part19_ok (S : Small up val) (W : WF up val) (hV : Strss mV val) (hL : Worlds up L) (hLu : L.length ≤ up.length) (hl : Ints vl (natI L)) (hO : OTab o up)
    (good : ∀ vU vV, Intss vU (tidyUp (subUp up L)) → Strss vV (subVal val L) → K (.agg [vU, vV]) h0) : ACalls prog 33 [.agg [mU, mV], o, vl] h0 K := by
  have hmax := W.max
  refine s33_ok ?_
  unfold s33
  refine newRow_in fun rt hrt => newRow_in fun ro hro => st_all (Heap.set_same _ _ _) rfl ?_
  rw [Heap.set_set]
  refine s33l1_in (L.length + 1) ?_
  refine part19_l1 (X := .nilsl) (Y := .nilsl) (hb := h0.set rt (.row 2 [.agg [.nilsl, .nilsl]])) S W hV hL (by omega) hLu hl hO (Heap.set_same _ _ _) (fun q o hq => ⟨(fun e => by rw [e, hrt] at hq; cases hq), Heap.set_sub hrt q o hq⟩) good L.length 0 (by omega) .nilsl .nilsl [] [] _ .nil .nil ?_
  exact (((Own.start _).newC hro (.row 2 [.agg [.nilsl, .nilsl]])).newN 1).newN 1
end
theorem above19_ok (S : Small up val) (hU : Intss mU up) (hV : Strss mV val) (w : Int) (bad : ¬ WF up val → K (.tuple [.agg [.nilsl, .nilsl], .nilsl, .int .i64 170]) h0) (out : WF up val → ¬ (0 ≤ w ∧ w < up.length) → K (.tuple [.agg [.nilsl, .nilsl], .nilsl, .int .i64 2]) h0)
    (good : WF up val → ∀ x : Nat, w = x → x < up.length → ∀ vU vV vl, Intss vU (tidyUp (subUp up (aboveL up x))) → Strss vV (subVal val (aboveL up x)) → Ints vl (natI (aboveL up x)) → K (.tuple [.agg [vU, vV], vl, .int .i64 0]) h0) :
    ACalls prog 10 [.agg [mU, mV], .int .i64 w] h0 K := by
  refine s10_ok ?_
  unfold s10
  refine newRow_in fun rt hrt => ?_
  have ht := Heap.set_same h0 rt (.row 2 [.agg [.nilsl, .nilsl]])
  have hsub : ∀ q o, h0 q = some o → q ≠ rt ∧ (h0.set rt (.row 2 [.agg [.nilsl, .nilsl]])) q = some o := fun q o hq => ⟨(fun e => by rw [e, hrt] at hq; cases hq), Heap.set_sub hrt q o hq⟩
  refine callG_of (right_ok S hU hV (fun hW => ?_) fun W o hO => ?_)
  · simp only [tTup_tuple, tCons_cons, tBool_bool, tNil_nil]
    exact ifT_pos rfl (fail_ok ht hsub (bad hW))
  · simp only [tTup_tuple, tCons_cons, tBool_bool, tNil_nil]
    refine ifT_neg rfl ?_
    by_cases h1 : w < 0
    · exact ifT_pos (decide_eq_true h1) (ifT_pos rfl (fail_ok ht hsub (out W (by omega))))
    · refine ifT_neg (decide_eq_false h1) ?_
      rw [hO.len]
      by_cases h2 : (up.length : Int) ≤ w
      · exact ifT_pos (decide_eq_true h2) (fail_ok ht hsub (out W (by omega)))
      · obtain ⟨x, rfl⟩ := Int.eq_ofNat_of_zero_le (by omega : 0 ≤ w)
        have hx : x < up.length := by omega
        have hab := above_len (up := up) (a := x)
        refine ifT_neg (decide_eq_false h2) ?_
        rw [ldN_agg2]
        simp only [tCons_cons, tNil_nil]
        refine callG_of (above17_ok S hU hV W hx fun vl hl => ?_)
        simp only [tTup_tuple, tCons_cons, tInt_int, tNil_nil]
        rw [ldN_agg2]
        simp only [tCons_cons, tNil_nil]
        refine callG_of (part19_ok S W hV (above_worlds W hx) hab hl hO fun a b ha hbv => ?_)
        simp only [tAgg_agg, tCons_cons, tNil_nil]
        refine st_all ht rfl ?_
        rw [ldN2 (Heap.set_same _ _ _), tCons_cons, tCons_cons, tNil_nil]
        refine retG_drop (fun q o hq => ?_) (good W x rfl hx a b vl ha hbv hl)
        rw [Heap.set_ne _ _ (hsub q o hq).1]
        exact (hsub q o hq).2
end Go.Proofs.Ytinficcdpggiaaa

namespace Go.Proofs.Ytinficcdpggiaaa
open Go Go.Sym Go.Proofs.Try

theorem split_one {α : Type} {c : α} : ∀ {a b r r' : List α}, c ∉ a → c ∉ b → a ++ c :: r = b ++ c :: r' → a = b ∧ r = r'
  | [], [], r, r', _, _, h => by simpa using h
  | [], y :: b, r, r', _, hb, h => by
    simp only [List.nil_append, List.cons_append, List.cons.injEq] at h
    exact absurd (by rw [h.1]; exact List.mem_cons_self) hb
  | x :: a, [], r, r', ha, _, h => by
    simp only [List.nil_append, List.cons_append, List.cons.injEq] at h
    exact absurd (by rw [h.1]; exact List.mem_cons_self) ha
  | x :: a, y :: b, r, r', ha, hb, h => by
    simp only [List.cons_append, List.cons.injEq] at h
    obtain ⟨h1, h2⟩ := split_one (fun hm => ha (List.mem_cons_of_mem _ hm)) (fun hm => hb (List.mem_cons_of_mem _ hm)) h.2
    exact ⟨by rw [h.1, h1], h2⟩
theorem join_inj {α : Type} {c : α} : ∀ {l m : List (List α)}, (∀ a ∈ l, c ∉ a) → (∀ a ∈ m, c ∉ a) → l.flatMap (· ++ [c]) = m.flatMap (· ++ [c]) → l = m
  | [], [], _, _, _ => rfl
  | [], b :: m, _, _, h => by
    have := congrArg List.length h
    simp only [List.flatMap_nil, List.flatMap_cons, List.length_append, List.length_singleton, List.length_nil] at this
    omega
  | a :: l, [], _, _, h => by
    have := congrArg List.length h
    simp only [List.flatMap_nil, List.flatMap_cons, List.length_append, List.length_singleton, List.length_nil] at this
    omega
  | a :: l, b :: m, hl, hm, h => by
    simp only [List.flatMap_cons, List.append_assoc, List.singleton_append] at h
    obtain ⟨h1, h2⟩ := split_one (hl a List.mem_cons_self) (hm b List.mem_cons_self) h
    rw [h1, join_inj (fun x hx => hl x (List.mem_cons_of_mem _ hx)) (fun x hx => hm x (List.mem_cons_of_mem _ hx)) h2]

theorem word_byte {s : ByteArray} (hw : wordB s = true) {i : Nat} (hi : i < s.size) : btA s (i : Int) ≠ 32 := by
  unfold wordB at hw
  simp only [Bool.and_eq_true] at hw
  have hg := List.all_eq_true.1 hw.2.2.1 i (by simp; omega)
  intro e
  unfold goodB ltB dgB at hg
  rw [e] at hg
  simp at hg

theorem word_blank {s : ByteArray} (hw : wordB s = true) : (32 : UInt8) ∉ s.data.toList := by
  intro hm
  obtain ⟨i, hi, e⟩ := List.mem_iff_getElem.1 hm
  have hs : i < s.size := by
    have : s.data.toList.length = s.size := by rw [Array.length_toList]; rfl
    omega
  refine word_byte hw hs ?_
  unfold btA
  have h1 : s[((i : Nat) : Int).toNat]? = some s[i] := by
    rw [Int.toNat_natCast]
    exact getElem?_pos s i hs
  rw [h1]
  have h2 : s[i] = (32 : UInt8) := by
    have : s.data.toList[i] = s[i] := by rw [Array.getElem_toList]; rfl
    rw [← this, e]
  rw [h2]
  rfl
/-- the key of a world's names -/
def keyS (l : List ByteArray) : ByteArray := l.foldl (fun acc s => acc ++ (s ++ ByteArray.mk #[32])) (ByteArray.mk #[])
theorem keyS_toList : ∀ (l : List ByteArray) (acc : ByteArray), (l.foldl (fun acc s => acc ++ (s ++ ByteArray.mk #[32])) acc).data.toList = acc.data.toList ++ (l.map fun s => s.data.toList).flatMap (· ++ [32])
  | [], acc => by simp
  | s :: l, acc => by
    rw [List.foldl_cons, keyS_toList l]
    simp [ByteArray.data_append]
theorem keyS_inj {l m : List ByteArray} (hl : ∀ s ∈ l, wordB s = true) (hm : ∀ s ∈ m, wordB s = true) (h : keyS l = keyS m) : l = m := by
  have h1 := congrArg (fun b : ByteArray => b.data.toList) h
  unfold keyS at h1
  simp only [keyS_toList, List.append_cancel_left_eq] at h1
  have h2 := join_inj (c := (32 : UInt8)) (fun a ha => by
    obtain ⟨s, hs, rfl⟩ := List.mem_map.1 ha
    exact word_blank (hl s hs)) (fun a ha => by
    obtain ⟨s, hs, rfl⟩ := List.mem_map.1 ha
    exact word_blank (hm s hs)) h1
  have inj : ∀ (l m : List ByteArray), (l.map fun s => s.data.toList) = (m.map fun s => s.data.toList) → l = m := by
    intro l
    induction l with
    | nil => intro m h; cases m with
      | nil => rfl
      | cons _ _ => simp at h
    | cons x l ih => intro m h; cases m with
      | nil => simp at h
      | cons y m =>
        simp only [List.map_cons, List.cons.injEq] at h
        rw [ih m h.2]
        have : x = y := by
          cases x; cases y
          congr 1
          exact Array.toList_inj.1 h.1
        rw [this]
  exact inj l m h2
end Go.Proofs.Ytinficcdpggiaaa

namespace Go.Proofs.Ytinficcdpggiaaa
open Go Go.Sym Go.Proofs.Try

variable {K : AVal → Heap → Prop} {h h0 : Heap}

/-- the place of a name -/
def idx : List ByteArray → ByteArray → Nat
  | [], _ => 0
  | d :: D, s => if s = d then 0 else idx D s + 1
theorem idx_lt {s : ByteArray} : ∀ {D : List ByteArray}, s ∈ D → idx D s < D.length
  | [], h => by simp at h
  | d :: D, h => by
    unfold idx
    split
    · simp
    · rename_i hne
      have : s ∈ D := by simpa [hne] using h
      have := idx_lt this
      simp only [List.length_cons]; omega
theorem idx_get {s : ByteArray} : ∀ {D : List ByteArray}, s ∈ D → D[idx D s]? = some s
  | [], h => by simp at h
  | d :: D, h => by
    unfold idx
    split
    · rename_i e; rw [e]; rfl
    · rename_i hne
      have : s ∈ D := by simpa [hne] using h
      rw [List.getElem?_cons_succ]
      exact idx_get this
theorem idx_app {s : ByteArray} {E : List ByteArray} : ∀ {D : List ByteArray}, s ∈ D → idx (D ++ E) s = idx D s
  | [], h => by simp at h
  | d :: D, h => by
    show idx (d :: (D ++ E)) s = _
    unfold idx
    split
    · rfl
    · rename_i hne
      have : s ∈ D := by simpa [hne] using h
      rw [idx_app this]
theorem idx_new {s : ByteArray} : ∀ {D : List ByteArray}, s ∉ D → idx (D ++ [s]) s = D.length
  | [], _ => by simp [idx]
  | d :: D, h => by
    show idx (d :: (D ++ [s])) s = _
    have h1 : s ≠ d ∧ s ∉ D := by simpa using h
    unfold idx
    rw [if_neg h1.1, idx_new h1.2]
    rfl
/-- the keys, each once -/
def dst (l : List ByteArray) : List ByteArray := l.foldl (fun D s => if inS D s then D else D ++ [s]) []
theorem dst_snoc (l : List ByteArray) (s : ByteArray) : dst (l ++ [s]) = if inS (dst l) s then dst l else dst l ++ [s] := by unfold dst; rw [List.foldl_append]; rfl
theorem dst_mem {s : ByteArray} : ∀ (n : Nat) (l : List ByteArray), l.length = n → (s ∈ dst l ↔ s ∈ l)
  | 0, l, hn => by
    obtain rfl : l = [] := List.eq_nil_of_length_eq_zero hn
    simp [dst]
  | n + 1, l, hn => by
    have hne : l ≠ [] := fun e => by rw [e] at hn; simp at hn
    have e := List.dropLast_concat_getLast hne
    have hl : l.dropLast.length = n := by rw [List.length_dropLast]; omega
    have ih := dst_mem (s := s) n l.dropLast hl
    rw [← e, dst_snoc]
    split
    · rename_i hin
      rw [ih, List.mem_append, List.mem_singleton]
      constructor
      · exact .inl
      · rintro (h | h)
        · exact h
        · rw [h]
          exact (dst_mem n l.dropLast hl).1 (inS_iff.1 hin)
    · rw [List.mem_append, List.mem_append, ih]
theorem dst_len : ∀ (n : Nat) (l : List ByteArray), l.length = n → (dst l).length ≤ n
  | 0, l, hn => by
    obtain rfl : l = [] := List.eq_nil_of_length_eq_zero hn
    simp [dst]
  | n + 1, l, hn => by
    have hne : l ≠ [] := fun e => by rw [e] at hn; simp at hn
    have e := List.dropLast_concat_getLast hne
    have hl : l.dropLast.length = n := by rw [List.length_dropLast]; omega
    have ih := dst_len n l.dropLast hl
    rw [← e, dst_snoc]
    split
    · omega
    · simp only [List.length_append, List.length_singleton]; omega

def mapSo : Nat → List ByteArray → List (AVal × AVal)
  | _, [] => []
  | k, s :: D => (.str s, .int .i64 (k : Int)) :: mapSo (k + 1) D
theorem mapSo_len : ∀ (k : Nat) (D : List ByteArray), (mapSo k D).length = D.length
  | _, [] => rfl
  | k, s :: D => by simp [mapSo, mapSo_len (k + 1) D]
theorem mapSo_app (s : ByteArray) : ∀ (k : Nat) (D : List ByteArray), mapSo k (D ++ [s]) = mapSo k D ++ [(.str s, .int .i64 ((k + D.length : Nat) : Int))]
  | k, [] => by simp [mapSo]
  | k, d :: D => by
    simp only [List.cons_append, mapSo, mapSo_app s (k + 1) D, List.length_cons]
    rw [show k + 1 + D.length = k + (D.length + 1) by omega]
theorem findS (s : ByteArray) : ∀ (D : List ByteArray) (k i : Nat), (s ∈ D → findM (.str s) (mapSo k D) i = some (some (i + idx D s, .int .i64 ((k + idx D s : Nat) : Int)))) ∧ (s ∉ D → findM (.str s) (mapSo k D) i = some none)
  | [], k, i => ⟨fun h => by simp at h, fun _ => rfl⟩
  | d :: D, k, i => by
    have ih := findS s D (k + 1) (i + 1)
    unfold mapSo findM keyEq idx
    simp only [strEq_dec]
    by_cases e : s = d
    · refine ⟨fun _ => ?_, fun h => absurd (by simp [e]) h⟩
      rw [decide_eq_true e, if_pos e]
      rfl
    · rw [decide_eq_false e, if_neg e]
      refine ⟨fun h => ?_, fun h => ?_⟩
      · have := ih.1 (by simpa [e] using h)
        simp only
        rw [this, show i + 1 + idx D s = i + (idx D s + 1) by omega, show k + 1 + idx D s = k + (idx D s + 1) by omega]
      · exact ih.2 (fun hh => h (List.mem_cons_of_mem _ hh))
end Go.Proofs.Ytinficcdpggiaaa

namespace Go.Proofs.Ytinficcdpggiaaa
open Go Go.Sym Go.Proofs.Try

variable {K : AVal → Heap → Prop} {h h0 : Heap}

theorem entsA_of {h : Heap} {rm : Nat} {M : List (AVal × AVal)} (hm : h rm = some (.map M)) : entsA h (.mapr rm) = some M := by simp only [entsA, hm]
theorem mapPutR_of {h : Heap} {rm : Nat} {M : List (AVal × AVal)} (hm : h rm = some (.map M)) (k v : AVal) : mapPutR h (.mapr rm) k v = match putM k v M with | some l' => some (h.set rm (.map l')) | none => none := by
  simp only [mapPutR, hm]
  cases putM k v M <;> rfl
/-- the numbers of the first i keys, then noughts -/
def numL (l : List ByteArray) (i : Nat) : List AVal := ((l.take i).map fun s => AVal.int .i64 ((idx (dst (l.take i)) s : Nat) : Int)) ++ List.replicate (l.length - i) (.int .i64 0)
theorem numL_len {l : List ByteArray} {i : Nat} (hi : i ≤ l.length) : (numL l i).length = l.length := by
  unfold numL
  rw [List.length_append, List.length_map, List.length_take, List.length_replicate]
  omega
theorem numL_next {l : List ByteArray} {i : Nat} (hi : i < l.length) : (numL l i).set i (.int .i64 ((idx (dst (l.take (i + 1))) l[i] : Nat) : Int)) = numL l (i + 1) := by
  have ht : l.take (i + 1) = l.take i ++ [l[i]] := List.take_succ_eq_append_getElem hi
  have hold : ∀ s ∈ l.take i, idx (dst (l.take (i + 1))) s = idx (dst (l.take i)) s := fun s hs => by
    have hm := (dst_mem _ (l.take i) rfl).2 hs
    rw [ht, dst_snoc]
    split
    · rfl
    · exact idx_app hm
  unfold numL
  have hl : ((l.take i).map fun s => AVal.int .i64 ((idx (dst (l.take i)) s : Nat) : Int)).length = i := by rw [List.length_map, List.length_take]; omega
  rw [List.set_append_right _ _ (by omega), hl, Nat.sub_self, show l.length - i = (l.length - (i + 1)) + 1 by omega, List.replicate_succ, List.set_cons_zero]
  conv => rhs; rw [ht, List.map_append, List.append_assoc]
  congr 1
  · refine List.map_congr_left fun s hs => ?_
    rw [← ht, hold s hs]
  · rw [← ht]; rfl

theorem numbered_l1 {v : AVal} {l : List ByteArray} (hv : Strs v l) (hl : l.length ≤ 1048576) {rm ro : Nat} (hk : ∀ c, Ints c (l.map fun s => ((idx (dst l) s : Nat) : Int)) → K (.tuple [c, .int .i64 ((dst l).length : Int)]) h0) :
    ∀ d i : Nat, i + d = l.length → ∀ h, Own h0 [.cell rm (.map (mapSo 0 (dst (l.take i)))), .cell ro (.row 1 (numL l i))] h → s63l1 K (d + 1) (.mapr rm) (.sl ro 1 0 l.length) v (l.length : Int) (i : Int) h
  | 0, i, hd, h, W => by
    obtain rfl : i = l.length := by omega
    unfold s63l1
    refine ifT_neg (by simp) ?_
    have hm : entsA h (.mapr rm) = some (mapSo 0 (dst (l.take l.length))) := entsA_of (W.get 0 _ rm rfl rfl)
    unfold lenM lenMR
    rw [hm]
    simp only [mapSo_len, List.take_length]
    refine ⟨fun q => q = ro, .tuple [.lsl 1 (numL l l.length), .int .i64 ((dst l).length : Int)], h0, .tuple (.cons (.whole rfl (W.get 1 _ ro rfl rfl) (numL_len (Nat.le_refl _)).symm) (.cons (.refl _) .nil)), ⟨fun _ _ => trivial, fun q o hq => ⟨o, W.old q o hq, (fun e => by
      have := W.new 1 _ q rfl e
      rw [this] at hq; cases hq), .refl o⟩⟩, hk _ ?_⟩
    unfold Ints
    have : numL l l.length = (l.map fun s => ((idx (dst l) s : Nat) : Int)).map (.int .i64) := by
      unfold numL
      rw [List.take_length, Nat.sub_self, List.replicate_zero, List.append_nil, List.map_map]
      rfl
    rw [this]
    exact .lsl 1 _
  | d + 1, i, hd, h, W => by
    have hi : i < l.length := by omega
    have hdl := dst_len (l.take i).length (l.take i) rfl
    rw [List.length_take] at hdl
    have ht : l.take (i + 1) = l.take i ++ [l[i]] := List.take_succ_eq_append_getElem hi
    have hf := findS l[i] (dst (l.take i)) 0 0
    have hget : (numL l i)[i]? = some (.int .i64 0) := by
      unfold numL
      have hl2 : ((l.take i).map fun s => AVal.int .i64 ((idx (dst (l.take i)) s : Nat) : Int)).length = i := by rw [List.length_map, List.length_take]; omega
      rw [List.getElem?_append_right (by omega), hl2, Nat.sub_self, show l.length - i = (l.length - (i + 1)) + 1 by omega, List.replicate_succ]
      rfl
    have fin : ∀ h', Own h0 [.cell rm (.map (mapSo 0 (dst (l.take (i + 1))))), .cell ro (.row 1 (numL l i))] h' → l[i] ∈ dst (l.take (i + 1)) → s63c2 K (s63l1_G (s63l1 K (d + 1))) (.mapr rm) (.sl ro 1 0 l.length) (i : Int) l[i] v (l.length : Int) (i : Int) h' := by
      intro h' W' hin
      have hf' := (findS l[i] (dst (l.take (i + 1))) 0 0).1 hin
      unfold s63c2 mapGet mapGetR
      rw [entsA_of (W'.get 0 _ rm rfl rfl)]
      simp only [hf', Nat.zero_add, tInt_int]
      refine ixS_sl0 hi (st_elem (W'.get 1 _ ro rfl rfl) hget rfl (rg_of (by omega) (by omega) (s63l1_go ?_)))
      have W2 := W'.put (i := 1) rfl (.row 1 ((numL l i).set i (.int .i64 ((idx (dst (l.take (i + 1))) l[i] : Nat) : Int))))
      rw [numL_next hi] at W2 ⊢
      exact numbered_l1 hv hl hk d (i + 1) (by omega) _ W2
    unfold s63l1
    refine ifT_pos (by simp; omega) ?_
    rw [hv.ix hi, ld1_lptr, tStr_str]
    by_cases hin : l[i] ∈ dst (l.take i)
    · have e : dst (l.take (i + 1)) = dst (l.take i) := by rw [ht, dst_snoc, if_pos (inS_iff.2 hin)]
      unfold mapGet mapGetR
      rw [entsA_of (W.get 0 _ rm rfl rfl)]
      simp only [hf.1 hin, tInt_int]
      exact ifT_neg rfl (fin h (by rw [e]; exact W) (by rw [e]; exact hin))
    · have e : dst (l.take (i + 1)) = dst (l.take i) ++ [l[i]] := by
        rw [ht, dst_snoc, if_neg (fun hh => hin (inS_iff.1 hh))]
      unfold mapGet mapGetR
      rw [entsA_of (W.get 0 _ rm rfl rfl)]
      simp only [hf.2 hin, tInt_int]
      refine ifT_pos rfl ?_
      unfold lenM lenMR
      rw [entsA_of (W.get 0 _ rm rfl rfl)]
      simp only [mapSo_len]
      unfold mapPut
      rw [mapPutR_of (W.get 0 _ rm rfl rfl)]
      unfold putM
      simp only [hf.2 hin]
      have W2 := W.put (i := 0) rfl (.map (mapSo 0 (dst (l.take i)) ++ [(.str l[i], .int .i64 ((dst (l.take i)).length : Int))]))
      refine fin _ ?_ (by rw [e]; simp)
      rw [e, mapSo_app, Nat.zero_add]
      exact W2
theorem numbered_ok {v : AVal} {l : List ByteArray} (hv : Strs v l) (hl : l.length ≤ 1048576) (hk : ∀ c, Ints c (l.map fun s => ((idx (dst l) s : Nat) : Int)) → K (.tuple [c, .int .i64 ((dst l).length : Int)]) h0) : ACalls prog 63 [v] h0 K := by
  refine s63_ok ?_
  unfold s63
  refine fun rm hrm _ => ?_
  simp only
  rw [hv.len]
  refine mkS_own (by omega) (by omega) fun ro hro => ?_
  rw [hv.len]
  refine s63l1_in (l.length + 1) (numbered_l1 hv hl hk l.length 0 (by omega) _ ?_)
  have : numL l 0 = List.replicate l.length (.int .i64 0) := by simp [numL]
  rw [this]
  exact ((Own.start h0).newC hrm (.map [])).newC hro _
end Go.Proofs.Ytinficcdpggiaaa

namespace Go.Proofs.Ytinficcdpggiaaa
open Go Go.Sym Go.Proofs.Try

variable {up : List (List Int)} {val : List (List ByteArray)}

/-- the next number to come before place i -/
def nxt (c : Nat → Nat) : Nat → Nat
  | 0 => 0
  | i + 1 => max (nxt c i) (c i + 1)
/-- numbers in the order in which they come -/
def RG (c : Nat → Nat) (n : Nat) : Prop := ∀ i, i < n → c i ≤ nxt c i
theorem RG.hit {c : Nat → Nat} {n : Nat} (h : RG c n) : ∀ i, i ≤ n → ∀ k, k < nxt c i → ∃ j, j < i ∧ c j = k
  | 0, _, k, hk => absurd hk (by simp [nxt])
  | i + 1, hi, k, hk => by
    have := h i (by omega)
    simp only [nxt] at hk
    by_cases e : k = c i
    · exact ⟨i, by omega, e.symm⟩
    · obtain ⟨j, hj, e2⟩ := RG.hit h i (by omega) k (by omega)
      exact ⟨j, by omega, e2⟩
theorem nxt_lt {c : Nat → Nat} : ∀ i j, j < i → c j < nxt c i
  | 0, j, h => by omega
  | i + 1, j, h => by
    simp only [nxt]
    by_cases e : j = i
    · subst e; omega
    · have := nxt_lt (c := c) i j (by omega)
      omega
theorem nxt_congr {c d : Nat → Nat} : ∀ i, (∀ j, j < i → c j = d j) → nxt c i = nxt d i
  | 0, _ => rfl
  | i + 1, h => by
    simp only [nxt]
    rw [nxt_congr i (fun j hj => h j (by omega)), h i (by omega)]
theorem RG.uniq {c d : Nat → Nat} {n : Nat} (hc : RG c n) (hd : RG d n) (h : ∀ i j, i < n → j < n → (c i = c j ↔ d i = d j)) : ∀ i, i ≤ n → ∀ j, j < i → c j = d j
  | 0, _, j, hj => by omega
  | i + 1, hi, j, hj => by
    have ih := RG.uniq hc hd h i (by omega)
    by_cases e : j = i
    · subst e
      have hn := nxt_congr j ih
      have h1 := hc j (by omega)
      have h2 := hd j (by omega)
      by_cases e1 : c j < nxt c j
      · obtain ⟨k, hk, e2⟩ := hc.hit j (by omega) _ e1
        have := (h k j (by omega) (by omega)).1 e2
        rw [← e2, ih k hk, this]
      · by_cases e3 : d j < nxt d j
        · obtain ⟨k, hk, e2⟩ := hd.hit j (by omega) _ e3
          have := (h k j (by omega) (by omega)).2 e2
          rw [← e2, ← ih k hk, this]
        · omega
    · exact ih j (by omega)
theorem nodup_len : ∀ {l m : List Nat}, l.Nodup → (∀ x ∈ l, x ∈ m) → l.length ≤ m.length
  | [], m, _, _ => by simp
  | x :: l, m, hn, hs => by
    have hx : x ∈ m := hs x List.mem_cons_self
    have h1 := List.nodup_cons.1 hn
    have := nodup_len (l := l) (m := m.erase x) h1.2 (fun y hy => by
      have hne : y ≠ x := fun e => h1.1 (e ▸ hy)
      exact (List.mem_erase_of_ne hne).2 (hs y (List.mem_cons_of_mem _ hy)))
    rw [List.length_erase_of_mem hx] at this
    have : 0 < m.length := List.length_pos_of_mem hx
    simp only [List.length_cons]; omega
/-- of each class one -/
noncomputable def rep (c : Nat → Nat) (n k : Nat) : Nat := if h : ∃ j, j < n ∧ c j = k then Classical.choose h else 0
theorem rep_spec {c : Nat → Nat} {n : Nat} (h : RG c n) {k : Nat} (hk : k < nxt c n) : rep c n k < n ∧ c (rep c n k) = k := by
  have hx := h.hit n (Nat.le_refl _) k hk
  unfold rep
  rw [dif_pos hx]
  exact Classical.choose_spec hx
theorem refine_nodup {c d : Nat → Nat} {n : Nat} (hc : RG c n) (hr : ∀ i j, i < n → j < n → d i = d j → c i = c j) : ((List.range (nxt c n)).map fun k => d (rep c n k)).Nodup := by
  rw [List.Nodup, List.pairwise_map]
  refine List.Pairwise.imp_of_mem ?_ (List.nodup_range (n := nxt c n))
  intro a b ha hb hne e
  have h1 := rep_spec hc (List.mem_range.1 ha)
  have h2 := rep_spec hc (List.mem_range.1 hb)
  have := hr _ _ h1.1 h2.1 e
  rw [h1.2, h2.2] at this
  exact hne this
theorem refine_le {c d : Nat → Nat} {n : Nat} (hc : RG c n) (hr : ∀ i j, i < n → j < n → d i = d j → c i = c j) : nxt c n ≤ nxt d n := by
  have := nodup_len (m := List.range (nxt d n)) (refine_nodup hc hr) (fun x hx => by
    obtain ⟨k, hk, rfl⟩ := List.mem_map.1 hx
    exact List.mem_range.2 (nxt_lt n _ (rep_spec hc (List.mem_range.1 hk)).1))
  simpa using this
theorem refine_eq {c d : Nat → Nat} {n : Nat} (hc : RG c n) (hr : ∀ i j, i < n → j < n → d i = d j → c i = c j) (he : nxt d n = nxt c n) {i j : Nat} (hi : i < n) (hj : j < n) (h : c i = c j) : d i = d j := by
  have hn := refine_nodup hc hr
  have key : ∀ x, x < n → d x = d (rep c n (c x)) := fun x hx => by
    have hin : d x ∈ (List.range (nxt c n)).map fun k => d (rep c n k) := by
      apply Classical.byContradiction
      intro hno
      have := nodup_len (m := List.range (nxt d n)) (List.nodup_cons.2 ⟨hno, hn⟩) (fun y hy => by
        rcases List.mem_cons.1 hy with rfl | hy
        · exact List.mem_range.2 (nxt_lt n _ hx)
        · obtain ⟨k, hk, rfl⟩ := List.mem_map.1 hy
          exact List.mem_range.2 (nxt_lt n _ (rep_spec hc (List.mem_range.1 hk)).1))
      simp at this
      omega
    obtain ⟨k, hk, e⟩ := List.mem_map.1 hin
    have hs := rep_spec hc (List.mem_range.1 hk)
    have := hr _ _ hs.1 hx e
    rw [hs.2] at this
    rw [← this, ← e]
  rw [key i hi, key j hj, h]

/- ---------------- keys, numbered ---------------- -/
theorem dst_pre : ∀ (b D : List ByteArray), ∃ E, b.foldl (fun D s => if inS D s then D else D ++ [s]) D = D ++ E
  | [], D => ⟨[], by simp⟩
  | s :: b, D => by
    rw [List.foldl_cons]
    obtain ⟨E, hE⟩ := dst_pre b (if inS D s then D else D ++ [s])
    split at hE
    · exact ⟨E, by rw [if_pos (by assumption), hE]⟩
    · exact ⟨s :: E, by rw [if_neg (by assumption), hE]; simp⟩
theorem dst_app (a b : List ByteArray) : ∃ E, dst (a ++ b) = dst a ++ E := by
  unfold dst
  rw [List.foldl_append]
  exact dst_pre b _
theorem idx_inj {D : List ByteArray} {s t : ByteArray} (hs : s ∈ D) (ht : t ∈ D) (h : idx D s = idx D t) : s = t := by
  have h1 := idx_get hs
  have h2 := idx_get ht
  rw [h, h2] at h1
  exact (Option.some.inj h1).symm
/-- the number of a world by its key -/
def num (P : Nat → ByteArray) (n w : Nat) : Nat := idx (dst ((List.range n).map P)) (P w)
theorem num_inj {P : Nat → ByteArray} {n u v : Nat} (hu : u < n) (hv : v < n) : num P n u = num P n v ↔ P u = P v := by
  have hm : ∀ x, x < n → P x ∈ dst ((List.range n).map P) := fun x hx => (dst_mem _ _ rfl).2 (List.mem_map.2 ⟨x, List.mem_range.2 hx, rfl⟩)
  exact ⟨fun h => idx_inj (hm u hu) (hm v hv) h, fun h => by unfold num; rw [h]⟩
theorem range_take {n i : Nat} (h : i ≤ n) : List.range n = List.range i ++ List.range' i (n - i) := by
  have e := List.range'_append_1 (s := 0) (m := i) (n := n - i)
  rw [Nat.zero_add, show i + (n - i) = n by omega] at e
  rw [List.range_eq_range', List.range_eq_range', ← e]
theorem num_at {P : Nat → ByteArray} {n : Nat} : ∀ i, i ≤ n → nxt (num P n) i = (dst ((List.range i).map P)).length ∧ ∀ x, x < i → num P n x = idx (dst ((List.range i).map P)) (P x)
  | 0, _ => ⟨by simp [nxt, dst], fun x hx => by omega⟩
  | i + 1, hi => by
    obtain ⟨ih, ih2⟩ := num_at (P := P) (n := n) i (by omega)
    have hin : ∀ x, x < i + 1 → P x ∈ dst ((List.range (i + 1)).map P) := fun x hx => (dst_mem _ _ rfl).2 (List.mem_map.2 ⟨x, List.mem_range.2 hx, rfl⟩)
    have e2 : ∀ x, x < i + 1 → num P n x = idx (dst ((List.range (i + 1)).map P)) (P x) := fun x hx => by
      unfold num
      rw [range_take hi, List.map_append]
      obtain ⟨E, hE⟩ := dst_app ((List.range (i + 1)).map P) ((List.range' (i + 1) (n - (i + 1))).map P)
      rw [hE, idx_app (hin x hx)]
    refine ⟨?_, e2⟩
    simp only [nxt]
    rw [ih, e2 i (by omega)]
    have ht : (List.range (i + 1)).map P = (List.range i).map P ++ [P i] := by rw [List.range_succ, List.map_append]; rfl
    rw [ht, dst_snoc]
    split
    · rename_i h1
      have := idx_lt (inS_iff.1 h1)
      omega
    · rename_i h1
      rw [idx_new (fun h => h1 (inS_iff.2 h))]
      simp
theorem num_rg (P : Nat → ByteArray) (n : Nat) : RG (num P n) n := fun i hi => by
  obtain ⟨h1, _⟩ := num_at (P := P) (n := n) i (by omega)
  obtain ⟨h2, h3⟩ := num_at (P := P) (n := n) (i + 1) (by omega)
  have h4 := nxt_lt (c := num P n) (i + 1) i (by omega)
  have ht : (List.range (i + 1)).map P = (List.range i).map P ++ [P i] := by rw [List.range_succ, List.map_append]; rfl
  rw [h2, ht, dst_snoc] at h4
  rw [h1]
  split at h4
  · omega
  · simp at h4; omega

/- ---------------- bisimilar worlds ---------------- -/
structure Bis (up : List (List Int)) (val : List (List ByteArray)) (R : Nat → Nat → Prop) : Prop where
  val : ∀ u v, R u v → val.getD u [] = val.getD v []
  to : ∀ u v, R u v → ∀ b, Reach up u b → ∃ d, Reach up v d ∧ R b d
  back : ∀ u v, R u v → ∀ d, Reach up v d → ∃ b, Reach up u b ∧ R b d
def Bsm (up : List (List Int)) (val : List (List ByteArray)) (u v : Nat) : Prop := ∃ R, Bis up val R ∧ R u v
theorem Bsm.bis (up : List (List Int)) (val : List (List ByteArray)) : Bis up val (Bsm up val) :=
  ⟨fun u v ⟨R, hR, h⟩ => hR.val u v h, fun u v ⟨R, hR, h⟩ b hb => by
    obtain ⟨d, h1, h2⟩ := hR.to u v h b hb
    exact ⟨d, h1, R, hR, h2⟩, fun u v ⟨R, hR, h⟩ b hb => by
    obtain ⟨d, h1, h2⟩ := hR.back u v h b hb
    exact ⟨d, h1, R, hR, h2⟩⟩
/-- the classes of bisimilar worlds, numbered -/
structure IsCls (up : List (List Int)) (val : List (List ByteArray)) (c : Nat → Nat) : Prop where
  rg : RG c up.length
  eq : ∀ u v, u < up.length → v < up.length → (c u = c v ↔ Bsm up val u v)
theorem IsCls.uniq {c d : Nat → Nat} (hc : IsCls up val c) (hd : IsCls up val d) : ∀ i, i < up.length → c i = d i :=
  hc.rg.uniq hd.rg (fun i j hi hj => (hc.eq i j hi hj).trans (hd.eq i j hi hj).symm) _ (Nat.le_refl _)

/- ---------------- the strings of the parts ---------------- -/
noncomputable def seenB (up : List (List Int)) (c : Nat → Nat) (w k : Nat) : Bool := (aboveL up w).any fun b => c b == k
noncomputable def seenL (up : List (List Int)) (c : Nat → Nat) (m w : Nat) : List Int := (List.range m).map fun k => if seenB up c w k then 1 else 0
noncomputable def partS (up : List (List Int)) (c : Nat → Nat) (m w : Nat) : ByteArray := strBs (seenL up c m w) ++ Utf8.encode (IntKind.i32.wrap ((c w : Int) + 1))
theorem strBs_list : ∀ (ns : List Int) (acc : ByteArray), (ns.foldl (fun r n => r.push (UInt8.ofNat n.toNat)) acc).data.toList = acc.data.toList ++ ns.map fun n => UInt8.ofNat n.toNat
  | [], acc => by simp
  | n :: ns, acc => by
    rw [List.foldl_cons, strBs_list ns]
    simp
def decU : List UInt8 → Nat
  | [a] => a.toNat
  | [a, b] => (a.toNat - 192) * 64 + (b.toNat - 128)
  | _ => 0
theorem decU_ok : ∀ c : Fin 514, decU (Utf8.encode (IntKind.i32.wrap (((c.val : Nat) : Int) + 1))).data.toList = c.val + 1 := by decide +kernel
theorem partS_inj {c : Nat → Nat} {m u v : Nat} (hu : c u < 514) (hv : c v < 514) (h : partS up c m u = partS up c m v) : c u = c v ∧ ∀ k, k < m → seenB up c u k = seenB up c v k := by
  have h1 := congrArg (fun b : ByteArray => b.data.toList) h
  unfold partS strBs at h1
  simp only [ByteArray.data_append, Array.toList_append, strBs_list] at h1
  have h2 := List.append_inj h1 (by simp [seenL])
  refine ⟨?_, fun k hk => ?_⟩
  · have e1 := decU_ok ⟨c u, hu⟩
    have e2 := decU_ok ⟨c v, hv⟩
    simp only at e1 e2
    rw [h2.2, e2] at e1
    omega
  · have h3 := congrArg (fun l : List UInt8 => l[k]?) (List.append_cancel_left h2.1)
    simp only [seenL, List.map_map, List.getElem?_map, List.getElem?_range hk, Option.map_some, Function.comp_apply, Option.some.injEq] at h3
    cases e1 : seenB up c u k <;> cases e2 : seenB up c v k <;> simp_all

/- ---------------- parting till nothing parts further ---------------- -/
theorem seenB_iff (hi : InR up) {c : Nat → Nat} {w k : Nat} (hw : w < up.length) : seenB up c w k = true ↔ ∃ b, Reach up w b ∧ c b = k := by
  unfold seenB
  rw [List.any_eq_true]
  constructor
  · rintro ⟨b, hb, e⟩
    exact ⟨b, (mem_aboveL hi hw).1 hb, by simpa using e⟩
  · rintro ⟨b, hb, e⟩
    exact ⟨b, (mem_aboveL hi hw).2 hb, by simpa using e⟩
structure CI (up : List (List Int)) (val : List (List ByteArray)) (c : Nat → Nat) : Prop where
  rg : RG c up.length
  bsm : ∀ u v, u < up.length → v < up.length → Bsm up val u v → c u = c v
  val : ∀ u v, u < up.length → v < up.length → c u = c v → val.getD u [] = val.getD v []
theorem nxt_le {c : Nat → Nat} {n : Nat} (h : RG c n) : ∀ i, i ≤ n → nxt c i ≤ i
  | 0, _ => by simp [nxt]
  | i + 1, hi => by
    have := nxt_le h i (by omega)
    have := h i (by omega)
    simp only [nxt]; omega
theorem CI.start (W : WF up val) : CI up val (num (fun w => keyS (val.getD w [])) up.length) where
  rg := num_rg _ _
  val u v hu hv h := by
    have h1 := (num_inj hu hv).1 h
    have hf : ∀ w, w < up.length → ∀ s ∈ val.getD w [], wordB s = true := fun w hw s hs => by
      have hwl : w < val.length := by rw [W.len]; exact hw
      have := W.fine _ (List.getElem_mem hwl)
      rw [getD_val hwl] at hs
      obtain ⟨i, hi, rfl⟩ := List.mem_iff_getElem.1 hs
      have h2 := List.all_eq_true.1 this i (by rw [List.mem_range'_1]; omega)
      unfold fine1 at h2
      simp only [Bool.and_eq_true] at h2
      rw [List.getD_eq_getElem?_getD, List.getElem?_eq_getElem hi] at h2
      exact h2.1
    exact keyS_inj (hf u hu) (hf v hv) h1
  bsm u v hu hv h := by
    rw [num_inj hu hv, (Bsm.bis up val).val u v h]
noncomputable def cstep (up : List (List Int)) (c : Nat → Nat) : Nat → Nat := num (partS up c (nxt c up.length)) up.length
theorem cstep_fine (W : WF up val) {c : Nat → Nat} (I : CI up val c) {u v : Nat} (hu : u < up.length) (hv : v < up.length) (h : cstep up c u = cstep up c v) : c u = c v ∧ ∀ b, Reach up u b → ∃ d, Reach up v d ∧ c b = c d := by
  have hmax := W.max
  have hlt : ∀ x, x < up.length → c x < 514 := fun x hx => by
    have h1 := nxt_lt (c := c) up.length x hx
    have h2 := nxt_le I.rg up.length (Nat.le_refl _)
    omega
  obtain ⟨h1, h2⟩ := partS_inj (hlt u hu) (hlt v hv) ((num_inj hu hv).1 h)
  refine ⟨h1, fun b hb => ?_⟩
  have h3 := h2 (c b) (nxt_lt _ _ (hb.lt W.inR hu))
  have h4 := (seenB_iff W.inR hu (c := c) (k := c b)).2 ⟨b, hb, rfl⟩
  rw [h3] at h4
  obtain ⟨d, hd, e⟩ := (seenB_iff W.inR hv).1 h4
  exact ⟨d, hd, e.symm⟩
theorem CI.next (W : WF up val) {c : Nat → Nat} (I : CI up val c) : CI up val (cstep up c) where
  rg := num_rg _ _
  val u v hu hv h := I.val u v hu hv (cstep_fine W I hu hv h).1
  bsm u v hu hv h := by
    unfold cstep
    rw [num_inj hu hv]
    have e1 := I.bsm u v hu hv h
    have e2 : seenL up c (nxt c up.length) u = seenL up c (nxt c up.length) v := by
      unfold seenL
      refine List.map_congr_left fun k _ => ?_
      have : seenB up c u k = seenB up c v k := by
        rw [Bool.eq_iff_iff, seenB_iff W.inR hu, seenB_iff W.inR hv]
        constructor
        · rintro ⟨b, hb, rfl⟩
          obtain ⟨d, hd, hbd⟩ := (Bsm.bis up val).to u v h b hb
          exact ⟨d, hd, (I.bsm b d (hb.lt W.inR hu) (hd.lt W.inR hv) hbd).symm⟩
        · rintro ⟨b, hb, rfl⟩
          obtain ⟨d, hd, hbd⟩ := (Bsm.bis up val).back u v h b hb
          exact ⟨d, hd, I.bsm d b (hd.lt W.inR hu) (hb.lt W.inR hv) hbd⟩
      rw [this]
    unfold partS
    rw [e1, e2]
theorem cstep_le (W : WF up val) {c : Nat → Nat} (I : CI up val c) : nxt c up.length ≤ nxt (cstep up c) up.length :=
  refine_le I.rg fun i j hi hj h => (cstep_fine W I hi hj h).1
theorem CI.done (W : WF up val) {c : Nat → Nat} (I : CI up val c) (he : nxt (cstep up c) up.length = nxt c up.length) : IsCls up val (cstep up c) where
  rg := num_rg _ _
  eq u v hu hv := by
    refine ⟨fun h => ⟨fun a b => a < up.length ∧ b < up.length ∧ cstep up c a = cstep up c b, ⟨fun a b ⟨ha, hb, e⟩ => (I.next W).val a b ha hb e, fun a b ⟨ha, hb, e⟩ x hx => ?_, fun a b ⟨ha, hb, e⟩ x hx => ?_⟩, hu, hv, h⟩, (I.next W).bsm u v hu hv⟩
    · obtain ⟨d, hd, e2⟩ := (cstep_fine W I ha hb e).2 x hx
      exact ⟨d, hd, hx.lt W.inR ha, hd.lt W.inR hb, refine_eq I.rg (fun i j hi hj h => (cstep_fine W I hi hj h).1) he (hx.lt W.inR ha) (hd.lt W.inR hb) e2⟩
    · obtain ⟨d, hd, e2⟩ := (cstep_fine W I hb ha e.symm).2 x hx
      exact ⟨d, hd, hd.lt W.inR ha, hx.lt W.inR hb, (refine_eq I.rg (fun i j hi hj h => (cstep_fine W I hi hj h).1) he (hx.lt W.inR hb) (hd.lt W.inR ha) e2).symm⟩
end Go.Proofs.Ytinficcdpggiaaa

namespace Go.Proofs.Ytinficcdpggiaaa
open Go Go.Sym Go.Proofs.Try

variable {K : AVal → Heap → Prop} {h h0 hb : Heap} {up : List (List Int)} {val : List (List ByteArray)} {mU mV : AVal}

theorem map_set {α : Type} (g : Nat → α) (n w : Nat) (y : α) : ((List.range n).map g).set w y = (List.range n).map fun x => if x = w then y else g x := by
  refine List.ext_getElem (by simp) fun i h1 h2 => ?_
  rw [List.getElem_set]
  by_cases e : w = i
  · subst e; simp
  · rw [if_neg e]
    simp [Ne.symm e]
theorem range_get {α : Type} (g : Nat → α) {n i : Nat} (hi : i < n) : ((List.range n).map g)[i]? = some (g i) := by simp [hi]

/- ---------------- the texts of the names ---------------- -/
theorem keyS_snoc (l : List ByteArray) (s : ByteArray) : keyS (l ++ [s]) = keyS l ++ (s ++ ByteArray.mk #[32]) := by
  unfold keyS
  rw [List.foldl_append]
  rfl
theorem keyS_size : ∀ (l : List ByteArray) (acc : ByteArray), (∀ s ∈ l, s.size ≤ 1048576) → (l.foldl (fun acc s => acc ++ (s ++ ByteArray.mk #[32])) acc).size ≤ acc.size + 1048577 * l.length
  | [], acc, _ => by simp
  | s :: l, acc, h => by
    rw [List.foldl_cons]
    have := keyS_size l (acc ++ (s ++ ByteArray.mk #[32])) (fun x hx => h x (List.mem_cons_of_mem _ hx))
    have h1 := h s List.mem_cons_self
    have h2 : (acc ++ (s ++ ByteArray.mk #[32])).size = acc.size + (s.size + 1) := by simp [ByteArray.size_append]; rfl
    simp only [List.length_cons]
    omega
theorem word_size {s : ByteArray} (h : wordB s = true) : s.size ≤ 31 := by
  unfold wordB at h
  simp only [Bool.and_eq_true, decide_eq_true_eq] at h
  exact h.2.1
theorem wf_word (W : WF up val) {w : Nat} (hw : w < up.length) : ∀ s ∈ val.getD w [], wordB s = true := fun s hs => by
  have hwl : w < val.length := by rw [W.len]; exact hw
  have := W.fine _ (List.getElem_mem hwl)
  rw [getD_val hwl] at hs
  obtain ⟨i, hi, rfl⟩ := List.mem_iff_getElem.1 hs
  have h2 := List.all_eq_true.1 this i (by rw [List.mem_range'_1]; omega)
  unfold fine1 at h2
  simp only [Bool.and_eq_true] at h2
  rw [List.getD_eq_getElem?_getD, List.getElem?_eq_getElem hi] at h2
  exact h2.1
def keyAt (val : List (List ByteArray)) (w i x : Nat) : ByteArray := if x < w then keyS (val.getD x []) else if x = w then keyS ((val.getD w []).take i) else ByteArray.mk #[]
def keyT (val : List (List ByteArray)) (n w i : Nat) : List AVal := (List.range n).map fun x => .str (keyAt val w i x)
theorem keyT_len {n w i : Nat} : (keyT val n w i).length = n := by simp [keyT]
theorem keyT_put {n w i : Nat} (hi : i < (val.getD w []).length) : (keyT val n w i).set w (.str (keyS ((val.getD w []).take i) ++ ((val.getD w [])[i] ++ ByteArray.mk #[32]))) = keyT val n w (i + 1) := by
  unfold keyT
  rw [map_set]
  refine List.map_congr_left fun x _ => ?_
  unfold keyAt
  by_cases e : x = w
  · subst e
    rw [if_pos rfl, if_neg (by omega), if_pos rfl, List.take_succ_eq_append_getElem hi, keyS_snoc]
  · rw [if_neg e, if_neg e, if_neg e]
theorem keyT_row {n w : Nat} : keyT val n w (val.getD w []).length = keyT val n (w + 1) 0 := by
  unfold keyT
  refine List.map_congr_left fun x _ => ?_
  unfold keyAt
  by_cases e : x < w
  · rw [if_pos e, if_pos (by omega)]
  · by_cases e2 : x = w
    · subst e2
      rw [if_neg e, if_pos rfl, if_pos (by omega), List.take_length]
    · rw [if_neg e, if_neg e2, if_neg (by omega)]
      split
      · rfl
      · rfl

theorem keys_l2 (S : Small up val) (W : WF up val) {w : Nat} (hw : w < up.length) {e o : AVal} (he : Strs e (val.getD w [])) {ro : Nat} {F : AVal → AVal → AVal → Int → Int → Heap → Prop}
    (next : ∀ h', Own h0 [.cell ro (.row 1 (keyT val up.length (w + 1) 0))] h' → F o (.sl ro 1 0 up.length) mV (up.length : Int) ((w : Int) + 1) h') :
    ∀ d i : Nat, i + d = (val.getD w []).length → ∀ h, Own h0 [.cell ro (.row 1 (keyT val up.length w i))] h →
      s34l2 K (s34l1_G F) (d + 1) o (.sl ro 1 0 up.length) (w : Int) mV (up.length : Int) (w : Int) e ((val.getD w []).length : Int) (i : Int) h
  | 0, i, hd, h, Ow => by
    obtain rfl : i = (val.getD w []).length := by omega
    have hmax := W.max
    unfold s34l2
    refine ifT_neg (by simp) (rg_of (by omega) (by omega) (s34l1_go (next h ?_)))
    rw [← keyT_row]
    exact Ow
  | d + 1, i, hd, h, Ow => by
    have hi : i < (val.getD w []).length := by omega
    have hwl : w < val.length := by rw [W.len]; exact hw
    have hsz : (val.getD w []).length ≤ 1048576 := by
      rw [getD_val hwl]
      exact (S.names _ (List.getElem_mem hwl)).2
    have h31 := word_size (wf_word W hw _ (List.getElem_mem hi))
    have hks := keyS_size ((val.getD w []).take i) (ByteArray.mk #[]) (fun s hs => by
      have := word_size (wf_word W hw _ (List.mem_of_mem_take hs))
      omega)
    have hks : (keyS ((val.getD w []).take i)).size ≤ 1048577 * (val.getD w []).length := by
      unfold keyS
      have e0 : (ByteArray.mk #[]).size = 0 := rfl
      rw [e0, List.length_take] at hks
      refine Nat.le_trans hks ?_
      have : min i (val.getD w []).length ≤ (val.getD w []).length := by omega
      have := Nat.mul_le_mul_left 1048577 this
      omega
    have hg : (keyT val up.length w i)[w]? = some (.str (keyS ((val.getD w []).take i))) := by
      unfold keyT
      rw [range_get _ hw]
      unfold keyAt
      rw [if_neg (by omega), if_pos rfl]
    have e1 : (ByteArray.mk #[32]).size = 1 := rfl
    have e2 : ((val.getD w [])[i] ++ ByteArray.mk #[32]).size = (val.getD w [])[i].size + 1 := by rw [ByteArray.size_append]; rfl
    unfold s34l2
    refine ifT_pos (decide_eq_true (by omega)) ?_
    rw [he.ix hi, ld1_lptr, tStr_str]
    refine ixS_sl0 hw ?_
    rw [ld1_ptr (Ow.get 0 _ ro rfl rfl) hg rfl, tStr_str]
    refine ⟨by rw [e1]; omega, by rw [e2]; omega, ixS_sl0 hw (st_elem (Ow.get 0 _ ro rfl rfl) hg rfl (rg_of (by omega) (by omega) (s34l2_go ?_)))⟩
    refine keys_l2 S W hw he next d (i + 1) (by omega) _ ?_
    have W2 := Ow.put (i := 0) rfl (.row 1 ((keyT val up.length w i).set w (.str (keyS ((val.getD w []).take i) ++ ((val.getD w [])[i] ++ ByteArray.mk #[32])))))
    rw [keyT_put hi] at W2
    rw [keyT_put hi]
    exact W2

/- ---------------- the texts of the parts ---------------- -/
noncomputable def seenT (up : List (List Int)) (c : Nat → Nat) (m w j : Nat) : List AVal := (List.range m).map fun k => .int .u8 (if ((aboveL up w).take j).any (fun b => c b == k) then 1 else 0)
theorem seenT_next {c : Nat → Nat} {m w j : Nat} (hj : j < (aboveL up w).length) : (seenT up c m w j).set (c (aboveL up w)[j]) (.int .u8 1) = seenT up c m w (j + 1) := by
  unfold seenT
  rw [map_set]
  refine List.map_congr_left fun k _ => ?_
  rw [List.take_succ_eq_append_getElem hj, List.any_append]
  by_cases e : k = c (aboveL up w)[j]
  · rw [if_pos e, if_pos (by simp [e])]
  · rw [if_neg e]
    have : ([(aboveL up w)[j]].any fun b => c b == k) = false := by simpa using Ne.symm e
    rw [this, Bool.or_false]
theorem bytesOf_u8 : ∀ (l : List Nat) (f : Nat → Int), bytesOf (l.map fun k => .int .u8 (f k)) = some (l.map f)
  | [], f => rfl
  | k :: l, f => by
    rw [List.map_cons, List.map_cons]
    unfold bytesOf
    rw [bytesOf_u8 l f]
theorem elemsA_sl {h : Heap} {r es : Nat} {l : List AVal} (hr : h r = some (.row es l)) : elemsA es h (.sl r es 0 l.length) = some l := by
  unfold elemsA
  simp [hr]
noncomputable def outT (up : List (List Int)) (c : Nat → Nat) (n m w : Nat) : List AVal := (List.range n).map fun x => .str (if x < w then partS up c m x else ByteArray.mk #[])
theorem outT_put {c : Nat → Nat} {n m w : Nat} : (outT up c n m w).set w (.str (partS up c m w)) = outT up c n m (w + 1) := by
  unfold outT
  rw [map_set]
  refine List.map_congr_left fun x _ => ?_
  by_cases e : x = w
  · subst e; rw [if_pos rfl, if_pos (by omega)]
  · rw [if_neg e]
    by_cases e2 : x < w
    · rw [if_pos e2, if_pos (by omega)]
    · rw [if_neg e2, if_neg (by omega)]
theorem strBs_size (ns : List Int) : (strBs ns).size = ns.length := by
  have := congrArg List.length (strBs_list ns ByteArray.empty)
  unfold strBs
  rw [Array.length_toList] at this
  show (ns.foldl _ ByteArray.empty).data.size = _
  rw [this]; simp
theorem enc_size (r : Int) : (Utf8.encode r).size ≤ 4 := by
  unfold Utf8.encode
  simp only
  repeat' split
  all_goals first | exact (by decide : 1 ≤ 4) | exact (by decide : 2 ≤ 4) | exact (by decide : 3 ≤ 4) | exact (by decide : 4 ≤ 4)
section
variable {c : Nat → Nat} {m r1 r2 : Nat} {cv o : AVal}
theorem parts_l2 (W : WF up val) (hm : ∀ w, w < up.length → c w < m) (hmx : m ≤ 512) (hc : Ints cv ((List.range up.length).map fun w => ((c w : Nat) : Int))) (h2 : h0 r2 = some (.row 1 [cv])) {w : Nat} (hw : w < up.length) {e : AVal} (he : Ints e (natI (aboveL up w))) {ro rs : Nat}
    {F : AVal → AVal → AVal → AVal → Int → Int → Heap → Prop} (next : ∀ h', Own h0 [.cell ro (.row 1 (outT up c up.length m (w + 1)))] h' → F (.lptr [o]) (.ptr r1 0 0) (.ptr r2 0 0) (.sl ro 1 0 up.length) (up.length : Int) ((w : Int) + 1) h') :
    ∀ d j : Nat, j + d = (aboveL up w).length → ∀ h, Own h0 [.cell ro (.row 1 (outT up c up.length m w)), .cell rs (.row 1 (seenT up c m w j))] h →
      s64l2 K (s64l1_G F) (d + 1) (.lptr [o]) (.ptr r1 0 0) (.ptr r2 0 0) (.sl ro 1 0 up.length) (w : Int) (.sl rs 1 0 m) (up.length : Int) (w : Int) e ((aboveL up w).length : Int) (j : Int) h
  | 0, j, hd, h, Ow => by
    obtain rfl : j = (aboveL up w).length := by omega
    have hmax := W.max
    have hcl := hm w hw
    have hl : (seenT up c m w (aboveL up w).length).length = m := by simp [seenT]
    have hse : bStrR h (.sl rs 1 0 m) = some (strBs (seenL up c m w)) := by
      unfold bStrR
      have := elemsA_sl (Ow.get 1 _ rs rfl rfl)
      rw [hl] at this
      rw [this]
      simp only [seenT, bytesOf_u8, List.take_length]
      rfl
    have hcvl : ((List.range up.length).map fun w => ((c w : Nat) : Int)).length = up.length := by simp
    have hget : ((List.range up.length).map fun w => ((c w : Nat) : Int))[w]'(by rw [hcvl]; exact hw) = (c w : Int) := by simp
    have hgo : (outT up c up.length m w)[w]? = some (.str (ByteArray.mk #[])) := by
      unfold outT
      rw [range_get _ hw, if_neg (by omega)]
    unfold s64l2
    refine ifT_neg (by simp) ?_
    unfold bStr
    rw [hse]
    simp only
    rw [ld1_one (Ow.old _ _ h2) (sc_cells hc.notAgg.2).2.1, hc.ix (by rw [hcvl]; exact hw), ld1_lptr, hget, tInt_int]
    have h5 := enc_size (IntKind.i32.wrap ((c w : Int) + 1))
    have h6 : (seenL up c m w).length = m := by simp [seenL]
    refine rg_of (by omega) (by omega) ⟨by rw [strBs_size, h6]; omega, ixS_sl0 hw (st_elem (Ow.get 0 _ ro rfl rfl) hgo rfl (rg_of (by omega) (by omega) (s64l1_go (next _ ?_))))⟩
    have W2 := Own.pop (os := [.cell ro (.row 1 (outT up c up.length m w))]) Ow
    have W3 := W2.put (i := 0) rfl (.row 1 ((outT up c up.length m w).set w (.str (partS up c m w))))
    rw [outT_put] at W3
    have e9 : strBs (seenL up c m w) ++ Utf8.encode (IntKind.i32.wrap ((c w : Int) + 1)) = partS up c m w := rfl
    rw [e9, outT_put]
    exact W3
  | d + 1, j, hd, h, Ow => by
    have hj : j < (aboveL up w).length := by omega
    have hmax := W.max
    have hab := above_len (up := up) (a := w)
    have hjl := ((mem_aboveL W.inR hw).1 (List.getElem_mem hj)).lt W.inR hw
    have hcj := hm _ hjl
    have hcvl : ((List.range up.length).map fun w => ((c w : Nat) : Int)).length = up.length := by simp
    have hget : ((List.range up.length).map fun w => ((c w : Nat) : Int))[(aboveL up w)[j]]'(by rw [hcvl]; exact hjl) = (c (aboveL up w)[j] : Int) := by simp
    unfold s64l2
    refine ifT_pos (decide_eq_true (by omega)) ?_
    rw [he.ix (i := j) (by simpa [natI] using hj), ld1_lptr, tInt_int]
    have hrow : (natI (aboveL up w))[j]'(by simpa [natI] using hj) = (((aboveL up w)[j] : Nat) : Int) := by simp [natI]
    rw [hrow, ld1_one (Ow.old _ _ h2) (sc_cells hc.notAgg.2).2.1, hc.ix (by rw [hcvl]; exact hjl), ld1_lptr, hget, tInt_int]
    have hgs : (seenT up c m w j)[c (aboveL up w)[j]]? = some (.int .u8 (if ((aboveL up w).take j).any (fun b => c b == c (aboveL up w)[j]) then 1 else 0)) := by
      unfold seenT
      rw [range_get _ hcj]
    refine ixS_sl0 hcj (st_elem (Ow.get 1 _ rs rfl rfl) hgs rfl (rg_of (by omega) (by omega) (s64l2_go ?_)))
    refine parts_l2 W hm hmx hc h2 hw he next d (j + 1) (by omega) _ ?_
    have W2 := Ow.put (i := 1) rfl (.row 1 ((seenT up c m w j).set (c (aboveL up w)[j]) (.int .u8 1)))
    rw [seenT_next hj] at W2 ⊢
    exact W2
end
end Go.Proofs.Ytinficcdpggiaaa

namespace Go.Proofs.Ytinficcdpggiaaa
open Go Go.Sym Go.Proofs.Try

variable {K : AVal → Heap → Prop} {h h0 hb : Heap} {up : List (List Int)} {val : List (List ByteArray)} {mU mV : AVal}

section
variable {c : Nat → Nat} {m r1 r2 : Nat} {cv o : AVal}
theorem parts_l1 (W : WF up val) (hO : Intss o (ordUp up)) (hm : ∀ w, w < up.length → c w < m) (hmx : m ≤ 512) (hc : Ints cv ((List.range up.length).map fun w => ((c w : Nat) : Int))) (h1 : h0 r1 = some (.row 1 [.int .i64 (m : Int)])) (h2 : h0 r2 = some (.row 1 [cv])) {ro : Nat}
    (hk : ∀ v, Strs v ((List.range up.length).map (partS up c m)) → K v h0) :
    ∀ d w : Nat, w + d = up.length → ∀ h, Own h0 [.cell ro (.row 1 (outT up c up.length m w))] h → s64l1 K (d + 1) (.lptr [o]) (.ptr r1 0 0) (.ptr r2 0 0) (.sl ro 1 0 up.length) (up.length : Int) (w : Int) h
  | 0, w, hd, h, Ow => by
    obtain rfl : w = up.length := by omega
    unfold s64l1
    refine ifT_neg (by simp) ?_
    refine ⟨fun q => q = ro, .lsl 1 (outT up c up.length m up.length), h0, .whole rfl (Ow.get 0 _ ro rfl rfl) (by simp [outT]), Own.toBase Ow _ (fun n hn => Ow.new 0 _ n rfl hn), hk _ ?_⟩
    have : outT up c up.length m up.length = ((List.range up.length).map (partS up c m)).map .str := by
      unfold outT
      rw [List.map_map]
      refine List.map_congr_left fun x hx => ?_
      rw [if_pos (List.mem_range.1 hx)]
      rfl
    rw [this]
    exact .lsl 1 _
  | d + 1, w, hd, h, Ow => by
    have hw : w < up.length := by omega
    obtain ⟨e, he, hie⟩ := hO.ix (i := w) (by rw [ordUp_len]; exact hw)
    rw [ordUp_get hw] at he
    unfold s64l1
    refine ifT_pos (decide_eq_true (by omega)) ?_
    rw [ld1_one (Ow.old _ _ h1) rfl, tInt_int]
    refine mkS_own (by omega) (by omega) fun rs hrs => ?_
    rw [ld1_lptr, hie, ld1_lptr, he.len, show (natI (aboveL up w)).length = (aboveL up w).length by simp [natI]]
    refine s64l2_in ((aboveL up w).length + 1) ?_
    refine parts_l2 W hm hmx hc h2 hw he (fun h' W' => parts_l1 W hO hm hmx hc h1 h2 hk d (w + 1) (by omega) h' W') _ 0 (by omega) _ ?_
    have : seenT up c m w 0 = List.replicate m (.int .u8 0) := by
      unfold seenT
      refine List.ext_getElem (by simp) fun i h1 h2 => ?_
      simp
    rw [this]
    exact Ow.newC hrs _
theorem parts_ok (W : WF up val) (hO : Intss o (ordUp up)) (hm : ∀ w, w < up.length → c w < m) (hmx : m ≤ 512) (hc : Ints cv ((List.range up.length).map fun w => ((c w : Nat) : Int))) (h1 : h0 r1 = some (.row 1 [.int .i64 (m : Int)])) (h2 : h0 r2 = some (.row 1 [cv]))
    (hk : ∀ v, Strs v ((List.range up.length).map (partS up c m)) → K v h0) : ACalls prog 64 [.lptr [o], .ptr r1 0 0, .ptr r2 0 0] h0 K := by
  have hmax := W.max
  refine s64_ok ?_
  unfold s64
  rw [ld1_lptr, hO.len, ordUp_len]
  refine mkS_own (by omega) (by omega) fun ro hro => ?_
  rw [ld1_lptr, hO.len, ordUp_len]
  refine s64l1_in (up.length + 1) (parts_l1 W hO hm hmx hc h1 h2 hk up.length 0 (by omega) _ ?_)
  have : outT up c up.length m 0 = List.replicate up.length (.str (ByteArray.mk #[])) := by
    unfold outT
    refine List.ext_getElem (by simp) fun i h1 h2 => ?_
    simp
  rw [this]
  exact (Own.start h0).newC hro _
end
theorem num_list (P : Nat → ByteArray) (n : Nat) : (((List.range n).map P).map fun s => ((idx (dst ((List.range n).map P)) s : Nat) : Int)) = (List.range n).map fun w => ((num P n w : Nat) : Int) := by
  rw [List.map_map]
  rfl
theorem num_cnt (P : Nat → ByteArray) (n : Nat) : (dst ((List.range n).map P)).length = nxt (num P n) n := ((num_at (P := P) (n := n) n (Nat.le_refl _)).1).symm

theorem classes_l3 (W : WF up val) {o : AVal} (hO : Intss o (ordUp up)) {r1 r2 : Nat} (hk : ∀ v c, IsCls up val c → Ints v ((List.range up.length).map fun w => ((c w : Nat) : Int)) → K v h0) :
    ∀ d : Nat, ∀ (c : Nat → Nat) cv h, 513 ≤ nxt c up.length + d → CI up val c → Ints cv ((List.range up.length).map fun w => ((c w : Nat) : Int)) → Own h0 [.cell r2 (.row 1 [cv]), .cell r1 (.row 1 [.int .i64 ((nxt c up.length : Nat) : Int)])] h →
      s34l3 K (d + 1) (.ptr r2 0 0) (.ptr r1 0 0) (.func (.func 64) [] [.lptr [o], .ptr r1 0 0, .ptr r2 0 0]) h
  | d, c, cv, h, hd, I, hc, Ow => by
    have hmax := W.max
    have hle := nxt_le I.rg up.length (Nat.le_refl _)
    have hstep := cstep_le W I
    unfold s34l3
    unfold callV
    simp only [List.nil_append]
    refine callG_of (parts_ok W hO (fun w hw => nxt_lt _ _ hw) (by omega) hc (Ow.get 1 _ r1 rfl rfl) (Ow.get 0 _ r2 rfl rfl) fun pv hp => ?_)
    refine callG_of (numbered_ok hp (by simp; omega) fun cv' hc' => ?_)
    rw [num_list] at hc'
    rw [num_cnt]
    simp only [tTup_tuple, tCons_cons, tInt_int, tNil_nil]
    have hc2 : Ints cv' ((List.range up.length).map fun w => ((cstep up c w : Nat) : Int)) := hc'
    refine chk_iff.2 ⟨hc2.notAgg.2, st_one (Ow.get 0 _ r2 rfl rfl) (sc_cells hc.notAgg.2).2.1 ?_⟩
    have W2 := Ow.put (i := 0) rfl (.row 1 [cv'])
    rw [ld1_one (W2.get 1 _ r1 rfl rfl) rfl, tInt_int]
    by_cases e : nxt (cstep up c) up.length = nxt c up.length
    · refine ifT_pos (by
        show (((nxt (cstep up c) up.length : Nat) : Int) == _) = true
        rw [e]; simp) ?_
      rw [ld1_one (W2.get 0 _ r2 rfl rfl) (sc_cells hc2.notAgg.2).2.1]
      exact retG_drop (fun q o hq => W2.old q o hq) (hk _ _ (I.done W e) hc2)
    · have hlt : nxt c up.length < nxt (cstep up c) up.length := by omega
      refine ifT_neg (by
        show (((nxt (cstep up c) up.length : Nat) : Int) == _) = false
        rw [beq_eq_false_iff_ne]; omega) (st_one (W2.get 1 _ r1 rfl rfl) rfl (s34l3_go ?_))
      have W3 := W2.put (i := 1) rfl (.row 1 [.int .i64 ((nxt (cstep up c) up.length : Nat) : Int)])
      have hle2 := nxt_le (I.next W).rg up.length (Nat.le_refl _)
      match d, hd with
      | 0, hd => omega
      | d + 1, hd => exact classes_l3 W hO hk d _ cv' _ (by omega) (I.next W) hc2 W3

theorem classes_l1 (S : Small up val) (W : WF up val) (hV : Strss mV val) {o : AVal} (hO : Intss o (ordUp up)) {ro : Nat} (hk : ∀ v c, IsCls up val c → Ints v ((List.range up.length).map fun w => ((c w : Nat) : Int)) → K v h0) :
    ∀ d w : Nat, w + d = up.length → ∀ h, Own h0 [.cell ro (.row 1 (keyT val up.length w 0))] h → s34l1 K (d + 1) (.lptr [o]) (.sl ro 1 0 up.length) mV (up.length : Int) (w : Int) h
  | 0, w, hd, h, Ow => by
    obtain rfl : w = up.length := by omega
    have hmax := W.max
    have I := CI.start W
    unfold s34l1
    refine ifT_neg (by simp) ?_
    have hks : keyT val up.length up.length 0 = ((List.range up.length).map fun w => keyS (val.getD w [])).map .str := by
      unfold keyT
      rw [List.map_map]
      refine List.map_congr_left fun x hx => ?_
      unfold keyAt
      rw [if_pos (List.mem_range.1 hx)]
      rfl
    refine ⟨fun q => q = ro, [.lsl 1 (keyT val up.length up.length 0)], h0, .cons (.whole rfl (Ow.get 0 _ ro rfl rfl) keyT_len.symm) .nil, Own.toBase Ow _ (fun n hn => Ow.new 0 _ n rfl hn), ?_⟩
    refine numbered_ok (l := (List.range up.length).map fun w => keyS (val.getD w [])) (by rw [hks]; exact .lsl 1 _) (by simp; omega) fun cv hc => ?_
    rw [num_list] at hc
    rw [num_cnt]
    simp only [tTup_tuple, tCons_cons, tInt_int, tNil_nil]
    refine newRow_in fun r2 hr2 => newRow_in fun r1 hr1 => chk_iff.2 ⟨hc.notAgg.2, ?_⟩
    have W1 := ((Own.start h0).newC hr2 (.row 1 [.nilsl])).newC hr1 (.row 1 [.int .i64 0])
    refine st_one (W1.get 0 _ r2 rfl rfl) rfl ?_
    have W2 := W1.put (i := 0) rfl (.row 1 [cv])
    refine st_one (W2.get 1 _ r1 rfl rfl) rfl ?_
    have W3 := W2.put (i := 1) rfl (.row 1 [.int .i64 ((nxt (num (fun w => keyS (val.getD w [])) up.length) up.length : Nat) : Int)])
    exact s34l3_in 514 (classes_l3 W hO hk 513 _ cv _ (by omega) I hc W3)
  | d + 1, w, hd, h, Ow => by
    have hw : w < up.length := by omega
    have hwl : w < val.length := by rw [W.len]; exact hw
    obtain ⟨e, he, hie⟩ := hV.ix hwl
    rw [← getD_val hwl] at he
    unfold s34l1
    refine ifT_pos (decide_eq_true (by omega)) ?_
    rw [hie, ld1_lptr, he.len]
    refine s34l2_in ((val.getD w []).length + 1) ?_
    exact keys_l2 S W hw he (fun h' W' => classes_l1 S W hV hO hk d (w + 1) (by omega) h' W') _ 0 (by omega) h Ow
theorem classes_ok (S : Small up val) (W : WF up val) (hV : Strss mV val) {o : AVal} (hO : Intss o (ordUp up)) (hk : ∀ v c, IsCls up val c → Ints v ((List.range up.length).map fun w => ((c w : Nat) : Int)) → K v h0) : ACalls prog 34 [.agg [mU, mV], o] h0 K := by
  have hmax := W.max
  refine s34_ok ?_
  unfold s34
  refine chk_iff.2 ⟨(intss_sc hO).1, ?_⟩
  rw [hO.len, ordUp_len]
  refine mkS_own (by omega) (by omega) fun ro hro => ?_
  rw [hV.len, W.len]
  refine s34l1_in (up.length + 1) (classes_l1 S W hV hO hk up.length 0 (by omega) _ ?_)
  have : keyT val up.length 0 0 = List.replicate up.length (.str (ByteArray.mk #[])) := by
    unfold keyT keyAt
    refine List.ext_getElem (by simp) fun i h1 h2 => ?_
    simp only [List.getElem_map, List.getElem_range, List.getElem_replicate]
    rw [if_neg (by omega)]
    split
    · rfl
    · rfl
  rw [this]
  exact (Own.start h0).newC hro _
theorem classesM_ok (S : Small up val) (hU : Intss mU up) (hV : Strss mV val) (bad : ¬ WF up val → K (.tuple [.nilsl, .int .i64 170]) h0) (good : WF up val → ∀ v c, IsCls up val c → Ints v ((List.range up.length).map fun w => ((c w : Nat) : Int)) → K (.tuple [v, .int .i64 0]) h0) : ACalls prog 14 [.agg [mU, mV]] h0 K := by
  refine s14_ok ?_
  unfold s14
  refine callG_of (reckonM_ok S hU hV (fun hW => ?_) (fun W o hO => ?_))
  · simp only [tTup_tuple, tCons_cons, tInt_int, tNil_nil]
    exact ifT_pos rfl (retG_of (bad hW))
  · simp only [tTup_tuple, tCons_cons, tInt_int, tNil_nil]
    refine ifT_neg rfl (callG_of (classes_ok S W hV hO fun v c hc hv => retG_of (good W v c hc hv)))
end Go.Proofs.Ytinficcdpggiaaa

namespace Go.Proofs.Ytinficcdpggiaaa
open Go Go.Sym Go.Proofs.Try

variable {up : List (List Int)} {val : List (List ByteArray)} {c : Nat → Nat}

/-- some world of class k has one of class x above it -/
def qR (up : List (List Int)) (c : Nat → Nat) (k x : Nat) : Prop := ∃ w b, w < up.length ∧ c w = k ∧ Reach up w b ∧ c b = x
theorem IsCls.valq (C : IsCls up val c) {u v : Nat} (hu : u < up.length) (hv : v < up.length) (h : c u = c v) : val.getD u [] = val.getD v [] := (Bsm.bis up val).val u v ((C.eq u v hu hv).1 h)
theorem IsCls.to (W : WF up val) (C : IsCls up val c) {u v : Nat} (hu : u < up.length) (hv : v < up.length) (h : c u = c v) {b : Nat} (hb : Reach up u b) : ∃ d, Reach up v d ∧ c b = c d := by
  obtain ⟨d, hd, e⟩ := (Bsm.bis up val).to u v ((C.eq u v hu hv).1 h) b hb
  exact ⟨d, hd, (C.eq b d (hb.lt W.inR hu) (hd.lt W.inR hv)).2 e⟩
theorem qR_at (W : WF up val) (C : IsCls up val c) {w x : Nat} (hw : w < up.length) (h : qR up c (c w) x) : ∃ b, Reach up w b ∧ c b = x := by
  obtain ⟨u, b, hu, e, hb, rfl⟩ := h
  obtain ⟨d, hd, e2⟩ := C.to W hu hw e hb
  exact ⟨d, hd, e2.symm⟩
theorem qR_trans (W : WF up val) (C : IsCls up val c) {k x y : Nat} (h1 : qR up c k x) (h2 : qR up c x y) : qR up c k y := by
  obtain ⟨u, b, hu, e, hb, rfl⟩ := h1
  obtain ⟨d, hd, e2⟩ := qR_at W C (hb.lt W.inR hu) h2
  exact ⟨u, d, hu, e, hb.trans hd, e2⟩
theorem aboveL_nodup {a : Nat} : (aboveL up a).Nodup := List.Pairwise.filter _ List.nodup_range
theorem above_less (W : WF up val) {u v : Nat} (hu : u < up.length) (h : Reach up u v) (hne : u ≠ v) : (aboveL up v).length < (aboveL up u).length := by
  have hv := h.lt W.inR hu
  have h1 := (W.cond u v hu hv h hne).1
  have := nodup_len (l := u :: aboveL up v) (m := aboveL up u) (List.nodup_cons.2 ⟨fun hm => h1 ((mem_aboveL W.inR hv).1 hm), aboveL_nodup⟩) (fun x hx => by
    rcases List.mem_cons.1 hx with rfl | hx
    · exact (mem_aboveL W.inR hu).2 .refl
    · exact (mem_aboveL W.inR hu).2 (h.trans ((mem_aboveL W.inR hv).1 hx)))
  rw [List.length_cons] at this
  omega
theorem qR_anti (W : WF up val) (C : IsCls up val c) {k x : Nat} (h1 : qR up c k x) (h2 : qR up c x k) : k = x := by
  apply Classical.byContradiction
  intro hne
  have main : ∀ m w, (aboveL up w).length ≤ m → w < up.length → c w = k → False := by
    intro m
    induction m with
    | zero =>
      intro w hm hw _
      have : w ∈ aboveL up w := (mem_aboveL W.inR hw).2 .refl
      have := List.length_pos_of_mem this
      omega
    | succ m ih =>
      intro w hm hw e
      subst e
      obtain ⟨b, hb, e1⟩ := qR_at W C hw h1
      have hbl := hb.lt W.inR hw
      rw [← e1] at h2
      obtain ⟨d, hd, e2⟩ := qR_at W C hbl h2
      have hn1 : w ≠ b := fun e => hne (by rw [← e1, e])
      have h3 := above_less W hw hb hn1
      have h4 : (aboveL up d).length ≤ (aboveL up b).length := by
        by_cases e3 : b = d
        · rw [e3]; exact Nat.le_refl _
        · exact Nat.le_of_lt (above_less W hbl hd e3)
      exact ih d (by omega) (hd.lt W.inR hbl) e2
  obtain ⟨w, _, hw, e, _, _⟩ := h1
  exact main _ w (Nat.le_refl _) hw e

noncomputable def qVal (up : List (List Int)) (val : List (List ByteArray)) (c : Nat → Nat) : List (List ByteArray) := (List.range (nxt c up.length)).map fun k => val.getD (rep c up.length k) []
theorem qVal_len : (qVal up val c).length = nxt c up.length := by simp [qVal]
theorem qVal_get {k : Nat} (hk : k < nxt c up.length) : (qVal up val c).getD k [] = val.getD (rep c up.length k) [] := by
  unfold qVal
  rw [List.getD_eq_getElem?_getD, List.getElem?_map, List.getElem?_range hk]
  rfl
theorem qVal_at (C : IsCls up val c) {w : Nat} (hw : w < up.length) : (qVal up val c).getD (c w) [] = val.getD w [] := by
  have hk := nxt_lt (c := c) _ _ hw
  have hs := rep_spec C.rg hk
  rw [qVal_get hk]
  exact C.valq hs.1 hw hs.2
structure QRows (up : List (List Int)) (c : Nat → Nat) (rows : List (List Int)) : Prop where
  len : rows.length = nxt c up.length
  step : ∀ k x, k < nxt c up.length → (Step rows k x ↔ k ≠ x ∧ qR up c k x)
  nn : ∀ r ∈ rows, ∀ b ∈ r, 0 ≤ b
theorem qR_lt (W : WF up val) {k x : Nat} (h : qR up c k x) : x < nxt c up.length := by
  obtain ⟨w, b, hw, _, hb, rfl⟩ := h
  exact nxt_lt _ _ (hb.lt W.inR hw)
section
variable {rows : List (List Int)}
theorem QRows.inR (Q : QRows up c rows) (W : WF up val) : InR rows := fun r hr b hb => by
  have h0 := Q.nn r hr b hb
  obtain ⟨k, hk, e⟩ := List.mem_iff_getElem.1 hr
  have hs : Step rows k b.toNat := ⟨r, by rw [List.getElem?_eq_getElem hk, e], by rw [Int.toNat_of_nonneg h0]; exact hb⟩
  have := qR_lt W ((Q.step k _ (by rw [← Q.len]; exact hk)).1 hs).2
  rw [Q.len]; omega
theorem QRows.reach (Q : QRows up c rows) (W : WF up val) (C : IsCls up val c) {k x : Nat} (hk : k < nxt c up.length) : Reach rows k x ↔ qR up c k x := by
  constructor
  · intro h
    induction h with
    | refl =>
      have hs := rep_spec C.rg hk
      exact ⟨_, _, hs.1, hs.2, .refl, hs.2⟩
    | tail _ hs ih => exact qR_trans W C ih ((Q.step _ _ (qR_lt W ih)).1 hs).2
  · intro h
    by_cases e : k = x
    · subst e; exact .refl
    · exact .tail .refl ((Q.step k x hk).2 ⟨e, h⟩)
theorem QRows.wf (Q : QRows up c rows) (W : WF up val) (C : IsCls up val c) : WF rows (qVal up val c) where
  pos := by
    have := nxt_lt (c := c) up.length 0 W.pos
    rw [Q.len]; omega
  max := by
    have := nxt_le C.rg up.length (Nat.le_refl _)
    have := W.max
    rw [Q.len]; omega
  len := by rw [qVal_len, Q.len]
  inR := Q.inR W
  fine l hl := by
    unfold qVal at hl
    obtain ⟨k, hk, rfl⟩ := List.mem_map.1 hl
    have hs := rep_spec C.rg (List.mem_range.1 hk)
    have hwl : rep c up.length k < val.length := by rw [W.len]; exact hs.1
    rw [getD_val hwl]
    exact W.fine _ (List.getElem_mem hwl)
  cond a b ha hb := by
    rw [Q.len] at ha hb
    intro h hne
    have h1 := (Q.reach W C ha).1 h
    refine ⟨fun h' => hne (qR_anti W C h1 ((Q.reach W C hb).1 h')), ?_⟩
    obtain ⟨w, d, hw, rfl, hd, rfl⟩ := h1
    have hdl := hd.lt W.inR hw
    rw [qVal_at C hw, qVal_at C hdl]
    exact (W.cond w d hw hdl hd (fun e => hne (by rw [e]))).2
theorem QRows.small (Q : QRows up c rows) (S : Small up val) (W : WF up val) (C : IsCls up val c) : Small (tidyUp rows) (qVal up val c) where
  ups := by
    have := nxt_le C.rg up.length (Nat.le_refl _)
    have := W.max
    rw [tidyUp_len, Q.len]; omega
  vals := by
    have := nxt_le C.rg up.length (Nat.le_refl _)
    have := W.max
    rw [qVal_len]; omega
  row r hr := by
    simp only [tidyUp, List.mem_map] at hr
    obtain ⟨a, _, rfl⟩ := hr
    have h3 : (tidyRow rows a).length ≤ (List.range rows.length).length := List.length_filter_le _ _
    rw [List.length_range, Q.len] at h3
    have := nxt_le C.rg up.length (Nat.le_refl _)
    have := W.max
    simp only [natI, List.length_map]; omega
  names l hl := by
    unfold qVal at hl
    obtain ⟨k, hk, rfl⟩ := List.mem_map.1 hl
    have hs := rep_spec C.rg (List.mem_range.1 hk)
    have hwl : rep c up.length k < val.length := by rw [W.len]; exact hs.1
    rw [getD_val hwl]
    exact S.names _ (List.getElem_mem hwl)
/-- worlds to classes -/
def cMap (up : List (List Int)) (c : Nat → Nat) : List Int := natI ((List.range up.length).map c)
theorem cMap_eq : cMap up c = (List.range up.length).map fun w => ((c w : Nat) : Int) := by
  unfold cMap natI
  rw [List.map_map]
  rfl
theorem cMap_g {w : Nat} (hw : w < up.length) : gOf (cMap up c) w = c w := by
  unfold cMap
  rw [gOf_nat (by simpa using hw)]
  simp [List.getD, hw]
theorem QRows.fit (Q : QRows up c rows) : FitF up (tidyUp rows) (cMap up c) where
  len := by simp [cMap, natI]
  rng x hx := by
    obtain ⟨k, hk, rfl⟩ := mem_natI.1 hx
    obtain ⟨w, hw, rfl⟩ := List.mem_map.1 hk
    have := nxt_lt (c := c) _ _ (List.mem_range.1 hw)
    rw [tidyUp_len, Q.len]; omega
theorem QRows.isB (Q : QRows up c rows) (W : WF up val) (C : IsCls up val c) : IsB up val (tidyUp rows) (qVal up val c) (cMap up c) := by
  intro a ha
  have hk := nxt_lt (c := c) _ _ ha
  have hk2 : c a < rows.length := by rw [Q.len]; exact hk
  rw [cMap_g ha]
  refine ⟨(qVal_at C ha).symm, fun b hb => ?_, fun x hx => ?_⟩
  · rw [cMap_g (hb.lt W.inR ha), reach_tidy (Q.wf W C) hk2, Q.reach W C hk]
    exact ⟨a, b, ha, rfl, hb, rfl⟩
  · rw [reach_tidy (Q.wf W C) hk2, Q.reach W C hk] at hx
    obtain ⟨b, hb, e⟩ := qR_at W C ha hx
    exact ⟨b, hb, by rw [cMap_g (hb.lt W.inR ha)]; exact e⟩
theorem QRows.uniq {rows' : List (List Int)} (Q : QRows up c rows) (Q' : QRows up c rows') (W : WF up val) (C : IsCls up val c) : tidyUp rows = tidyUp rows' := by
  refine tidyUp_congr (by rw [Q.len, Q'.len]) fun a b ha hb => ?_
  rw [Q.len] at ha
  rw [Bool.eq_iff_iff, rb_iff, rb_iff, Q.reach W C ha, Q'.reach W C ha]
end
/-- bisimilar classes are one: a bisimulation of the classes, drawn back, is one of the worlds -/
theorem qBsm {rows : List (List Int)} (Q : QRows up c rows) (W : WF up val) (C : IsCls up val c) {k x : Nat} (hk : k < nxt c up.length) (hx : x < nxt c up.length) (h : Bsm (tidyUp rows) (qVal up val c) k x) : k = x := by
  have B := Bsm.bis (tidyUp rows) (qVal up val c)
  have M := Q.isB W C
  have hs := rep_spec C.rg hk
  have ht := rep_spec C.rg hx
  have : Bis up val fun u v => u < up.length ∧ v < up.length ∧ Bsm (tidyUp rows) (qVal up val c) (c u) (c v) := by
    refine ⟨fun u v ⟨hu, hv, h⟩ => ?_, fun u v ⟨hu, hv, h⟩ b hb => ?_, fun u v ⟨hu, hv, h⟩ b hb => ?_⟩
    · have := B.val _ _ h
      rwa [qVal_at C hu, qVal_at C hv] at this
    · have hbl := hb.lt W.inR hu
      have h1 := (M u hu).2.1 b hb
      rw [cMap_g hu, cMap_g hbl] at h1
      obtain ⟨d, hd, e⟩ := B.to _ _ h _ h1
      have h2 := (M v hv).2.2 d (by rw [cMap_g hv]; exact hd)
      obtain ⟨y, hy, e2⟩ := h2
      rw [cMap_g (hy.lt W.inR hv)] at e2
      exact ⟨y, hy, hbl, hy.lt W.inR hv, by rw [e2]; exact e⟩
    · have hbl := hb.lt W.inR hv
      have h1 := (M v hv).2.1 b hb
      rw [cMap_g hv, cMap_g hbl] at h1
      obtain ⟨d, hd, e⟩ := B.back _ _ h _ h1
      have h2 := (M u hu).2.2 d (by rw [cMap_g hu]; exact hd)
      obtain ⟨y, hy, e2⟩ := h2
      rw [cMap_g (hy.lt W.inR hu)] at e2
      exact ⟨y, hy, hy.lt W.inR hu, hbl, by rw [e2]; exact e⟩
  have h5 := (C.eq _ _ hs.1 ht.1).2 ⟨_, this, hs.1, ht.1, by rw [hs.2, ht.2]; exact h⟩
  rw [hs.2, ht.2] at h5
  exact h5
end Go.Proofs.Ytinficcdpggiaaa

namespace Go.Proofs.Ytinficcdpggiaaa
open Go Go.Sym Go.Proofs.Try

def BTab (v : AVal) (T : Nat → Nat → Bool) (m n : Nat) : Prop := ∃ rows, SlOf 1 v rows ∧ rows.length = m ∧ ∀ i, i < m → ∃ e, rows[i]? = some e ∧ e.isAgg = false ∧ SlOf 1 e ((List.range n).map fun a => .bool (T i a))
theorem bool_row {e : AVal} {n : Nat} {g : Nat → Bool} (he : SlOf 1 e ((List.range n).map fun a => .bool (g a))) {a : Nat} (ha : a < n) (K : AVal → Prop) {h : Heap} : (ixS 1 e (a : Int) fun p => ld1 h p K) = K (.bool (g a)) := by
  rw [ixS_nat he (i := a) (e := .bool (g a)) (by simp [ha])]
  rfl
theorem BTab.row {v : AVal} {T : Nat → Nat → Bool} {m n : Nat} (B : BTab v T m n) {i : Nat} (hi : i < m) {h : Heap} : ∃ e, (∀ K : AVal → Prop, (ixS 1 v (i : Int) fun p => ld1 h p K) = K e) ∧ SlOf 1 e ((List.range n).map fun a => .bool (T i a)) := by
  obtain ⟨rows, h1, h2, h3⟩ := B
  obtain ⟨e, he, ha, hs⟩ := h3 i hi
  refine ⟨e, fun K => ?_, hs⟩
  rw [ixS_nat h1 he, cells_of_notAgg ha]
  rfl
end Go.Proofs.Ytinficcdpggiaaa

namespace Go.Proofs.Ytinficcdpggiaaa
open Go Go.Sym Go.Proofs.Try

variable {K : AVal → Heap → Prop} {h h0 hb : Heap} {up : List (List Int)} {val : List (List ByteArray)} {mU mV : AVal}

/- ---- plain ---- -/
theorem Bsm.refl (u : Nat) : Bsm up val u u := ⟨fun a b => a = b, ⟨fun a b e => by rw [e], fun a b e x hx => ⟨x, by rw [← e]; exact hx, rfl⟩, fun a b e x hx => ⟨x, by rw [e]; exact hx, rfl⟩⟩, rfl⟩
theorem Bsm.symm {u v : Nat} (h : Bsm up val u v) : Bsm up val v u := by
  obtain ⟨R, hR, h⟩ := h
  exact ⟨fun a b => R b a, ⟨fun a b e => (hR.val b a e).symm, fun a b e x hx => hR.back b a e x hx, fun a b e x hx => hR.to b a e x hx⟩, h⟩
theorem Bsm.trans {u v w : Nat} (h : Bsm up val u v) (h' : Bsm up val v w) : Bsm up val u w := by
  have B := Bsm.bis up val
  refine ⟨fun a b => ∃ x, Bsm up val a x ∧ Bsm up val x b, ⟨fun a b ⟨x, h1, h2⟩ => (B.val _ _ h1).trans (B.val _ _ h2), fun a b ⟨x, h1, h2⟩ y hy => ?_, fun a b ⟨x, h1, h2⟩ y hy => ?_⟩, v, h, h'⟩
  · obtain ⟨d, hd, e⟩ := B.to _ _ h1 y hy
    obtain ⟨z, hz, e2⟩ := B.to _ _ h2 d hd
    exact ⟨z, hz, d, e, e2⟩
  · obtain ⟨d, hd, e⟩ := B.back _ _ h2 y hy
    obtain ⟨z, hz, e2⟩ := B.back _ _ h1 d hd
    exact ⟨z, hz, d, e2, e⟩
noncomputable def liB (up : List (List Int)) (val : List (List ByteArray)) (T : Nat → Nat → Bool) (a b : Nat) : Bool :=
  decide (val.getD a [] = val.getD b []) && (List.range up.length).all fun c => !rb up a c || (List.range up.length).any fun d => rb up b d && T c d
/-- a table that may still be too great -/
structure AT (up : List (List Int)) (val : List (List ByteArray)) (T : Nat → Nat → Bool) : Prop where
  sym : ∀ a b, T a b = T b a
  bsm : ∀ a b, a < up.length → b < up.length → Bsm up val a b → T a b = true
theorem liB_bsm (hi : InR up) {T : Nat → Nat → Bool} (A : AT up val T) {a b : Nat} (ha : a < up.length) (hb : b < up.length) (h : Bsm up val a b) : liB up val T a b = true := by
  have B := Bsm.bis up val
  unfold liB
  rw [Bool.and_eq_true, decide_eq_true_iff, List.all_eq_true]
  refine ⟨B.val _ _ h, fun c hc => ?_⟩
  rw [Bool.or_eq_true, Bool.not_eq_true', List.any_eq_true]
  cases hr : rb up a c with
  | false => exact .inl rfl
  | true =>
    obtain ⟨d, hd, e⟩ := B.to _ _ h c (rb_iff.1 hr)
    have hdl := hd.lt hi hb
    exact .inr ⟨d, List.mem_range.2 hdl, by rw [rb_iff.2 hd, A.bsm c d (List.mem_range.1 hc) hdl e]; rfl⟩
def strike (T : Nat → Nat → Bool) (a b : Nat) : Nat → Nat → Bool := fun x y => if (x = a ∧ y = b) ∨ (x = b ∧ y = a) then false else T x y
theorem AT.strike (hi : InR up) {T : Nat → Nat → Bool} (A : AT up val T) {a b : Nat} (ha : a < up.length) (hb : b < up.length) (h : liB up val T a b = false ∨ liB up val T b a = false) : AT up val (strike T a b) where
  sym x y := by
    unfold Go.Proofs.Ytinficcdpggiaaa.strike
    by_cases e : (x = a ∧ y = b) ∨ (x = b ∧ y = a)
    · rw [if_pos e, if_pos (by rcases e with ⟨e1, e2⟩ | ⟨e1, e2⟩ <;> simp [e1, e2])]
    · rw [if_neg e, if_neg (fun h => e (by rcases h with ⟨e1, e2⟩ | ⟨e1, e2⟩ <;> simp [e1, e2])), A.sym]
  bsm x y hx hy hB := by
    unfold Go.Proofs.Ytinficcdpggiaaa.strike
    rw [if_neg]
    · exact A.bsm x y hx hy hB
    · intro e
      have hab : Bsm up val a b := by
        rcases e with ⟨e1, e2⟩ | ⟨e1, e2⟩
        · subst e1 e2; exact hB
        · subst e1 e2; exact hB.symm
      rcases h with h | h
      · rw [liB_bsm hi A ha hb hab] at h; cases h
      · rw [liB_bsm hi A hb ha hab.symm] at h; cases h
noncomputable def cntT (n : Nat) (T : Nat → Nat → Bool) : Nat := ((List.range (n * n)).filter fun i => T (i / n) (i % n)).length
theorem fltr_le {α : Type} {p q : α → Bool} : ∀ {l : List α}, (∀ x ∈ l, p x = true → q x = true) → (l.filter p).length ≤ (l.filter q).length
  | [], _ => by simp
  | x :: l, h => by
    have ih := fltr_le (l := l) (fun y hy => h y (List.mem_cons_of_mem _ hy))
    have h1 := h x List.mem_cons_self
    rw [List.filter_cons, List.filter_cons]
    cases e : p x with
    | true => rw [h1 e]; simpa using ih
    | false => cases q x <;> simp <;> omega
theorem fltr_lt {α : Type} {p q : α → Bool} : ∀ {l : List α}, (∀ x ∈ l, p x = true → q x = true) → ∀ {x}, x ∈ l → p x = false → q x = true → (l.filter p).length < (l.filter q).length
  | [], _, _, hx, _, _ => by simp at hx
  | y :: l, h, x, hx, h1, h2 => by
    have le := fltr_le (l := l) (p := p) (q := q) (fun y hy => h y (List.mem_cons_of_mem _ hy))
    rw [List.filter_cons, List.filter_cons]
    rcases List.mem_cons.1 hx with rfl | hx
    · rw [h1, h2]; simp; omega
    · have ih := fltr_lt (l := l) (fun y hy => h y (List.mem_cons_of_mem _ hy)) hx h1 h2
      have h3 := h y List.mem_cons_self
      cases e : p y with
      | true => rw [h3 e]; simpa using ih
      | false => cases q y <;> simp <;> omega
theorem cnt_strike {n : Nat} {T : Nat → Nat → Bool} {a b : Nat} (ha : a < n) (hb : b < n) (h : T a b = true) : cntT n (strike T a b) < cntT n T := by
  have hn : 0 < n := by omega
  have e1 : (a * n + b) / n = a := by rw [Nat.mul_comm, Nat.mul_add_div hn, Nat.div_eq_of_lt hb]; rfl
  have e2 : (a * n + b) % n = b := by rw [Nat.mul_comm, Nat.mul_add_mod, Nat.mod_eq_of_lt hb]
  refine fltr_lt (x := a * n + b) (fun i _ hi => ?_) (List.mem_range.2 ?_) ?_ ?_
  · unfold strike at hi
    split at hi
    · cases hi
    · exact hi
  · have : (a + 1) * n ≤ n * n := Nat.mul_le_mul_right n ha
    rw [Nat.add_mul, Nat.one_mul] at this
    omega
  · simp only [e1, e2]
    unfold strike
    rw [if_pos (.inl ⟨rfl, rfl⟩)]
  · simp only [e1, e2]; exact h
theorem cnt_le {n : Nat} {T : Nat → Nat → Bool} : cntT n T ≤ n * n := by
  have := List.length_filter_le (fun i => T (i / n) (i % n)) (List.range (n * n))
  simpa [cntT] using this
/-- nothing is wrong: what stands is bisimilar -/
theorem AT.done (hi : InR up) {T : Nat → Nat → Bool} (A : AT up val T) (h : ∀ a b, a < up.length → b < up.length → T a b = true → liB up val T a b = true ∧ liB up val T b a = true) {a b : Nat} (ha : a < up.length) (hb : b < up.length) : T a b = true ↔ Bsm up val a b := by
  refine ⟨fun e => ⟨fun x y => x < up.length ∧ y < up.length ∧ T x y = true, ⟨fun x y ⟨hx, hy, e⟩ => ?_, fun x y ⟨hx, hy, e⟩ c hc => ?_, fun x y ⟨hx, hy, e⟩ c hc => ?_⟩, ha, hb, e⟩, A.bsm a b ha hb⟩
  · have := (h x y hx hy e).1
    unfold liB at this
    rw [Bool.and_eq_true, decide_eq_true_iff] at this
    exact this.1
  · have h1 := (h x y hx hy e).1
    unfold liB at h1
    rw [Bool.and_eq_true, List.all_eq_true] at h1
    have hcl := hc.lt hi hx
    have h2 := h1.2 c (List.mem_range.2 hcl)
    rw [rb_iff.2 hc] at h2
    simp only [Bool.not_true, Bool.false_or, List.any_eq_true, Bool.and_eq_true] at h2
    obtain ⟨d, hd, h3, h4⟩ := h2
    exact ⟨d, rb_iff.1 h3, hcl, List.mem_range.1 hd, h4⟩
  · have h1 := (h x y hx hy e).2
    unfold liB at h1
    rw [Bool.and_eq_true, List.all_eq_true] at h1
    have hcl := hc.lt hi hy
    have h2 := h1.2 c (List.mem_range.2 hcl)
    rw [rb_iff.2 hc] at h2
    simp only [Bool.not_true, Bool.false_or, List.any_eq_true, Bool.and_eq_true] at h2
    obtain ⟨d, hd, h3, h4⟩ := h2
    exact ⟨d, rb_iff.1 h3, List.mem_range.1 hd, hcl, by rw [A.sym]; exact h4⟩

/- ---- the test of two worlds ---- -/
/-- a table of truths that can be read here -/
def RdT (h : Heap) (v : AVal) (n : Nat) (T : Nat → Nat → Bool) : Prop := ∀ a, a < n → ∃ e, (∀ K : AVal → Prop, K e → ixS 1 v (a : Int) fun p => ld1 h p K) ∧ ∀ b, b < n → ∀ K : AVal → Prop, K (.bool (T a b)) → ixS 1 e (b : Int) fun p => ld1 h p K
theorem like_l3 (hn : up.length ≤ 512) {o v : AVal} (hO : OTab o up) {T : Nat → Nat → Bool} (hT : RdT h v up.length T) {a b c : Nat} (ha : a < up.length) (hb : b < up.length) (hc : c < up.length) {L1 : AVal → AVal → Int → Int → Int → Heap → Prop}
    (yes : ((List.range up.length).any fun d => rb up b d && T c d) = true → L1 o v a b ((c : Int) + 1) h) (no : ((List.range up.length).any fun d => rb up b d && T c d) = false → K (.bool false) h) :
    ∀ d x : Nat, x + d = up.length → ∀ s : Bool, s = ((List.range x).any fun d => rb up b d && T c d) → s66l3 K (s66l1_G L1) (d + 1) o v (a : Int) (b : Int) (c : Int) s (x : Int) h
  | 0, x, hd, s, hs => by
    obtain rfl : x = up.length := by omega
    unfold s66l3
    rw [hO.len]
    refine ifT_neg (by simp) ?_
    cases s with
    | false => exact ifT_pos rfl (retG_of (no hs.symm))
    | true => exact ifT_neg rfl (rg_of (by omega) (by omega) (s66l1_go (yes hs.symm)))
  | d + 1, x, hd, s, hs => by
    have hx : x < up.length := by omega
    have go : ∀ s' : Bool, s' = (s || (rb up b x && T c x)) → s66c4 K (s66l1_G L1) (s66l3_G (s66l3 K (s66l1_G L1) (d + 1))) o v (a : Int) (b : Int) (c : Int) s' (x : Int) h := fun s' e => by
      refine rg_of (by omega) (by omega) (s66l3_go ?_)
      refine like_l3 hn hO hT ha hb hc yes no d (x + 1) (by omega) s' ?_
      rw [e, hs, List.range_succ, List.any_append]
      simp
    unfold s66l3
    rw [hO.len]
    refine ifT_pos (decide_eq_true (by omega)) ?_
    cases s with
    | true => exact ifT_pos rfl (go true rfl)
    | false =>
      obtain ⟨e, hr, _, hi⟩ := hO.row (h' := h) hb
      refine ifT_neg rfl ?_
      rw [hr, hi x hx, tBool_bool]
      cases hrb : rb up b x with
      | false => exact ifT_neg rfl (go false (by rw [hrb]; rfl))
      | true =>
        obtain ⟨e2, h1, h2⟩ := hT c hc
        refine ifT_pos rfl (h1 _ (h2 x hx _ ?_))
        rw [tBool_bool]
        exact go _ (by rw [hrb]; simp)
theorem like_l1 (hn : up.length ≤ 512) {o v : AVal} (hO : OTab o up) {T : Nat → Nat → Bool} (hT : RdT h v up.length T) {a b : Nat} (ha : a < up.length) (hb : b < up.length) {r : Bool}
    (hk : K (.bool r) h) (tr : ((List.range up.length).all fun c => !rb up a c || (List.range up.length).any fun d => rb up b d && T c d) = r) :
    ∀ d c : Nat, c + d = up.length → ((List.range c).all fun c => !rb up a c || (List.range up.length).any fun d => rb up b d && T c d) = true → s66l1 K (d + 1) o v (a : Int) (b : Int) (c : Int) h
  | 0, c, hd, hall => by
    obtain rfl : c = up.length := by omega
    unfold s66l1
    rw [hO.len]
    rw [hall] at tr
    subst tr
    exact ifT_neg (by simp) (retG_of hk)
  | d + 1, c, hd, hall => by
    have hc : c < up.length := by omega
    obtain ⟨e, hr, _, hi⟩ := hO.row (h' := h) ha
    have nx : (!rb up a c || (List.range up.length).any fun d => rb up b d && T c d) = true → s66l1 K (d + 1) o v (a : Int) (b : Int) ((c : Int) + 1) h := fun hx => by
      have := like_l1 hn hO hT ha hb hk tr d (c + 1) (by omega) (by rw [List.range_succ, List.all_append, hall, List.all_cons, hx]; rfl)
      exact this
    unfold s66l1
    rw [hO.len]
    refine ifT_pos (decide_eq_true (by omega)) ?_
    rw [hr, hi c hc, tBool_bool]
    cases hrb : rb up a c with
    | false => exact ifT_pos rfl (rg_of (by omega) (by omega) (s66l1_go (nx (by rw [hrb]; rfl))))
    | true =>
      refine ifT_neg rfl (s66l3_in (up.length + 1) ?_)
      refine like_l3 hn hO hT ha hb hc (fun hy => nx (by rw [hy]; simp)) (fun hno => ?_) up.length 0 (by omega) false (by simp)
      have : ((List.range up.length).all fun c => !rb up a c || (List.range up.length).any fun d => rb up b d && T c d) = false :=
        List.all_eq_false.2 ⟨c, List.mem_range.2 hc, by rw [hrb, hno]; simp⟩
      rw [this] at tr
      subst tr
      exact hk
theorem like_ok (S : Small up val) (W : WF up val) (hV : Strss mV val) {o v : AVal} (hO : OTab o up) {T : Nat → Nat → Bool} (hT : RdT h v up.length T) {a b : Nat} (ha : a < up.length) (hb : b < up.length) (hk : K (.bool (liB up val T a b)) h) :
    ACalls prog 66 [.agg [mU, mV], o, v, .int .i64 (a : Int), .int .i64 (b : Int)] h K := by
  have hal : a < val.length := by rw [W.len]; exact ha
  have hbl : b < val.length := by rw [W.len]; exact hb
  obtain ⟨x, hx, hix⟩ := hV.ix hal
  obtain ⟨y, hy, hiy⟩ := hV.ix hbl
  refine s66_ok ?_
  unfold s66
  rw [hix, ld1_lptr, hiy, ld1_lptr]
  refine callG_of (names_ok hx hy ((S.names _ (List.getElem_mem hal)).1.1) ?_)
  rw [tBool_bool]
  unfold liB at hk
  rw [getD_val hal, getD_val hbl] at hk
  by_cases e : val[a] = val[b]
  · rw [decide_eq_true e] at hk ⊢
    exact ifT_neg rfl (s66l1_in (up.length + 1) (like_l1 W.max hO hT ha hb hk (by simp) up.length 0 (by omega) (by simp)))
  · rw [decide_eq_false e] at hk ⊢
    exact ifT_pos rfl (retG_of hk)
end Go.Proofs.Ytinficcdpggiaaa

namespace Go.Proofs.Ytinficcdpggiaaa
open Go Go.Sym Go.Proofs.Try

variable {K : AVal → Heap → Prop} {h h0 hb : Heap} {up : List (List Int)} {val : List (List ByteArray)} {c : Nat → Nat} {mU mV : AVal}

def rowsO (q : Nat) (f : Nat → AVal) (g : Nat → List Nat) : List Ow := (List.range q).map fun k => .slc 1 (f k) ((natI (g k)).map (.int .i64))
def upd {α : Type} (f : Nat → α) (k : Nat) (y : α) : Nat → α := fun x => if x = k then y else f x
theorem rowsO_get {q k : Nat} {f : Nat → AVal} {g : Nat → List Nat} (hk : k < q) (a b d : Ow) : ([a, b, d] ++ rowsO q f g)[k + 3]? = some (.slc 1 (f k) ((natI (g k)).map (.int .i64))) := by
  show (rowsO q f g)[k]? = _
  unfold rowsO
  exact range_get _ hk
theorem rowsO_set {q k x : Nat} {f : Nat → AVal} {g : Nat → List Nat} {v : AVal} (a b d : Ow) : ([a, b, d] ++ rowsO q f g).set (k + 3) (.slc 1 v ((natI (g k)).map (.int .i64) ++ [.int .i64 (x : Int)])) = [a, b, d] ++ rowsO q (upd f k v) (upd g k (g k ++ [x])) := by
  show a :: b :: d :: (rowsO q f g).set k _ = a :: b :: d :: rowsO q _ _
  unfold rowsO
  rw [map_set]
  congr 3
  refine List.map_congr_left fun y _ => ?_
  unfold upd
  split
  · simp [natI]
  · rfl
/-- the memory of a model whose rows grow -/
abbrev QM (hb : Heap) (ro : Nat) (vU vV : AVal) (LV : List AVal) (q : Nat) (f : Nat → AVal) (g : Nat → List Nat) (h : Heap) : Prop :=
  Own hb ([.cell ro (.row 2 [.agg [vU, vV]]), .slc 1 vU ((List.range q).map f), .slc 1 vV LV] ++ rowsO q f g) h
theorem lits_rows {hb h : Heap} {os : List Ow} (W : Own hb os h) {S : Nat → Prop} {f : Nat → AVal} {g : Nat → List Nat} : ∀ (ks : List Nat), (∀ k ∈ ks, ∃ i : Nat, os[i]? = some (.slc 1 (f k) ((natI (g k)).map (.int .i64)))) → (∀ k ∈ ks, ∀ n, nameOf (f k) n → S n) →
    ∃ l', Lits h S (ks.map f) l' ∧ All2 Ints l' (ks.map fun k => natI (g k))
  | [], _, _ => ⟨[], .nil, .nil⟩
  | k :: ks, ho, hS => by
    obtain ⟨l', h1, h2⟩ := lits_rows W ks (fun k hk => ho k (List.mem_cons_of_mem _ hk)) (fun k hk => hS k (List.mem_cons_of_mem _ hk))
    obtain ⟨i, hi⟩ := ho k List.mem_cons_self
    obtain ⟨v', hv, hs⟩ := W.lit hi (S := S) (hS k List.mem_cons_self) (Lits.refl _)
    exact ⟨v' :: l', .cons hv h1, .cons hs h2⟩
/-- what the rows hold when w worlds are done, and j of those above the next -/
structure QG (up : List (List Int)) (c : Nat → Nat) (w j : Nat) (g : Nat → List Nat) : Prop where
  has : ∀ w' b, (w' < w ∧ Reach up w' b) ∨ (w' = w ∧ b ∈ (aboveL up w).take j) → c b ≠ c w' → c b ∈ g (c w')
  src : ∀ k x, x ∈ g k → k ≠ x ∧ qR up c k x
  len : ∀ k, (g k).length ≤ w * 512 + j
theorem QG.next {w j : Nat} {g : Nat → List Nat} (G : QG up c w j g) (hi : InR up) (hw : w < up.length) (hj : j < (aboveL up w).length) (hne : c (aboveL up w)[j] ≠ c w) : QG up c w (j + 1) (upd g (c w) (g (c w) ++ [c (aboveL up w)[j]])) where
  has w' b h hne' := by
    have old : ∀ x, x ∈ g (c w') → x ∈ upd g (c w) (g (c w) ++ [c (aboveL up w)[j]]) (c w') := fun x hx => by
      unfold upd
      split
      · rename_i e; rw [← e]; exact List.mem_append_left _ hx
      · exact hx
    rcases h with h | ⟨rfl, h⟩
    · exact old _ (G.has w' b (.inl h) hne')
    · rw [List.take_succ_eq_append_getElem hj, List.mem_append] at h
      rcases h with h | h
      · exact old _ (G.has w' b (.inr ⟨rfl, h⟩) hne')
      · rw [List.mem_singleton.1 h]
        unfold upd
        rw [if_pos rfl]
        simp
  src k x hx := by
    unfold upd at hx
    split at hx
    · rename_i e
      subst e
      rcases List.mem_append.1 hx with hx | hx
      · exact G.src _ x hx
      · rw [List.mem_singleton.1 hx]
        exact ⟨fun e => hne e.symm, w, _, hw, rfl, (mem_aboveL hi hw).1 (List.getElem_mem hj), rfl⟩
    · exact G.src _ x hx
  len k := by
    unfold upd
    split
    · have := G.len (c w)
      simp; omega
    · have := G.len k
      omega
theorem QG.skip {w j : Nat} {g : Nat → List Nat} (G : QG up c w j g) (hj : j < (aboveL up w).length) (he : c (aboveL up w)[j] = c w) : QG up c w (j + 1) g where
  has w' b h hne' := by
    rcases h with h | ⟨rfl, h⟩
    · exact G.has w' b (.inl h) hne'
    · rw [List.take_succ_eq_append_getElem hj, List.mem_append] at h
      rcases h with h | h
      · exact G.has w' b (.inr ⟨rfl, h⟩) hne'
      · rw [List.mem_singleton.1 h] at hne'
        exact absurd he hne'
  src := G.src
  len k := by have := G.len k; omega
theorem QG.row {w : Nat} {g : Nat → List Nat} (G : QG up c w (aboveL up w).length g) (hi : InR up) (hw : w < up.length) (hl : up.length ≤ 512) : QG up c (w + 1) 0 g where
  has w' b h hne' := by
    rcases h with ⟨h1, h2⟩ | ⟨_, h⟩
    · by_cases e : w' = w
      · subst e
        exact G.has w' b (.inr ⟨rfl, by rw [List.take_length]; exact (mem_aboveL hi hw).2 h2⟩) hne'
      · exact G.has w' b (.inl ⟨by omega, h2⟩) hne'
    · simp at h
  src := G.src
  len k := by
    have h1 := G.len k
    have h2 := above_len (up := up) (a := w)
    have h3 : (aboveL up w).length ≤ 512 := Nat.le_trans h2 hl
    rw [Nat.add_mul, Nat.one_mul, Nat.add_zero]
    exact Nat.le_trans h1 (Nat.add_le_add_left h3 _)
theorem QG.rows {g : Nat → List Nat} (G : QG up c up.length 0 g) : QRows up c ((List.range (nxt c up.length)).map fun k => natI (g k)) where
  len := by simp
  step k x hk := by
    unfold Step
    rw [range_get _ hk]
    constructor
    · rintro ⟨r, hr, hx⟩
      cases hr
      obtain ⟨y, hy, e⟩ := mem_natI.1 hx
      obtain rfl : x = y := by omega
      exact G.src k x hy
    · rintro ⟨hne, w, b, hw, rfl, hb, rfl⟩
      exact ⟨_, rfl, mem_natI.2 ⟨_, G.has w b (.inl ⟨hw, hb⟩) (fun e => hne e.symm), rfl⟩⟩
  nn r hr b hb := by
    obtain ⟨k, _, rfl⟩ := List.mem_map.1 hr
    obtain ⟨y, _, rfl⟩ := mem_natI.1 hb
    omega

section
variable {cv o vV : AVal} {ro rt : Nat} {LV : List AVal}
theorem quot_l4 (W : WF up val) (C : IsCls up val c) (hc : Ints cv (cMap up c)) {w : Nat} (hw : w < up.length) {e : AVal} (he : Ints e (natI (aboveL up w))) {F : AVal → AVal → AVal → AVal → AVal → Int → Int → Heap → Prop}
    (next : ∀ vU f g h', QG up c (w + 1) 0 g → QM hb ro vU vV LV (nxt c up.length) f g h' → F (.ptr rt 0 0) o cv (.ptr ro 0 0) cv (up.length : Int) ((w : Int) + 1) h') :
    ∀ d j : Nat, j + d = (aboveL up w).length → ∀ vU f g h, QG up c w j g → QM hb ro vU vV LV (nxt c up.length) f g h →
      s12l4 K (s12l3_G F) (d + 1) (.ptr rt 0 0) o cv (.ptr ro 0 0) ((c w : Nat) : Int) cv (up.length : Int) (w : Int) e ((aboveL up w).length : Int) (j : Int) h
  | 0, j, hd, vU, f, g, h, G, Ow => by
    obtain rfl : j = (aboveL up w).length := by omega
    have hmax := W.max
    unfold s12l4
    exact ifT_neg (by simp) (rg_of (by omega) (by omega) (s12l3_go (next vU f g h (G.row W.inR hw hmax) Ow)))
  | d + 1, j, hd, vU, f, g, h, G, Ow => by
    have hj : j < (aboveL up w).length := by omega
    have hmax := W.max
    have hab := above_len (up := up) (a := w)
    have hbl := ((mem_aboveL W.inR hw).1 (List.getElem_mem hj)).lt W.inR hw
    have hcl : (cMap up c).length = up.length := by simp [cMap, natI]
    have hq := nxt_lt (c := c) _ _ hw
    have hgl := G.len (c w)
    have hg : ∀ x (hx : x < up.length), (cMap up c)[x]'(by rw [hcl]; exact hx) = ((c x : Nat) : Int) := fun x hx => by simp [cMap, natI]
    unfold s12l4
    refine ifT_pos (decide_eq_true (by omega)) ?_
    rw [he.ix (i := j) (by simpa [natI] using hj), ld1_lptr, tInt_int]
    have hrow : (natI (aboveL up w))[j]'(by simpa [natI] using hj) = (((aboveL up w)[j] : Nat) : Int) := by simp [natI]
    rw [hrow, hc.ix (by rw [hcl]; exact hbl), ld1_lptr, tInt_int, hg _ hbl]
    by_cases hne : c (aboveL up w)[j] = c w
    · refine ifT_neg (bne_eq_false_iff_eq.2 (by rw [hne])) (rg_of (by omega) (by omega) (s12l4_go ?_))
      exact quot_l4 W C hc hw he next d (j + 1) (by omega) vU f g h (G.skip hj hne) Ow
    · refine ifT_pos (bne_iff_ne.2 (by omega)) ?_
      have hi := rowsO_get (f := f) (g := g) hq (.cell ro (.row 2 [.agg [vU, vV]])) (.slc 1 vU ((List.range (nxt c up.length)).map f)) (.slc 1 vV LV)
      rcases Ow.fit 1 _ rfl with ⟨_, e1⟩ | ⟨ru, rfl⟩
      · have : ((List.range (nxt c up.length)).map f).length = 0 := by rw [e1]; rfl
        simp at this
        omega
      have hlen : ((List.range (nxt c up.length)).map f).length = nxt c up.length := by simp
      have hget : ((List.range (nxt c up.length)).map f)[c w]? = some (f (c w)) := range_get _ hq
      have hag := (Ow.sc hi).2.2
      have rU := Ow.get 1 _ ru rfl rfl
      have rO := Ow.get 0 _ ro rfl rfl
      rw [addOff_ptr, ld1_fld rO rfl, addOff_ptr, ld1_fld rO rfl]
      refine ixS_sl0 (show c w < ((List.range (nxt c up.length)).map f).length by rw [hlen]; exact hq) ?_
      rw [ld1_ptr rU hget hag, hc.ix (by rw [hcl]; exact hbl), ld1_lptr, tInt_int, hg _ hbl]
      refine ⟨by rw [ld1_ptr rU hget hag], by rw [ld1_fld rO rfl], by rw [ld1_fld rO rfl], Ow.app hi (by simp [natI]; omega) (by simp [natI]; omega) fun v2 h2 W2 => ?_⟩
      rw [rowsO_set] at W2
      refine ⟨by rw [ld1_fld (W2.get 0 _ ro rfl rfl) rfl], ixS_sl0 (show c w < ((List.range (nxt c up.length)).map f).length by rw [hlen]; exact hq) ?_⟩
      have hi2 := rowsO_get (f := upd f (c w) v2) (g := upd g (c w) (g (c w) ++ [c (aboveL up w)[j]])) hq (.cell ro (.row 2 [.agg [(.sl ru 1 0 ((List.range (nxt c up.length)).map f).length), vV]])) (.slc 1 (.sl ru 1 0 ((List.range (nxt c up.length)).map f).length) ((List.range (nxt c up.length)).map f)) (.slc 1 vV LV)
      have hsc : sc v2 = true := by
        have := (W2.sc hi2).1
        unfold upd at this
        rwa [if_pos rfl] at this
      refine chk_iff.2 ⟨hsc, st_elem (W2.get 1 _ ru rfl rfl) hget hag (rg_of (by omega) (by omega) (s12l4_go ?_))⟩
      have W3 := W2.putS (i := 1) rfl (l' := ((List.range (nxt c up.length)).map f).set (c w) v2) (by simp)
      rw [map_set] at W3 ⊢
      exact quot_l4 W C hc hw he next d (j + 1) (by omega) _ (upd f (c w) v2) _ _ (G.next W.inR hw hj hne) W3

theorem quot_l3 (S : Small up val) (W : WF up val) (C : IsCls up val c) (hc : Ints cv (cMap up c)) (hO : Intss o (ordUp up)) (hLV : All2 Strs LV (qVal up val c)) {X Y : AVal} (ht : hb rt = some (.row 2 [.agg [X, Y]])) (hsub : ∀ q o, h0 q = some o → q ≠ rt ∧ hb q = some o)
    (good : ∀ vU vV rows, QRows up c rows → Intss vU (tidyUp rows) → Strss vV (qVal up val c) → K (.tuple [.agg [vU, vV], cv, .int .i64 0]) h0) :
    ∀ d w : Nat, w + d = up.length → ∀ vU f g h, QG up c w 0 g → QM hb ro vU vV LV (nxt c up.length) f g h → s12l3 K (d + 1) (.ptr rt 0 0) o cv (.ptr ro 0 0) cv (up.length : Int) (w : Int) h
  | 0, w, hd, vU, f, g, h, G, Ow => by
    obtain rfl : w = up.length := by omega
    have hmax := W.max
    have Q := G.rows
    unfold s12l3
    refine ifT_neg (by simp) ?_
    rw [ldN2 (Ow.get 0 _ ro rfl rfl), tCons_cons, tCons_cons, tNil_nil]
    let Sg : Nat → Prop := fun n => nameOf vU n ∨ nameOf vV n ∨ ∃ k, k < nxt c up.length ∧ nameOf (f k) n
    obtain ⟨l', hl, hR⟩ := lits_rows (g := g) Ow (S := Sg) (List.range (nxt c up.length)) (fun k hk => ⟨_, rowsO_get (List.mem_range.1 hk) _ _ _⟩) (fun k hk n hn => .inr (.inr ⟨k, List.mem_range.1 hk, hn⟩))
    obtain ⟨u', lu, su⟩ := Ow.lit (i := 1) rfl (S := Sg) (fun n h => .inl h) hl
    obtain ⟨v', lv, sv⟩ := Ow.lit (i := 2) rfl (S := Sg) (fun n h => .inr (.inl h)) (Lits.refl LV)
    have hq := nxt_le C.rg up.length (Nat.le_refl _)
    have SS : Small ((List.range (nxt c up.length)).map fun k => natI (g k)) (qVal up val c) := ⟨by simp; omega, by rw [qVal_len]; omega, fun r hr => by
      obtain ⟨k, _, rfl⟩ := List.mem_map.1 hr
      have := G.len k
      simp only [natI, List.length_map]
      omega, (Q.small S W C).names⟩
    refine ⟨Sg, [.agg [u', v']], hb, .cons (.agg (.cons lu (.cons lv .nil))) .nil, Own.toBase Ow Sg (fun n hn => by
      rcases hn with hn | hn | ⟨k, hk, hn⟩
      · exact Ow.new 1 _ n rfl hn
      · exact Ow.new 2 _ n rfl hn
      · exact Ow.new (k + 3) _ n (rowsO_get hk _ _ _) hn), tidied_ok SS ⟨_, su, hR⟩ ⟨_, sv, hLV⟩ (Q.wf W C) fun a b ha hbv => ?_⟩
    simp only [tAgg_agg, tCons_cons, tNil_nil]
    refine st_all ht rfl ?_
    rw [ldN2 (Heap.set_same _ _ _), tCons_cons, tCons_cons, tNil_nil]
    refine retG_drop (fun q o hq => ?_) (good a b _ Q ha hbv)
    rw [Heap.set_ne _ _ (hsub q o hq).1]
    exact (hsub q o hq).2
  | d + 1, w, hd, vU, f, g, h, G, Ow => by
    have hw : w < up.length := by omega
    have hcl : (cMap up c).length = up.length := by simp [cMap, natI]
    obtain ⟨e, he, hie⟩ := hO.ix (i := w) (by rw [ordUp_len]; exact hw)
    rw [ordUp_get hw] at he
    unfold s12l3
    refine ifT_pos (decide_eq_true (by omega)) ?_
    rw [hc.ix (by rw [hcl]; exact hw), ld1_lptr, tInt_int, hie, ld1_lptr, he.len, show (natI (aboveL up w)).length = (aboveL up w).length by simp [natI]]
    have hg : (cMap up c)[w]'(by rw [hcl]; exact hw) = ((c w : Nat) : Int) := by simp [cMap, natI]
    rw [hg]
    refine s12l4_in ((aboveL up w).length + 1) ?_
    exact quot_l4 W C hc hw he (fun vU' f' g' h' G' W' => quot_l3 S W C hc hO hLV ht hsub good d (w + 1) (by omega) vU' f' g' h' G' W') _ 0 (by omega) vU f g h G Ow
end
section
variable {cv o : AVal} {ro rt : Nat}
theorem newNs {hb h : Heap} {os : List Ow} (W : Own hb os h) : ∀ q : Nat, Own hb (os ++ (List.range q).map fun _ => .slc 1 .nilsl []) h
  | 0 => by simpa using W
  | q + 1 => by
    have := (newNs W q).newN 1
    rw [List.append_assoc] at this
    rw [List.range_succ, List.map_append]
    exact this
theorem quot_l1 (S : Small up val) (W : WF up val) (hV : Strss mV val) (C : IsCls up val c) (hc : Ints cv (cMap up c)) (hO : Intss o (ordUp up)) {X Y : AVal} (ht : hb rt = some (.row 2 [.agg [X, Y]])) (hsub : ∀ q o, h0 q = some o → q ≠ rt ∧ hb q = some o)
    (good : ∀ vU vV rows, QRows up c rows → Intss vU (tidyUp rows) → Strss vV (qVal up val c) → K (.tuple [.agg [vU, vV], cv, .int .i64 0]) h0) :
    ∀ d w : Nat, w + d = up.length → ∀ vU vV LV h, All2 Strs LV ((List.range (nxt c w)).map fun k => val.getD (rep c up.length k) []) → Own hb [.cell ro (.row 2 [.agg [vU, vV]]), .slc 1 vU (List.replicate (nxt c w) .nilsl), .slc 1 vV LV] h →
      s12l1 K (d + 1) (.lptr [mU, mV]) (.ptr rt 0 0) o cv (.ptr ro 0 0) cv (up.length : Int) (w : Int) h
  | 0, w, hd, vU, vV, LV, h, hLV, Ow => by
    obtain rfl : w = up.length := by omega
    have hcl : (cMap up c).length = up.length := by simp [cMap, natI]
    unfold s12l1
    refine ifT_neg (by simp) ?_
    rw [hc.len, hcl]
    refine s12l3_in (up.length + 1) (quot_l3 (vV := vV) S W C hc hO hLV ht hsub good up.length 0 (by omega) vU (fun _ => .nilsl) (fun _ => []) h ⟨fun w' b hh _ => ?_, fun k x hx => by simp at hx, fun k => by simp⟩ ?_)
    · rcases hh with ⟨h1, _⟩ | ⟨_, h1⟩
      · omega
      · simp at h1
    · have := newNs Ow (nxt c up.length)
      have e : (List.range (nxt c up.length)).map (fun _ => AVal.nilsl) = List.replicate (nxt c up.length) .nilsl := by
        refine List.ext_getElem (by simp) fun i h1 h2 => ?_
        simp
      unfold QM
      rw [e]
      exact this
  | d + 1, w, hd, vU, vV, LV, h, hLV, Ow => by
    have hw : w < up.length := by omega
    have hwl : w < val.length := by rw [W.len]; exact hw
    have hmax := W.max
    have hcl : (cMap up c).length = up.length := by simp [cMap, natI]
    have hg : (cMap up c)[w]'(by rw [hcl]; exact hw) = ((c w : Nat) : Int) := by simp [cMap, natI]
    have hrg := C.rg w hw
    have hnw := nxt_le C.rg w (by omega)
    obtain ⟨x, hx, hix⟩ := hV.ix hwl
    have hVl := hLV.length
    rw [List.length_map, List.length_range] at hVl
    unfold s12l1
    refine ifT_pos (decide_eq_true (by omega)) ?_
    rw [hc.ix (by rw [hcl]; exact hw), ld1_lptr, tInt_int, hg, addOff_ptr, ld1_fld (Ow.get 0 _ ro rfl rfl) rfl, Ow.len (i := 1) rfl, List.length_replicate]
    by_cases e : c w = nxt c w
    · have en : nxt c (w + 1) = nxt c w + 1 := by simp only [nxt]; omega
      refine ifT_pos (by rw [e]; simp) ?_
      rw [addOff_ptr, ld1_fld (Ow.get 0 _ ro rfl rfl) rfl]
      refine Ow.app (i := 1) rfl (by rw [List.length_replicate]; omega) (by rw [List.length_replicate]; omega) fun v2 h2 W2 => ?_
      refine chk_iff.2 ⟨(W2.sc (i := 1) rfl).1, st_fst (W2.get 0 _ ro rfl rfl) ?_⟩
      have W3 := W2.put (i := 0) rfl (.row 2 [.agg [v2, vV]])
      rw [addOff_ptr, ld1_fld (W3.get 0 _ ro rfl rfl) rfl, addOff_lptr]
      simp only [List.drop_succ_cons, List.drop_zero, ld1_lptr]
      rw [hix, ld1_lptr]
      refine callG_of (cloneS_ok hx ((S.names _ (List.getElem_mem hwl)).1.1) fun cp hcp => ⟨by rw [ld1_fld (W3.get 0 _ ro rfl rfl) rfl], chk_iff.2 ⟨hcp.notAgg.2, ⟨by rw [ld1_fld (W3.get 0 _ ro rfl rfl) rfl], W3.app (i := 2) rfl (by omega) (by omega) fun v3 h3 W4 => ?_⟩⟩⟩)
      refine chk_iff.2 ⟨(W4.sc (i := 2) rfl).1, st_snd (W4.get 0 _ ro rfl rfl) (rg_of (by omega) (by omega) (s12l1_go ?_))⟩
      have W5 := W4.put (i := 0) rfl (.row 2 [.agg [v2, v3]])
      have e2 : List.replicate (nxt c w) AVal.nilsl ++ [.nilsl] = List.replicate (nxt c (w + 1)) .nilsl := by rw [en, List.replicate_succ']
      refine quot_l1 S W hV C hc hO ht hsub good d (w + 1) (by omega) v2 v3 (LV ++ [cp]) _ ?_ (by rw [← e2]; exact W5)
      rw [en, List.range_succ, List.map_append]
      refine hLV.append (.cons ?_ .nil)
      have hs := rep_spec C.rg (nxt_lt (c := c) _ _ hw)
      show Strs cp (val.getD (rep c up.length (nxt c w)) [])
      rw [← e, C.valq hs.1 hw hs.2, getD_val hwl]
      exact hcp
    · have en : nxt c (w + 1) = nxt c w := by simp only [nxt]; omega
      refine ifT_neg (by rw [beq_eq_false_iff_ne]; omega) (rg_of (by omega) (by omega) (s12l1_go ?_))
      exact quot_l1 S W hV C hc hO ht hsub good d (w + 1) (by omega) vU vV LV h (by rw [en]; exact hLV) (by rw [en]; exact Ow)
end
theorem quotient_ok (S : Small up val) (hU : Intss mU up) (hV : Strss mV val) (bad : ¬ WF up val → K (.tuple [.agg [.nilsl, .nilsl], .nilsl, .int .i64 170]) h0)
    (good : WF up val → ∀ c rows vU vV cv, IsCls up val c → QRows up c rows → Intss vU (tidyUp rows) → Strss vV (qVal up val c) → Ints cv (cMap up c) → K (.tuple [.agg [vU, vV], cv, .int .i64 0]) h0) : ACalls prog 12 [.agg [mU, mV]] h0 K := by
  refine s12_ok ?_
  unfold s12
  refine newRow_in fun rt hrt => ?_
  have ht := Heap.set_same h0 rt (.row 2 [.agg [.nilsl, .nilsl]])
  have hsub : ∀ q o, h0 q = some o → q ≠ rt ∧ (h0.set rt (.row 2 [.agg [.nilsl, .nilsl]])) q = some o := fun q o hq => ⟨(fun e => by rw [e, hrt] at hq; cases hq), Heap.set_sub hrt q o hq⟩
  refine callG_of (reckonM_ok S hU hV (fun hW => ?_) (fun W o hO => ?_))
  · simp only [tTup_tuple, tCons_cons, tInt_int, tNil_nil]
    refine ifT_pos rfl (st_all ht rfl ?_)
    rw [Heap.set_set, ldN2 (Heap.set_same _ _ _)]
    simp only [tCons_cons, tNil_nil]
    exact retG_drop (fun q o hq => (hsub q o hq).2) (bad hW)
  · simp only [tTup_tuple, tCons_cons, tInt_int, tNil_nil]
    refine ifT_neg rfl (callG_of (classes_ok S W hV hO fun cv c C hc => ?_))
    rw [← cMap_eq] at hc
    have hcl : (cMap up c).length = up.length := by simp [cMap, natI]
    refine newRow_in fun r1 hr1 => ?_
    rw [hc.len, hcl]
    refine s12l1_in (up.length + 1) ?_
    refine quot_l1 (X := .nilsl) (Y := .nilsl) (hb := h0.set rt (.row 2 [.agg [.nilsl, .nilsl]])) S W hV C hc hO ht hsub (fun vU vV rows Q hU' hV' => good W c rows vU vV cv C Q hU' hV' hc) up.length 0 (by omega) .nilsl .nilsl [] _ .nil ?_
    exact (((Own.start _).newC hr1 (.row 2 [.agg [.nilsl, .nilsl]])).newN 1).newN 1
end Go.Proofs.Ytinficcdpggiaaa

namespace Go.Proofs.Ytinficcdpggiaaa
open Go Go.Sym Go.Proofs.Try

variable {K : AVal → Heap → Prop} {h h0 hb : Heap} {up : List (List Int)} {val : List (List ByteArray)} {mU mV : AVal}

def bRow (n : Nat) (g : Nat → Bool) : List AVal := (List.range n).map fun b => .bool (g b)
theorem bRow_len {n : Nat} {g : Nat → Bool} : (bRow n g).length = n := by simp [bRow]
theorem bRow_get {n b : Nat} {g : Nat → Bool} (hb : b < n) : (bRow n g)[b]? = some (.bool (g b)) := range_get _ hb
theorem bRow_set {n b : Nat} {g : Nat → Bool} (y : Bool) : (bRow n g).set b (.bool y) = bRow n (upd g b y) := by
  unfold bRow
  rw [map_set]
  refine List.map_congr_left fun x _ => ?_
  unfold upd
  split <;> rfl
/-- the outer row: m rows are made -/
def tOut (n m : Nat) (nm : Nat → Nat) : List AVal := (List.range n).map fun k => if k < m then .sl (nm k) 1 0 n else .nilsl
def tRows (n m : Nat) (nm : Nat → Nat) (T : Nat → Nat → Bool) : List Ow := (List.range m).map fun k => .cell (nm k) (.row 1 (bRow n (T k)))
abbrev AM (hb : Heap) (ro n m : Nat) (nm : Nat → Nat) (T : Nat → Nat → Bool) (h : Heap) : Prop := Own hb (.cell ro (.row 1 (tOut n m nm)) :: tRows n m nm T) h
theorem AM.row {ro n m : Nat} {nm : Nat → Nat} {T : Nat → Nat → Bool} (W : AM hb ro n m nm T h) {a : Nat} (ha : a < m) : h (nm a) = some (.row 1 (bRow n (T a))) := by
  refine W.get (a + 1) (.cell (nm a) (.row 1 (bRow n (T a)))) (nm a) ?_ rfl
  show (tRows n m nm T)[a]? = _
  unfold tRows
  exact range_get _ ha
theorem AM.out {ro n m : Nat} {nm : Nat → Nat} {T : Nat → Nat → Bool} (W : AM hb ro n m nm T h) : h ro = some (.row 1 (tOut n m nm)) := W.get 0 _ ro rfl rfl
theorem AM.ix {ro n m : Nat} {nm : Nat → Nat} {T : Nat → Nat → Bool} (W : AM hb ro n m nm T h) (hm : m ≤ n) {a : Nat} (ha : a < m) {K : AVal → Prop} (hk : K (.sl (nm a) 1 0 n)) : ixS 1 (.sl ro 1 0 n) (a : Int) fun p => ld1 h p K := by
  refine ixS_sl0 (by omega) ?_
  rw [ld1_ptr W.out (e := .sl (nm a) 1 0 n) (by unfold tOut; rw [range_get _ (by omega), if_pos ha]) rfl]
  exact hk
theorem AM.rt {ro n : Nat} {nm : Nat → Nat} {T : Nat → Nat → Bool} (W : AM hb ro n n nm T h) : RdT h (.sl ro 1 0 n) n T := fun a ha =>
  ⟨.sl (nm a) 1 0 n, fun K hk => W.ix (Nat.le_refl _) ha hk, fun b hb K hk => by
    refine ixS_sl0 hb ?_
    rw [ld1_ptr (W.row ha) (bRow_get hb) rfl]
    exact hk⟩
theorem AM.put {ro n m : Nat} {nm : Nat → Nat} {T : Nat → Nat → Bool} (W : AM hb ro n m nm T h) {a b : Nat} (ha : a < m) (hb' : b < n) (y : Bool) {K : Heap → Prop} (hk : ∀ h', AM hb ro n m nm (upd T a (upd (T a) b y)) h' → K h') : ixS 1 (.sl (nm a) 1 0 n) (b : Int) fun p => st true h p [.bool y] K := by
  refine ixS_sl0 hb' (st_elem (W.row ha) (bRow_get hb') rfl ?_)
  rw [bRow_set]
  refine hk _ ?_
  have hi : (Ow.cell ro (.row 1 (tOut n m nm)) :: tRows n m nm T)[a + 1]? = some (.cell (nm a) (.row 1 (bRow n (T a)))) := by
    show (tRows n m nm T)[a]? = _
    unfold tRows
    exact range_get _ ha
  have W2 := Own.put W hi (.row 1 (bRow n (upd (T a) b y)))
  have e : (Ow.cell ro (.row 1 (tOut n m nm)) :: tRows n m nm T).set (a + 1) (.cell (nm a) (.row 1 (bRow n (upd (T a) b y)))) = .cell ro (.row 1 (tOut n m nm)) :: tRows n m nm (upd T a (upd (T a) b y)) := by
    show _ :: (tRows n m nm T).set a _ = _
    unfold tRows
    rw [map_set]
    congr 1
    refine List.map_congr_left fun x _ => ?_
    unfold upd
    split
    · rename_i e; rw [e]
    · rfl
  rw [e] at W2
  exact W2

abbrev Ow_cons (ro : Nat) (l : List AVal) (os : List Ow) : List Ow := .cell ro (.row 1 l) :: os
/- ---- the table is made, all true ---- -/
theorem alike_l2 (hn : up.length ≤ 512) {o : AVal} (hO : OTab o up) {a : Nat} (ha : a < up.length) {ro : Nat} {nm : Nat → Nat} {F : AVal → AVal → AVal → Int → Heap → Prop}
    (next : ∀ T h', (∀ x y, x < a + 1 → y < up.length → T x y = true) → AM hb ro up.length (a + 1) nm T h' → F o (.lptr [mU, mV]) (.sl ro 1 0 up.length) ((a : Int) + 1) h') :
    ∀ d b : Nat, b + d = up.length → ∀ T h, (∀ x y, x < a → y < up.length → T x y = true) → (∀ y, y < b → T a y = true) → AM hb ro up.length (a + 1) nm T h → s38l2 K (s38l1_G F) (d + 1) o (.lptr [mU, mV]) (.sl ro 1 0 up.length) (a : Int) (b : Int) h
  | 0, b, hd, T, h, h1, h2, W => by
    obtain rfl : b = up.length := by omega
    unfold s38l2
    rw [hO.len]
    refine ifT_neg (by simp) (rg_of (by omega) (by omega) (s38l1_go (next T h (fun x y hx hy => ?_) W)))
    by_cases e : x = a
    · subst e; exact h2 y hy
    · exact h1 x y (by omega) hy
  | d + 1, b, hd, T, h, h1, h2, W => by
    have hb' : b < up.length := by omega
    unfold s38l2
    rw [hO.len]
    refine ifT_pos (decide_eq_true (by omega)) (W.ix (by omega) (by omega) (W.put (by omega) hb' true fun h' W' => rg_of (by omega) (by omega) (s38l2_go ?_)))
    refine alike_l2 hn hO ha next d (b + 1) (by omega) _ h' (fun x y hx hy => ?_) (fun y hy => ?_) W'
    · unfold upd
      rw [if_neg (by omega)]
      exact h1 x y hx hy
    · unfold upd
      rw [if_pos rfl]
      split
      · rfl
      · exact h2 y (by omega)

/- ---- pairs are struck ---- -/
theorem alike_end (W : WF up val) {o : AVal} {ro : Nat} {nm : Nat → Nat} (good : ∀ v T, BTab v T up.length up.length → (∀ a b, a < up.length → b < up.length → (T a b = true ↔ Bsm up val a b)) → K v h0)
    {T : Nat → Nat → Bool} (A : AT up val T) (hf : ∀ a b, a < up.length → b < up.length → T a b = true → liB up val T a b = true ∧ liB up val T b a = true) (Ow : AM h0 ro up.length up.length nm T h) (d : Nat) :
    s38l3 K (d + 1) o (.lptr [mU, mV]) (.sl ro 1 0 up.length) false h := by
  have hi := W.inR
  unfold s38l3
  refine ifT_neg rfl ?_
  have hl : Lits h (fun q => h0 q = none) (tOut up.length up.length nm) ((List.range up.length).map fun k => .lsl 1 (bRow up.length (T k))) := by
    have : ∀ ks : List Nat, (∀ k ∈ ks, k < up.length) → Lits h (fun q => h0 q = none) (ks.map fun k => if k < up.length then AVal.sl (nm k) 1 0 up.length else .nilsl) (ks.map fun k => .lsl 1 (bRow up.length (T k))) := by
      intro ks
      induction ks with
      | nil => intro _; exact .nil
      | cons k ks ih =>
        intro hk
        have hkl := hk k List.mem_cons_self
        rw [List.map_cons, List.map_cons]
        refine .cons ?_ (ih fun x hx => hk x (List.mem_cons_of_mem _ hx))
        rw [if_pos hkl]
        refine .whole ?_ (Ow.row hkl) bRow_len.symm
        refine Ow.new (k + 1) (.cell (nm k) (.row 1 (bRow up.length (T k)))) (nm k) ?_ rfl
        show (tRows up.length up.length nm T)[k]? = _
        unfold tRows
        exact range_get _ hkl
    exact this _ (fun k hk => List.mem_range.1 hk)
  have hlen : (tOut up.length up.length nm).length = up.length := by simp [tOut]
  refine ⟨fun q => h0 q = none, .lsl 1 ((List.range up.length).map fun k => .lsl 1 (bRow up.length (T k))), h0, .sl (Ow.new 0 _ ro rfl rfl) Ow.out (by rw [hlen]; omega) ?_, Own.toBase Ow _ (fun n hn => hn), good _ T ⟨_, .lsl 1 _, by simp, fun i hi' => ⟨_, range_get _ hi', rfl, .lsl 1 _⟩⟩ (fun a b ha hb => A.done hi hf ha hb)⟩
  rw [List.drop_zero, List.take_of_length_le (by rw [hlen]; omega)]
  exact hl
/-- what holds in the midst of a round -/
structure AR (up : List (List Int)) (val : List (List ByteArray)) (d : Nat) (ag : Bool) (a b : Nat) (T : Nat → Nat → Bool) : Prop where
  at_ : AT up val T
  yes : ag = true → cntT up.length T < d
  no : ag = false → cntT up.length T < d + 1 ∧ ∀ x y, (x < a ∧ y < up.length) ∨ (x = a ∧ y < b) → T x y = true → liB up val T x y = true ∧ liB up val T y x = true
theorem strike_eq {T : Nat → Nat → Bool} {a b : Nat} : upd (upd T a (upd (T a) b false)) b (upd ((upd T a (upd (T a) b false)) b) a false) = strike T a b := by
  funext x y
  unfold strike upd
  by_cases e1 : x = b
  · subst e1
    by_cases e2 : y = a
    · subst e2; simp
    · by_cases e3 : x = a
      · subst e3
        simp only [if_true, if_neg e2]
        simp [e2]
      · simp [e2, e3]
  · by_cases e3 : x = a
    · subst e3
      by_cases e2 : y = b
      · subst e2; simp [e1]
      · simp [e1, e2]
    · simp [e1, e3]
theorem AR.row {d : Nat} {ag : Bool} {a : Nat} {T : Nat → Nat → Bool} (R : AR up val d ag a up.length T) : AR up val d ag (a + 1) 0 T where
  at_ := R.at_
  yes := R.yes
  no e := ⟨(R.no e).1, fun x y h => (R.no e).2 x y (by
    rcases h with ⟨h1, h2⟩ | ⟨_, h2⟩
    · by_cases e : x = a
      · exact .inr ⟨e, h2⟩
      · exact .inl ⟨by omega, h2⟩
    · omega)⟩
theorem AR.skip {d : Nat} {ag : Bool} {a b : Nat} {T : Nat → Nat → Bool} (R : AR up val d ag a b T) (h : T a b = true → liB up val T a b = true ∧ liB up val T b a = true) : AR up val d ag a (b + 1) T where
  at_ := R.at_
  yes := R.yes
  no e := ⟨(R.no e).1, fun x y hxy => by
    rcases hxy with ⟨h1, h2⟩ | ⟨h1, h2⟩
    · exact (R.no e).2 x y (.inl ⟨h1, h2⟩)
    · by_cases e2 : y = b
      · subst h1 e2; exact h
      · exact (R.no e).2 x y (.inr ⟨h1, by omega⟩)⟩
theorem AR.hit {d : Nat} {ag : Bool} {a b : Nat} {T : Nat → Nat → Bool} (R : AR up val d ag a b T) (hi : InR up) (ha : a < up.length) (hb : b < up.length) (ht : T a b = true) (h : liB up val T a b = false ∨ liB up val T b a = false) : AR up val d true a (b + 1) (strike T a b) where
  at_ := R.at_.strike hi ha hb h
  yes _ := by
    have h1 := cnt_strike ha hb ht
    cases ag with
    | true => have := R.yes rfl; omega
    | false => have := (R.no rfl).1; omega
  no e := by cases e

theorem alike_l5 (S : Small up val) (W : WF up val) (hV : Strss mV val) {o : AVal} (hO : OTab o up) {ro : Nat} {nm : Nat → Nat} {e : Nat} {a : Nat} (ha : a < up.length) {L3 : AVal → AVal → AVal → Bool → Heap → Prop} {F : AVal → AVal → AVal → Bool → Int → Heap → Prop}
    (next : ∀ ag T h', AR up val e ag (a + 1) 0 T → AM h0 ro up.length up.length nm T h' → F o (.lptr [mU, mV]) (.sl ro 1 0 up.length) ag ((a : Int) + 1) h') :
    ∀ d b : Nat, b + d = up.length → ∀ ag T h, AR up val e ag a b T → AM h0 ro up.length up.length nm T h → s38l5 K L3 (s38l4_G F) (d + 1) o (.lptr [mU, mV]) (.sl ro 1 0 up.length) ag (a : Int) (b : Int) h
  | 0, b, hd, ag, T, h, R, Ow => by
    obtain rfl : b = up.length := by omega
    have hmax := W.max
    unfold s38l5
    rw [hO.len]
    exact ifT_neg (by simp) (rg_of (by omega) (by omega) (s38l4_go (next ag T h R.row Ow)))
  | d + 1, b, hd, ag, T, h, R, Ow => by
    have hmax := W.max
    have hb : b < up.length := by omega
    have skip : ∀ (_ : T a b = true → liB up val T a b = true ∧ liB up val T b a = true), s38c7 K L3 (s38l4_G F) (s38l5_G (s38l5 K L3 (s38l4_G F) (d + 1))) o (.lptr [mU, mV]) (.sl ro 1 0 up.length) ag (a : Int) (b : Int) false h := fun hx =>
      ifT_neg rfl (rg_of (by omega) (by omega) (s38l5_go (alike_l5 S W hV hO ha next d (b + 1) (by omega) ag T h (R.skip hx) Ow)))
    have hit : T a b = true → (liB up val T a b = false ∨ liB up val T b a = false) → s38c7 K L3 (s38l4_G F) (s38l5_G (s38l5 K L3 (s38l4_G F) (d + 1))) o (.lptr [mU, mV]) (.sl ro 1 0 up.length) ag (a : Int) (b : Int) true h := fun ht hx => by
      refine ifT_pos rfl (Ow.ix (Nat.le_refl _) ha (Ow.put ha hb false fun h1 W1 => W1.ix (Nat.le_refl _) hb (W1.put hb ha false fun h2 W2 => rg_of (by omega) (by omega) (s38l5_go ?_))))
      rw [strike_eq] at W2
      exact alike_l5 S W hV hO ha next d (b + 1) (by omega) true _ h2 (R.hit W.inR ha hb ht hx) W2
    obtain ⟨e1, r1, r2⟩ := Ow.rt a ha
    unfold s38l5
    rw [hO.len]
    refine ifT_pos (decide_eq_true (by omega)) (r1 _ (r2 b hb _ ?_))
    rw [tBool_bool]
    cases ht : T a b with
    | false => exact ifT_neg rfl (skip fun h => by rw [ht] at h; cases h)
    | true =>
      refine ifT_pos rfl ?_
      rw [ldN_agg2]
      simp only [tCons_cons, tNil_nil]
      refine callG_of (like_ok S W hV hO Ow.rt ha hb ?_)
      rw [tBool_bool]
      cases h1 : liB up val T a b with
      | false => exact ifT_pos rfl (hit ht (.inl h1))
      | true =>
        refine ifT_neg rfl ?_
        rw [ldN_agg2]
        simp only [tCons_cons, tNil_nil]
        refine callG_of (like_ok S W hV hO Ow.rt hb ha ?_)
        rw [tBool_bool]
        cases h2 : liB up val T b a with
        | false => exact hit ht (.inr h2)
        | true => exact skip fun _ => ⟨h1, h2⟩

theorem alike_l3 (S : Small up val) (W : WF up val) (hV : Strss mV val) {o : AVal} (hO : OTab o up) {ro : Nat} {nm : Nat → Nat} (good : ∀ v T, BTab v T up.length up.length → (∀ a b, a < up.length → b < up.length → (T a b = true ↔ Bsm up val a b)) → K v h0) :
    ∀ d : Nat, ∀ T h, AT up val T → cntT up.length T < d → AM h0 ro up.length up.length nm T h → s38l3 K (d + 1) o (.lptr [mU, mV]) (.sl ro 1 0 up.length) true h
  | 0, T, h, A, hd, Ow => by omega
  | d + 1, T, h, A, hd, Ow => by
    have hmax := W.max
    unfold s38l3
    refine ifT_pos rfl (s38l4_in (up.length + 1) ?_)
    have l4 : ∀ d4 a : Nat, a + d4 = up.length → ∀ (ag : Bool) T h, AR up val d ag a 0 T → AM h0 ro up.length up.length nm T h →
        s38l4 K (s38l3_G (s38l3 K (d + 1))) (d4 + 1) o (.lptr [mU, mV]) (.sl ro 1 0 up.length) ag (a : Int) h := by
      intro d4
      induction d4 with
      | zero =>
        intro a ha ag T h R Ow
        obtain rfl : a = up.length := by omega
        unfold s38l4
        rw [hO.len]
        refine ifT_neg (by simp) (s38l3_go ?_)
        cases ag with
        | true => exact alike_l3 S W hV hO good d T h R.at_ (R.yes rfl) Ow
        | false => exact alike_end W good R.at_ (fun x y hx hy e => (R.no rfl).2 x y (.inl ⟨hx, hy⟩) e) Ow d
      | succ d4 ih =>
        intro a ha ag T h R Ow
        have hal : a < up.length := by omega
        unfold s38l4
        rw [hO.len]
        refine ifT_pos (decide_eq_true (by omega)) (s38l5_in (up.length + 1) ?_)
        exact alike_l5 S W hV hO hal (fun ag' T' h' R' W' => ih (a + 1) (by omega) ag' T' h' R' W') up.length 0 (by omega) ag T h R Ow
    exact l4 up.length 0 (by omega) false T h ⟨A, (fun e => by cases e), fun _ => ⟨hd, fun x y hxy => by omega⟩⟩ Ow

theorem alike_l1 (S : Small up val) (W : WF up val) (hV : Strss mV val) {o : AVal} (hO : OTab o up) {ro : Nat} (good : ∀ v T, BTab v T up.length up.length → (∀ a b, a < up.length → b < up.length → (T a b = true ↔ Bsm up val a b)) → K v h0) :
    ∀ d a : Nat, a + d = up.length → ∀ nm T h, (∀ x y, x < a → y < up.length → T x y = true) → AM h0 ro up.length a nm T h → s38l1 K (d + 1) o (.lptr [mU, mV]) (.sl ro 1 0 up.length) (a : Int) h
  | 0, a, hd, nm, T, h, hT, Ow => by
    obtain rfl : a = up.length := by omega
    unfold s38l1
    rw [hO.len]
    refine ifT_neg (by simp) (s38l3_in (cntT up.length (fun _ _ => true) + 2) ?_)
    have W2 : AM h0 ro up.length up.length nm (fun _ _ => true) h := by
      have e : tRows up.length up.length nm T = tRows up.length up.length nm (fun _ _ => true) := by
        unfold tRows bRow
        refine List.map_congr_left fun x hx => ?_
        have : (List.range up.length).map (fun b => AVal.bool (T x b)) = (List.range up.length).map fun _ => .bool true :=
          List.map_congr_left fun y hy => by rw [hT x y (List.mem_range.1 hx) (List.mem_range.1 hy)]
        rw [this]
      unfold AM at Ow ⊢
      rw [← e]
      exact Ow
    exact alike_l3 S W hV hO good _ _ h ⟨fun _ _ => rfl, fun _ _ _ _ _ => rfl⟩ (Nat.lt_succ_self _) W2
  | d + 1, a, hd, nm, T, h, hT, Ow => by
    have hmax := W.max
    have ha : a < up.length := by omega
    unfold s38l1
    rw [hO.len]
    refine ifT_pos (decide_eq_true (by omega)) ?_
    rw [hO.len]
    refine mkS_own (by omega) (by omega) fun ra hra => ixS_sl0 ha (chk_iff.2 ⟨rfl, ?_⟩)
    have W1 := Own.newC Ow hra (.row 1 (List.replicate up.length (.bool false)))
    have hg : (tOut up.length a nm)[a]? = some .nilsl := by
      unfold tOut
      rw [range_get _ ha, if_neg (by omega)]
    refine st_elem (W1.get 0 _ ro rfl rfl) hg rfl (s38l2_in (up.length + 1) ?_)
    have W2 := W1.put (i := 0) rfl (.row 1 ((tOut up.length a nm).set a (.sl ra 1 0 up.length)))
    have e1 : (tOut up.length a nm).set a (.sl ra 1 0 up.length) = tOut up.length (a + 1) (upd nm a ra) := by
      unfold tOut
      rw [map_set]
      refine List.map_congr_left fun x _ => ?_
      unfold upd
      by_cases e : x = a
      · subst e; rw [if_pos rfl, if_pos (by omega), if_pos rfl]
      · rw [if_neg e]
        by_cases e2 : x < a
        · rw [if_pos e2, if_pos (by omega), if_neg e]
        · rw [if_neg e2, if_neg (by omega)]
    have e2 : ((Ow_cons ro (tOut up.length a nm) (tRows up.length a nm T) ++ [Sym.Ow.cell ra (.row 1 (List.replicate up.length (.bool false)))]).set 0 (.cell ro (.row 1 (tOut up.length (a + 1) (upd nm a ra))))) = Ow_cons ro (tOut up.length (a + 1) (upd nm a ra)) (tRows up.length (a + 1) (upd nm a ra) (upd T a (fun _ => false))) := by
      show _ :: (tRows up.length a nm T ++ [_]) = _ :: _
      congr 1
      unfold tRows
      rw [List.range_succ, List.map_append]
      congr 1
      · refine List.map_congr_left fun x hx => ?_
        have := List.mem_range.1 hx
        unfold upd
        rw [if_neg (by omega), if_neg (by omega)]
      · simp only [List.map_cons, List.map_nil]
        unfold upd bRow
        rw [if_pos rfl, if_pos rfl]
        have : List.replicate up.length (AVal.bool false) = (List.range up.length).map fun _ => .bool false := by
          refine List.ext_getElem (by simp) fun i h1 h2 => ?_
          simp
        rw [this]
    rw [e1] at W2 ⊢
    rw [e2] at W2
    refine alike_l2 hmax hO ha (fun T' h' hT' W' => alike_l1 S W hV hO good d (a + 1) (by omega) _ T' h' hT' W') up.length 0 (by omega) _ _ (fun x y hx hy => ?_) (fun y hy => by omega) W2
    unfold upd
    rw [if_neg (by omega)]
    exact hT x y hx hy
theorem alike_ok (S : Small up val) (W : WF up val) (hV : Strss mV val) {o : AVal} (hO : OTab o up) (good : ∀ v T, BTab v T up.length up.length → (∀ a b, a < up.length → b < up.length → (T a b = true ↔ Bsm up val a b)) → K v h0) :
    ACalls prog 38 [.agg [mU, mV], o] h0 K := by
  have hmax := W.max
  refine s38_ok ?_
  unfold s38
  rw [hO.len]
  refine mkS_own (by omega) (by omega) fun ro hro => s38l1_in (up.length + 1) (alike_l1 S W hV hO good up.length 0 (by omega) (fun _ => 0) (fun _ _ => true) _ (fun _ _ _ _ => rfl) ?_)
  have : tOut up.length 0 (fun _ => 0) = List.replicate up.length .nilsl := by
    unfold tOut
    refine List.ext_getElem (by simp) fun i h1 h2 => ?_
    simp
  unfold AM
  rw [this]
  exact (Own.start h0).newC hro _
end Go.Proofs.Ytinficcdpggiaaa

namespace Go.Proofs.Ytinficcdpggiaaa
open Go Go.Sym Go.Proofs.Try

variable {K : AVal → Heap → Prop} {h h0 hb : Heap} {up : List (List Int)} {val : List (List ByteArray)} {mU mV : AVal}

/- ---- classes, one world after the other ---- -/
structure CP (up : List (List Int)) (val : List (List ByteArray)) (c : Nat → Nat) (a : Nat) : Prop where
  rg : RG c a
  eq : ∀ x y, x < a → y < a → (c x = c y ↔ Bsm up val x y)
theorem CP.old {c : Nat → Nat} {a b : Nat} (C : CP up val c a) (hb : b < a) (h : Bsm up val a b) : CP up val (upd c a (c b)) (a + 1) ∧ nxt (upd c a (c b)) (a + 1) = nxt c a := by
  have hl := nxt_lt (c := c) a b hb
  have e : ∀ x, x < a → upd c a (c b) x = c x := fun x hx => by unfold upd; rw [if_neg (by omega)]
  have ea : upd c a (c b) a = c b := by unfold upd; rw [if_pos rfl]
  have hn : ∀ i, i ≤ a → nxt (upd c a (c b)) i = nxt c i := fun i hi => nxt_congr i fun j hj => e j (by omega)
  refine ⟨⟨fun i hi => ?_, fun x y hx hy => ?_⟩, ?_⟩
  · by_cases e1 : i = a
    · subst e1; rw [hn _ (Nat.le_refl _), ea]; omega
    · rw [hn i (by omega), e i (by omega)]; exact C.rg i (by omega)
  · by_cases e1 : x = a
    · by_cases e2 : y = a
      · subst e1 e2; exact ⟨fun _ => .refl _, fun _ => rfl⟩
      · subst e1
        rw [ea, e y (by omega), C.eq b y hb (by omega)]
        exact ⟨fun h' => h.trans h', fun h' => h.symm.trans h'⟩
    · by_cases e2 : y = a
      · subst e2
        rw [ea, e x (by omega), C.eq x b (by omega) hb]
        exact ⟨fun h' => h'.trans h.symm, fun h' => h'.trans h⟩
      · rw [e x (by omega), e y (by omega)]; exact C.eq x y (by omega) (by omega)
  · simp only [nxt]
    rw [hn _ (Nat.le_refl _), ea]; omega
theorem CP.new {c : Nat → Nat} {a : Nat} (C : CP up val c a) (h : ∀ y, y < a → ¬ Bsm up val a y) : CP up val (upd c a (nxt c a)) (a + 1) ∧ nxt (upd c a (nxt c a)) (a + 1) = nxt c a + 1 := by
  have e : ∀ x, x < a → upd c a (nxt c a) x = c x := fun x hx => by unfold upd; rw [if_neg (by omega)]
  have ea : upd c a (nxt c a) a = nxt c a := by unfold upd; rw [if_pos rfl]
  have hn : ∀ i, i ≤ a → nxt (upd c a (nxt c a)) i = nxt c i := fun i hi => nxt_congr i fun j hj => e j (by omega)
  refine ⟨⟨fun i hi => ?_, fun x y hx hy => ?_⟩, ?_⟩
  · by_cases e1 : i = a
    · subst e1; rw [hn _ (Nat.le_refl _), ea]; omega
    · rw [hn i (by omega), e i (by omega)]; exact C.rg i (by omega)
  · by_cases e1 : x = a
    · by_cases e2 : y = a
      · subst e1 e2; exact ⟨fun _ => .refl _, fun _ => rfl⟩
      · subst e1
        have hy' : y < x := by omega
        have := nxt_lt (c := c) x y hy'
        rw [ea, e y hy']
        exact ⟨fun h' => by omega, fun h' => absurd h' (h y hy')⟩
    · by_cases e2 : y = a
      · subst e2
        have hx' : x < y := by omega
        have := nxt_lt (c := c) y x hx'
        rw [ea, e x hx']
        exact ⟨fun h' => by omega, fun h' => absurd h'.symm (h x hx')⟩
      · rw [e x (by omega), e y (by omega)]; exact C.eq x y (by omega) (by omega)
  · simp only [nxt]
    rw [hn _ (Nat.le_refl _), ea]; omega
def cT (n a : Nat) (cur : Int) (c : Nat → Nat) : List AVal := (List.range n).map fun x => .int .i64 (if x < a then ((c x : Nat) : Int) else if x = a then cur else 0)
theorem cT_set {n a : Nat} {cur cur' : Int} {c : Nat → Nat} : (cT n a cur c).set a (.int .i64 cur') = cT n a cur' c := by
  unfold cT
  rw [map_set]
  refine List.map_congr_left fun x _ => ?_
  by_cases e : x = a
  · subst e; rw [if_pos rfl, if_neg (by omega), if_pos rfl]
  · rw [if_neg e, if_neg e, if_neg e]
theorem cT_next {n a k : Nat} {c : Nat → Nat} : cT n a ((k : Nat) : Int) c = cT n (a + 1) 0 (upd c a k) := by
  unfold cT
  refine List.map_congr_left fun x _ => ?_
  unfold upd
  by_cases e : x < a
  · rw [if_pos e, if_pos (by omega), if_neg (by omega)]
  · by_cases e2 : x = a
    · subst e2; rw [if_neg e, if_pos rfl, if_pos (by omega), if_pos rfl]
    · rw [if_neg e, if_neg e2, if_neg (by omega)]
      split <;> rfl
theorem cT_get {n a x : Nat} {cur : Int} {c : Nat → Nat} (hx : x < n) : (cT n a cur c)[x]? = some (.int .i64 (if x < a then ((c x : Nat) : Int) else if x = a then cur else 0)) := range_get _ hx
section
variable {o v : AVal} {T : Nat → Nat → Bool} {ro : Nat} {c : Nat → Nat}
theorem cls_end (hn : up.length ≤ 512) {a : Nat} (ha : a < up.length) (C : CP up val c a) {k : Nat} {L3 : AVal → AVal → AVal → Int → Int → Int → Heap → Prop} {F : AVal → AVal → AVal → Int → Int → Heap → Prop} (hC : CP up val (upd c a k) (a + 1)) (hk : nxt (upd c a k) (a + 1) = nxt c a)
    (next : ∀ c' h', CP up val c' (a + 1) → Own h0 [.cell ro (.row 1 (cT up.length (a + 1) 0 c'))] h' → F o v (.sl ro 1 0 up.length) ((nxt c' (a + 1) : Nat) : Int) ((a : Int) + 1) h') {b : Int} {h : Heap} (Ow : Own h0 [.cell ro (.row 1 (cT up.length a (k : Int) c))] h) :
    s15c4 K (s15l1_G F) L3 o v (.sl ro 1 0 up.length) ((nxt c a : Nat) : Int) (a : Int) b false h := by
  unfold s15c4
  refine ifT_neg rfl (ixS_sl0 ha ?_)
  rw [ld1_ptr (Ow.get 0 _ ro rfl rfl) (cT_get ha) rfl, tInt_int, if_neg (by omega), if_pos rfl]
  refine ifT_neg (by simp) (rg_of (by omega) (by omega) (s15l1_go ?_))
  rw [cT_next] at Ow
  rw [← hk]
  exact next _ h hC Ow
theorem cls_l3 (hn : up.length ≤ 512) (hT : BTab v T up.length up.length) (hB : ∀ a b, a < up.length → b < up.length → (T a b = true ↔ Bsm up val a b)) {a : Nat} (ha : a < up.length) (C : CP up val c a) {F : AVal → AVal → AVal → Int → Int → Heap → Prop}
    (next : ∀ c' h', CP up val c' (a + 1) → Own h0 [.cell ro (.row 1 (cT up.length (a + 1) 0 c'))] h' → F o v (.sl ro 1 0 up.length) ((nxt c' (a + 1) : Nat) : Int) ((a : Int) + 1) h') :
    ∀ d b : Nat, b + d = a → (∀ y, y < b → ¬ Bsm up val a y) → ∀ h, Own h0 [.cell ro (.row 1 (cT up.length a (-1) c))] h → s15l3 K (s15l1_G F) (d + 2) o v (.sl ro 1 0 up.length) ((nxt c a : Nat) : Int) (a : Int) (b : Int) h
  | 0, b, hd, hno, h, Ow => by
    obtain rfl : b = a := by omega
    have hnl := nxt_le C.rg b (Nat.le_refl _)
    unfold s15l3 s15c4
    refine ifT_neg (by simp) (ifT_neg rfl (ixS_sl0 ha ?_))
    rw [ld1_ptr (Ow.get 0 _ ro rfl rfl) (cT_get ha) rfl, tInt_int, if_neg (by omega), if_pos rfl]
    refine ifT_pos rfl (ixS_sl0 ha (st_elem (Ow.get 0 _ ro rfl rfl) (cT_get ha) rfl (rg_of (by omega) (by omega) (rg_of (by omega) (by omega) (s15l1_go ?_)))))
    have W2 := Ow.put (i := 0) rfl (.row 1 ((cT up.length b (-1) c).set b (.int .i64 ((nxt c b : Nat) : Int))))
    rw [cT_set, cT_next] at W2 ⊢
    obtain ⟨h1, h2⟩ := C.new hno
    have := next _ _ h1 W2
    rw [h2] at this
    exact this
  | d + 1, b, hd, hno, h, Ow => by
    have hbl : b < up.length := by omega
    have hba : b < a := by omega
    obtain ⟨e, hr, he⟩ := hT.row ha (h := h)
    unfold s15l3 s15c4
    refine ifT_pos (decide_eq_true (by omega)) (ixS_sl0 ha ?_)
    rw [ld1_ptr (Ow.get 0 _ ro rfl rfl) (cT_get ha) rfl, tInt_int, if_neg (by omega), if_pos rfl]
    refine ifT_pos rfl ?_
    rw [hr, bool_row he hbl, tBool_bool]
    cases ht : T a b with
    | false =>
      refine ifT_neg rfl (rg_of (by omega) (by omega) (s15l3_go ?_))
      refine cls_l3 hn hT hB ha C next d (b + 1) (by omega) (fun y hy => ?_) h Ow
      by_cases e1 : y = b
      · subst e1
        intro hb
        rw [(hB a y ha hbl).2 hb] at ht
        cases ht
      · exact hno y (by omega)
    | true =>
      have hbs := (hB a b ha hbl).1 ht
      obtain ⟨h1, h2⟩ := C.old hba hbs
      refine ifT_pos rfl (ixS_sl0 hbl ?_)
      rw [ld1_ptr (Ow.get 0 _ ro rfl rfl) (cT_get hbl) rfl, tInt_int, if_pos hba]
      refine ixS_sl0 ha (st_elem (Ow.get 0 _ ro rfl rfl) (cT_get ha) rfl (rg_of (by omega) (by omega) (s15l3_go ?_)))
      have W2 := Ow.put (i := 0) rfl (.row 1 ((cT up.length a (-1) c).set a (.int .i64 ((c b : Nat) : Int))))
      rw [cT_set] at W2 ⊢
      unfold s15l3
      by_cases e1 : (b : Int) + 1 < (a : Int)
      · refine ifT_pos (decide_eq_true e1) (ixS_sl0 ha ?_)
        rw [ld1_ptr (W2.get 0 _ ro rfl rfl) (cT_get ha) rfl, tInt_int, if_neg (by omega), if_pos rfl]
        have e2 : decide (((c b : Nat) : Int) < 0) = false := decide_eq_false (by omega)
        rw [e2]
        exact cls_end hn ha C h1 h2 next W2
      · exact ifT_neg (decide_eq_false e1) (cls_end hn ha C h1 h2 next W2)
theorem cls_l1 (hn : up.length ≤ 512) (hO : OTab o up) (hT : BTab v T up.length up.length) (hB : ∀ a b, a < up.length → b < up.length → (T a b = true ↔ Bsm up val a b)) (good : ∀ v c, IsCls up val c → Ints v (cMap up c) → K (.tuple [v, .int .i64 0]) h0) :
    ∀ d a : Nat, a + d = up.length → ∀ c h, CP up val c a → Own h0 [.cell ro (.row 1 (cT up.length a 0 c))] h → s15l1 K (d + 1) o v (.sl ro 1 0 up.length) ((nxt c a : Nat) : Int) (a : Int) h
  | 0, a, hd, c, h, C, Ow => by
    obtain rfl : a = up.length := by omega
    unfold s15l1
    rw [hO.len]
    refine ifT_neg (by simp) ?_
    refine ⟨fun q => q = ro, .tuple [.lsl 1 (cT up.length up.length 0 c), .int .i64 0], h0, .tuple (.cons (.whole rfl (Ow.get 0 _ ro rfl rfl) (by simp [cT])) (.cons (.refl _) .nil)), Own.toBase Ow _ (fun n hn => Ow.new 0 _ n rfl hn), good _ c ⟨C.rg, C.eq⟩ ?_⟩
    have : cT up.length up.length 0 c = (cMap up c).map (.int .i64) := by
      rw [cMap_eq, List.map_map]
      unfold cT
      refine List.map_congr_left fun x hx => ?_
      rw [if_pos (List.mem_range.1 hx)]
      rfl
    rw [this]
    exact .lsl 1 _
  | d + 1, a, hd, c, h, C, Ow => by
    have ha : a < up.length := by omega
    unfold s15l1
    rw [hO.len]
    refine ifT_pos (decide_eq_true (by omega)) (ixS_sl0 ha (st_elem (Ow.get 0 _ ro rfl rfl) (cT_get ha) rfl (s15l3_in (a + 2) ?_)))
    have W2 := Ow.put (i := 0) rfl (.row 1 ((cT up.length a 0 c).set a (.int .i64 (-1))))
    rw [cT_set] at W2 ⊢
    exact cls_l3 hn hT hB ha C (fun c' h' C' W' => cls_l1 hn hO hT hB good d (a + 1) (by omega) c' h' C' W') a 0 (by omega) (fun y hy => by omega) _ W2
end
theorem classes19_ok (S : Small up val) (hU : Intss mU up) (hV : Strss mV val) (bad : ¬ WF up val → K (.tuple [.nilsl, .int .i64 170]) h0) (good : WF up val → ∀ v c, IsCls up val c → Ints v (cMap up c) → K (.tuple [v, .int .i64 0]) h0) : ACalls prog 15 [.agg [mU, mV]] h0 K := by
  refine s15_ok ?_
  unfold s15
  refine callG_of (right_ok S hU hV (fun hW => ?_) fun W o hO => ?_)
  · simp only [tTup_tuple, tCons_cons, tBool_bool, tNil_nil]
    exact ifT_pos rfl (retG_of (bad hW))
  · simp only [tTup_tuple, tCons_cons, tBool_bool, tNil_nil]
    have hmax := W.max
    refine ifT_neg rfl (callG_of (alike_ok S W hV hO fun v T hT hB => ?_))
    rw [hO.len]
    refine mkS_own (by omega) (by omega) fun ro hro => s15l1_in (up.length + 1) ?_
    refine cls_l1 hmax hO hT hB (good W) up.length 0 (by omega) (fun _ => 0) _ ⟨fun i hi => by omega, fun x y hx => by omega⟩ ?_
    have : cT up.length 0 0 (fun _ => 0) = List.replicate up.length (.int .i64 0) := by
      unfold cT
      refine List.ext_getElem (by simp) fun i h1 h2 => ?_
      simp
    rw [this]
    exact (Own.start h0).newC hro _
end Go.Proofs.Ytinficcdpggiaaa

namespace Go.Proofs.Ytinficcdpggiaaa
open Go Go.Sym Go.Proofs.Try

variable {K : AVal → Heap → Prop} {h h0 hb : Heap} {up : List (List Int)} {val : List (List ByteArray)} {c : Nat → Nat} {mU mV : AVal}

structure QD (up : List (List Int)) (c : Nat → Nat) (w j : Nat) (g : Nat → List Nat) : Prop where
  has : ∀ w' b, Reach up w' b → w' < w ∨ (w' = w ∧ b < j) → c b ≠ c w' → c b ∈ g (c w')
  src : ∀ k x, x ∈ g k → k ≠ x ∧ qR up c k x
  len : ∀ k, (g k).length ≤ w * 512 + j
theorem QD.next {w j : Nat} {g : Nat → List Nat} (G : QD up c w j g) (hw : w < up.length) (hr : Reach up w j) (hne : c j ≠ c w) : QD up c w (j + 1) (upd g (c w) (g (c w) ++ [c j])) where
  has w' b hb h hne' := by
    have old : ∀ x, x ∈ g (c w') → x ∈ upd g (c w) (g (c w) ++ [c j]) (c w') := fun x hx => by
      unfold upd
      split
      · rename_i e; rw [← e]; exact List.mem_append_left _ hx
      · exact hx
    rcases h with h | ⟨rfl, h⟩
    · exact old _ (G.has w' b hb (.inl h) hne')
    · by_cases e : b = j
      · subst e
        unfold upd
        rw [if_pos rfl]
        simp
      · exact old _ (G.has w' b hb (.inr ⟨rfl, by omega⟩) hne')
  src k x hx := by
    unfold upd at hx
    split at hx
    · rename_i e
      subst e
      rcases List.mem_append.1 hx with hx | hx
      · exact G.src _ x hx
      · rw [List.mem_singleton.1 hx]
        exact ⟨fun e => hne e.symm, w, _, hw, rfl, hr, rfl⟩
    · exact G.src _ x hx
  len k := by
    unfold upd
    split
    · have := G.len (c w)
      simp; omega
    · have := G.len k
      omega
theorem QD.skip {w j : Nat} {g : Nat → List Nat} (G : QD up c w j g) (he : Reach up w j → c j = c w) : QD up c w (j + 1) g where
  has w' b hb h hne' := by
    rcases h with h | ⟨rfl, h⟩
    · exact G.has w' b hb (.inl h) hne'
    · by_cases e : b = j
      · subst e; exact absurd (he hb) hne'
      · exact G.has w' b hb (.inr ⟨rfl, by omega⟩) hne'
  src := G.src
  len k := by have := G.len k; omega
theorem QD.row {w : Nat} {g : Nat → List Nat} (G : QD up c w up.length g) (hi : InR up) (hw : w < up.length) (hl : up.length ≤ 512) : QD up c (w + 1) 0 g where
  has w' b hb h hne' := by
    rcases h with h1 | ⟨_, h⟩
    · by_cases e : w' = w
      · subst e
        exact G.has w' b hb (.inr ⟨rfl, hb.lt hi hw⟩) hne'
      · exact G.has w' b hb (.inl (by omega)) hne'
    · omega
  src := G.src
  len k := by
    have h1 := G.len k
    rw [Nat.add_mul, Nat.one_mul, Nat.add_zero]
    exact Nat.le_trans h1 (Nat.add_le_add_left hl _)
theorem QD.rows {g : Nat → List Nat} (G : QD up c up.length 0 g) : QRows up c ((List.range (nxt c up.length)).map fun k => natI (g k)) where
  len := by simp
  step k x hk := by
    unfold Step
    rw [range_get _ hk]
    constructor
    · rintro ⟨r, hr, hx⟩
      cases hr
      obtain ⟨y, hy, e⟩ := mem_natI.1 hx
      obtain rfl : x = y := by omega
      exact G.src k x hy
    · rintro ⟨hne, w, b, hw, rfl, hb, rfl⟩
      exact ⟨_, rfl, mem_natI.2 ⟨_, G.has w b hb (.inl hw) (fun e => hne e.symm), rfl⟩⟩
  nn r hr b hb := by
    obtain ⟨k, _, rfl⟩ := List.mem_map.1 hr
    obtain ⟨y, _, rfl⟩ := mem_natI.1 hb
    omega

section
variable {cv o vV : AVal} {ro rt : Nat} {LV : List AVal}
theorem quot19_l4 (W : WF up val) (C : IsCls up val c) (hc : Ints cv (cMap up c)) (hO : OTab o up) {w : Nat} (hw : w < up.length) {F : AVal → AVal → AVal → AVal → Int → Heap → Prop}
    (next : ∀ vU f g h', QD up c (w + 1) 0 g → QM hb ro vU vV LV (nxt c up.length) f g h' → F (.ptr rt 0 0) cv o (.ptr ro 0 0) ((w : Int) + 1) h') :
    ∀ d j : Nat, j + d = up.length → ∀ vU f g h, QD up c w j g → QM hb ro vU vV LV (nxt c up.length) f g h →
      s13l4 K (s13l3_G F) (d + 1) (.ptr rt 0 0) cv o (.ptr ro 0 0) (w : Int) (j : Int) h
  | 0, j, hd, vU, f, g, h, G, Ow => by
    obtain rfl : j = up.length := by omega
    have hmax := W.max
    have hcl : (cMap up c).length = up.length := by simp [cMap, natI]
    unfold s13l4
    rw [hc.len, hcl]
    exact ifT_neg (by simp) (rg_of (by omega) (by omega) (s13l3_go (next vU f g h (G.row W.inR hw hmax) Ow)))
  | d + 1, j, hd, vU, f, g, h, G, Ow => by
    have hj : j < up.length := by omega
    have hmax := W.max
    have hcl : (cMap up c).length = up.length := by simp [cMap, natI]
    have hq := nxt_lt (c := c) _ _ hw
    have hgl := G.len (c w)
    have hg : ∀ x (hx : x < up.length), (cMap up c)[x]'(by rw [hcl]; exact hx) = ((c x : Nat) : Int) := fun x hx => by simp [cMap, natI]
    obtain ⟨e, hr, _, hi⟩ := hO.row (h' := h) hw
    have skip : (Reach up w j → c j = c w) → s13c6 K (s13l3_G F) (s13l4_G (s13l4 K (s13l3_G F) (d + 1))) (.ptr rt 0 0) cv o (.ptr ro 0 0) (w : Int) (j : Int) false h := fun hx =>
      ifT_neg rfl (rg_of (by omega) (by omega) (s13l4_go (quot19_l4 W C hc hO hw next d (j + 1) (by omega) vU f g h (G.skip hx) Ow)))
    unfold s13l4
    rw [hc.len, hcl]
    refine ifT_pos (decide_eq_true (by omega)) ?_
    rw [hr, hi j hj, tBool_bool]
    cases hrb : rb up w j with
    | false => exact ifT_neg rfl (skip fun hr => by rw [rb_iff.2 hr] at hrb; cases hrb)
    | true =>
      have hre := rb_iff.1 hrb
      refine ifT_pos rfl ?_
      rw [hc.ix (by rw [hcl]; exact hw), ld1_lptr, tInt_int, hg w hw, hc.ix (by rw [hcl]; exact hj), ld1_lptr, tInt_int, hg j hj]
      by_cases hne : c j = c w
      · have e3 : (((c w : Nat) : Int) != ((c j : Nat) : Int)) = false := bne_eq_false_iff_eq.2 (by rw [hne])
        rw [e3]
        exact skip fun _ => hne
      · have e3 : (((c w : Nat) : Int) != ((c j : Nat) : Int)) = true := bne_iff_ne.2 (by omega)
        rw [e3]
        unfold s13c6
        refine ifT_pos rfl ?_
        have hi := rowsO_get (f := f) (g := g) hq (.cell ro (.row 2 [.agg [vU, vV]])) (.slc 1 vU ((List.range (nxt c up.length)).map f)) (.slc 1 vV LV)
        rcases Ow.fit 1 _ rfl with ⟨_, e1⟩ | ⟨ru, rfl⟩
        · have : ((List.range (nxt c up.length)).map f).length = 0 := by rw [e1]; rfl
          simp at this
          omega
        have hlen : ((List.range (nxt c up.length)).map f).length = nxt c up.length := by simp
        have hget : ((List.range (nxt c up.length)).map f)[c w]? = some (f (c w)) := range_get _ hq
        have hag := (Ow.sc hi).2.2
        have rU := Ow.get 1 _ ru rfl rfl
        have rO := Ow.get 0 _ ro rfl rfl
        rw [addOff_ptr, ld1_fld rO rfl, hc.ix (by rw [hcl]; exact hw), ld1_lptr, tInt_int, hg w hw, addOff_ptr, ld1_fld rO rfl, hc.ix (by rw [hcl]; exact hw), ld1_lptr, tInt_int, hg w hw]
        refine ixS_sl0 (show c w < ((List.range (nxt c up.length)).map f).length by rw [hlen]; exact hq) ?_
        rw [ld1_ptr rU hget hag, hc.ix (by rw [hcl]; exact hj), ld1_lptr, tInt_int, hg j hj]
        refine ⟨by rw [ld1_ptr rU hget hag], by rw [ld1_lptr], by rw [ld1_fld rO rfl], by rw [ld1_lptr], by rw [ld1_fld rO rfl], Ow.app hi (by simp [natI]; omega) (by simp [natI]; omega) fun v2 h2 W2 => ?_⟩
        rw [rowsO_set] at W2
        refine ⟨by rw [ld1_lptr], by rw [ld1_fld (W2.get 0 _ ro rfl rfl) rfl], ixS_sl0 (show c w < ((List.range (nxt c up.length)).map f).length by rw [hlen]; exact hq) ?_⟩
        have hi2 := rowsO_get (f := upd f (c w) v2) (g := upd g (c w) (g (c w) ++ [c j])) hq (.cell ro (.row 2 [.agg [(.sl ru 1 0 ((List.range (nxt c up.length)).map f).length), vV]])) (.slc 1 (.sl ru 1 0 ((List.range (nxt c up.length)).map f).length) ((List.range (nxt c up.length)).map f)) (.slc 1 vV LV)
        have hsc : sc v2 = true := by
          have := (W2.sc hi2).1
          unfold upd at this
          rwa [if_pos rfl] at this
        refine chk_iff.2 ⟨hsc, st_elem (W2.get 1 _ ru rfl rfl) hget hag (rg_of (by omega) (by omega) (s13l4_go ?_))⟩
        have W3 := W2.putS (i := 1) rfl (l' := ((List.range (nxt c up.length)).map f).set (c w) v2) (by simp)
        rw [map_set] at W3 ⊢
        exact quot19_l4 W C hc hO hw next d (j + 1) (by omega) _ (upd f (c w) v2) _ _ (G.next hw hre hne) W3

theorem quot19_l3 (S : Small up val) (W : WF up val) (C : IsCls up val c) (hc : Ints cv (cMap up c)) (hO : OTab o up) (hLV : All2 Strs LV (qVal up val c)) {X Y : AVal} (ht : hb rt = some (.row 2 [.agg [X, Y]])) (hsub : ∀ q o, h0 q = some o → q ≠ rt ∧ hb q = some o)
    (good : ∀ vU vV rows, QRows up c rows → Intss vU (tidyUp rows) → Strss vV (qVal up val c) → K (.tuple [.agg [vU, vV], cv, .int .i64 0]) h0) :
    ∀ d w : Nat, w + d = up.length → ∀ vU f g h, QD up c w 0 g → QM hb ro vU vV LV (nxt c up.length) f g h → s13l3 K (d + 1) (.ptr rt 0 0) cv o (.ptr ro 0 0) (w : Int) h
  | 0, w, hd, vU, f, g, h, G, Ow => by
    obtain rfl : w = up.length := by omega
    have hmax := W.max
    have hcl : (cMap up c).length = up.length := by simp [cMap, natI]
    have Q := G.rows
    unfold s13l3
    rw [hc.len, hcl]
    refine ifT_neg (by simp) ?_
    rw [ldN2 (Ow.get 0 _ ro rfl rfl), tCons_cons, tCons_cons, tNil_nil]
    let Sg : Nat → Prop := fun n => nameOf vU n ∨ nameOf vV n ∨ ∃ k, k < nxt c up.length ∧ nameOf (f k) n
    obtain ⟨l', hl, hR⟩ := lits_rows (g := g) Ow (S := Sg) (List.range (nxt c up.length)) (fun k hk => ⟨_, rowsO_get (List.mem_range.1 hk) _ _ _⟩) (fun k hk n hn => .inr (.inr ⟨k, List.mem_range.1 hk, hn⟩))
    obtain ⟨u', lu, su⟩ := Ow.lit (i := 1) rfl (S := Sg) (fun n h => .inl h) hl
    obtain ⟨v', lv, sv⟩ := Ow.lit (i := 2) rfl (S := Sg) (fun n h => .inr (.inl h)) (Lits.refl LV)
    have hq := nxt_le C.rg up.length (Nat.le_refl _)
    have SS : Small ((List.range (nxt c up.length)).map fun k => natI (g k)) (qVal up val c) := ⟨by simp; omega, by rw [qVal_len]; omega, fun r hr => by
      obtain ⟨k, _, rfl⟩ := List.mem_map.1 hr
      have := G.len k
      simp only [natI, List.length_map]
      omega, (Q.small S W C).names⟩
    refine ⟨Sg, [.agg [u', v']], hb, .cons (.agg (.cons lu (.cons lv .nil))) .nil, Own.toBase Ow Sg (fun n hn => by
      rcases hn with hn | hn | ⟨k, hk, hn⟩
      · exact Ow.new 1 _ n rfl hn
      · exact Ow.new 2 _ n rfl hn
      · exact Ow.new (k + 3) _ n (rowsO_get hk _ _ _) hn), tidy19_ok SS ⟨_, su, hR⟩ ⟨_, sv, hLV⟩ (Q.wf W C) fun a b ha hbv => ?_⟩
    simp only [tAgg_agg, tCons_cons, tNil_nil]
    refine st_all ht rfl ?_
    rw [ldN2 (Heap.set_same _ _ _), tCons_cons, tCons_cons, tNil_nil]
    refine retG_drop (fun q o hq => ?_) (good a b _ Q ha hbv)
    rw [Heap.set_ne _ _ (hsub q o hq).1]
    exact (hsub q o hq).2
  | d + 1, w, hd, vU, f, g, h, G, Ow => by
    have hw : w < up.length := by omega
    have hcl : (cMap up c).length = up.length := by simp [cMap, natI]
    unfold s13l3
    rw [hc.len, hcl]
    refine ifT_pos (decide_eq_true (by omega)) (s13l4_in (up.length + 1) ?_)
    exact quot19_l4 W C hc hO hw (fun vU' f' g' h' G' W' => quot19_l3 S W C hc hO hLV ht hsub good d (w + 1) (by omega) vU' f' g' h' G' W') up.length 0 (by omega) vU f g h G Ow
end
section
variable {cv o : AVal} {ro rt : Nat}
theorem quot19_l1 (S : Small up val) (W : WF up val) (hV : Strss mV val) (C : IsCls up val c) (hc : Ints cv (cMap up c)) (hO : OTab o up) {X Y : AVal} (ht : hb rt = some (.row 2 [.agg [X, Y]])) (hsub : ∀ q o, h0 q = some o → q ≠ rt ∧ hb q = some o)
    (good : ∀ vU vV rows, QRows up c rows → Intss vU (tidyUp rows) → Strss vV (qVal up val c) → K (.tuple [.agg [vU, vV], cv, .int .i64 0]) h0) :
    ∀ d w : Nat, w + d = up.length → ∀ vU vV LV h, All2 Strs LV ((List.range (nxt c w)).map fun k => val.getD (rep c up.length k) []) → Own hb [.cell ro (.row 2 [.agg [vU, vV]]), .slc 1 vU (List.replicate (nxt c w) .nilsl), .slc 1 vV LV] h →
      s13l1 K (d + 1) (.lptr [mU, mV]) (.ptr rt 0 0) cv o (.ptr ro 0 0) (w : Int) h
  | 0, w, hd, vU, vV, LV, h, hLV, Ow => by
    obtain rfl : w = up.length := by omega
    have hcl : (cMap up c).length = up.length := by simp [cMap, natI]
    unfold s13l1
    rw [hc.len, hcl]
    refine ifT_neg (by simp) ?_
    refine s13l3_in (up.length + 1) (quot19_l3 (vV := vV) S W C hc hO hLV ht hsub good up.length 0 (by omega) vU (fun _ => .nilsl) (fun _ => []) h ⟨fun w' b _ hh _ => by omega, fun k x hx => by simp at hx, fun k => by simp⟩ ?_)
    have := newNs Ow (nxt c up.length)
    have e : (List.range (nxt c up.length)).map (fun _ => AVal.nilsl) = List.replicate (nxt c up.length) .nilsl := by
      refine List.ext_getElem (by simp) fun i h1 h2 => ?_
      simp
    unfold QM
    rw [e]
    exact this
  | d + 1, w, hd, vU, vV, LV, h, hLV, Ow => by
    have hw : w < up.length := by omega
    have hwl : w < val.length := by rw [W.len]; exact hw
    have hmax := W.max
    have hcl : (cMap up c).length = up.length := by simp [cMap, natI]
    have hg : (cMap up c)[w]'(by rw [hcl]; exact hw) = ((c w : Nat) : Int) := by simp [cMap, natI]
    have hrg := C.rg w hw
    have hnw := nxt_le C.rg w (by omega)
    obtain ⟨x, hx, hix⟩ := hV.ix hwl
    have hVl := hLV.length
    rw [List.length_map, List.length_range] at hVl
    unfold s13l1
    rw [hc.len, hcl]
    refine ifT_pos (decide_eq_true (by omega)) ?_
    rw [hc.ix (by rw [hcl]; exact hw), ld1_lptr, tInt_int, hg, addOff_ptr, ld1_fld (Ow.get 0 _ ro rfl rfl) rfl, Ow.len (i := 1) rfl, List.length_replicate]
    by_cases e : c w = nxt c w
    · have en : nxt c (w + 1) = nxt c w + 1 := by simp only [nxt]; omega
      refine ifT_pos (by rw [e]; simp) ?_
      rw [addOff_ptr, ld1_fld (Ow.get 0 _ ro rfl rfl) rfl]
      refine Ow.app (i := 1) rfl (by rw [List.length_replicate]; omega) (by rw [List.length_replicate]; omega) fun v2 h2 W2 => ?_
      refine chk_iff.2 ⟨(W2.sc (i := 1) rfl).1, st_fst (W2.get 0 _ ro rfl rfl) ?_⟩
      have W3 := W2.put (i := 0) rfl (.row 2 [.agg [v2, vV]])
      rw [addOff_ptr, ld1_fld (W3.get 0 _ ro rfl rfl) rfl, addOff_lptr]
      simp only [List.drop_succ_cons, List.drop_zero, ld1_lptr]
      rw [hix, ld1_lptr]
      refine chk_iff.2 ⟨hx.notAgg.2, ⟨by rw [ld1_fld (W3.get 0 _ ro rfl rfl) rfl], W3.app (i := 2) rfl (by omega) (by omega) fun v3 h3 W4 => ?_⟩⟩
      refine chk_iff.2 ⟨(W4.sc (i := 2) rfl).1, st_snd (W4.get 0 _ ro rfl rfl) (rg_of (by omega) (by omega) (s13l1_go ?_))⟩
      have W5 := W4.put (i := 0) rfl (.row 2 [.agg [v2, v3]])
      have e2 : List.replicate (nxt c w) AVal.nilsl ++ [.nilsl] = List.replicate (nxt c (w + 1)) .nilsl := by rw [en, List.replicate_succ']
      refine quot19_l1 S W hV C hc hO ht hsub good d (w + 1) (by omega) v2 v3 (LV ++ [x]) _ ?_ (by rw [← e2]; exact W5)
      rw [en, List.range_succ, List.map_append]
      refine hLV.append (.cons ?_ .nil)
      have hs := rep_spec C.rg (nxt_lt (c := c) _ _ hw)
      show Strs x (val.getD (rep c up.length (nxt c w)) [])
      rw [← e, C.valq hs.1 hw hs.2, getD_val hwl]
      exact hx
    · have en : nxt c (w + 1) = nxt c w := by simp only [nxt]; omega
      refine ifT_neg (by rw [beq_eq_false_iff_ne]; omega) (rg_of (by omega) (by omega) (s13l1_go ?_))
      exact quot19_l1 S W hV C hc hO ht hsub good d (w + 1) (by omega) vU vV LV h (by rw [en]; exact hLV) (by rw [en]; exact Ow)
end
theorem quotient19_ok (S : Small up val) (hU : Intss mU up) (hV : Strss mV val) (bad : ¬ WF up val → K (.tuple [.agg [.nilsl, .nilsl], .nilsl, .int .i64 170]) h0)
    (good : WF up val → ∀ c rows vU vV cv, IsCls up val c → QRows up c rows → Intss vU (tidyUp rows) → Strss vV (qVal up val c) → Ints cv (cMap up c) → K (.tuple [.agg [vU, vV], cv, .int .i64 0]) h0) : ACalls prog 13 [.agg [mU, mV]] h0 K := by
  refine s13_ok ?_
  unfold s13
  refine newRow_in fun rt hrt => ?_
  have ht := Heap.set_same h0 rt (.row 2 [.agg [.nilsl, .nilsl]])
  have hsub : ∀ q o, h0 q = some o → q ≠ rt ∧ (h0.set rt (.row 2 [.agg [.nilsl, .nilsl]])) q = some o := fun q o hq => ⟨(fun e => by rw [e, hrt] at hq; cases hq), Heap.set_sub hrt q o hq⟩
  refine callG_of (classes19_ok S hU hV (fun hW => ?_) (fun W cv c C hc => ?_))
  · simp only [tTup_tuple, tCons_cons, tInt_int, tNil_nil]
    exact ifT_pos rfl (fail_ok ht hsub (bad hW))
  · simp only [tTup_tuple, tCons_cons, tInt_int, tNil_nil]
    refine ifT_neg rfl (callG_of (right_ok S hU hV (fun hW => absurd W hW) fun _ o hO => ?_))
    simp only [tTup_tuple, tCons_cons, tBool_bool, tNil_nil]
    refine newRow_in fun r1 hr1 => st_all (Heap.set_same _ _ _) rfl ?_
    rw [Heap.set_set]
    refine s13l1_in (up.length + 1) ?_
    refine quot19_l1 (X := .nilsl) (Y := .nilsl) (hb := h0.set rt (.row 2 [.agg [.nilsl, .nilsl]])) S W hV C hc hO ht hsub (fun vU vV rows Q hU' hV' => good W c rows vU vV cv C Q hU' hV' hc) up.length 0 (by omega) .nilsl .nilsl [] _ .nil ?_
    exact (((Own.start _).newC hr1 (.row 2 [.agg [.nilsl, .nilsl]])).newN 1).newN 1
end Go.Proofs.Ytinficcdpggiaaa

namespace Go.Proofs.Ytinficcdpggiaaa
open Go Go.Sym Go.Proofs.Try

variable {K : AVal → Heap → Prop} {h h0 hb : Heap} {up : List (List Int)} {val : List (List ByteArray)} {mU mV : AVal}

/-- the tree of the ways up, i of its worlds looked at: the ends, the rows -/
noncomputable def ust (up : List (List Int)) (w : Nat) : Nat → List Nat × List (List Nat)
  | 0 => ([w], [])
  | i + 1 => ((ust up w i).1 ++ tidyRow up ((ust up w i).1.getD i 0), (ust up w i).2 ++ [List.range' (ust up w i).1.length (tidyRow up ((ust up w i).1.getD i 0)).length])
theorem ust_len2 (up : List (List Int)) (w : Nat) : ∀ i, (ust up w i).2.length = i
  | 0 => rfl
  | i + 1 => by simp [ust, ust_len2 up w i]
theorem tidyRow_lt {a x : Nat} (h : x ∈ tidyRow up a) : x < up.length := by
  unfold tidyRow at h
  rw [List.mem_filter, List.mem_range] at h
  exact h.1
theorem ust_lt {w : Nat} (hw : w < up.length) : ∀ i, ∀ x ∈ (ust up w i).1, x < up.length
  | 0, x, hx => by simp [ust] at hx; omega
  | i + 1, x, hx => by
    rcases List.mem_append.1 hx with hx | hx
    · exact ust_lt hw i x hx
    · exact tidyRow_lt hx
/-- the first i worlds are looked at, all of them -/
structure UDone (up : List (List Int)) (w i : Nat) : Prop where
  all : (ust up w i).1.length = i
  before : ∀ j, j < i → j < (ust up w j).1.length
  max : i ≤ 512

theorem tidyRow_len {a : Nat} : (tidyRow up a).length ≤ up.length := by
  have := List.length_filter_le (coverB up a) (List.range up.length)
  simpa [tidyRow] using this

theorem unravel_l3 (S : Small up val) (W : WF up val) {tU tV : AVal} (hV : Strss tV val) {rt ro : Nat} {X Y : AVal} (ht : hb rt = some (.row 2 [.agg [X, Y]])) (hsub : ∀ q o, h0 q = some o → q ≠ rt ∧ hb q = some o) {E : List Nat} {i : Nat} (hi : i < E.length) (hE : E.length ≤ 512) (hEl : ∀ x ∈ E, x < up.length) {e : AVal} (he : Ints e (natI (tidyRow up (E.getD i 0))))
    (bad : 512 < E.length + (tidyRow up (E.getD i 0)).length → K (.tuple [.agg [.nilsl, .nilsl], .nilsl, .int .i64 190]) h0) {vU vV : AVal} {LU LV : List AVal} (hLU : LU.length ≤ 512) (hLV : LV.length ≤ 512) {F : AVal → AVal → AVal → AVal → Int → Heap → Prop}
    (next : E.length + (tidyRow up (E.getD i 0)).length ≤ 512 → ∀ vU' vV' ve row' cp h', Ints row' (natI (List.range' E.length (tidyRow up (E.getD i 0)).length)) → Strs cp (val.getD (E.getD i 0) []) →
      Own hb [.cell ro (.row 2 [.agg [vU', vV']]), .slc 1 vU' (LU ++ [row']), .slc 1 vV' (LV ++ [cp]), .slc 1 ve ((natI (E ++ tidyRow up (E.getD i 0))).map (.int .i64))] h' → F (.ptr rt 0 0) (.lptr [tU, tV]) ve (.ptr ro 0 0) ((i : Int) + 1) h') :
    ∀ d j : Nat, j + d = (tidyRow up (E.getD i 0)).length → E.length + j ≤ 512 → ∀ row ve h, Own hb [.cell ro (.row 2 [.agg [vU, vV]]), .slc 1 vU LU, .slc 1 vV LV, .slc 1 ve ((natI (E ++ (tidyRow up (E.getD i 0)).take j)).map (.int .i64)), .slc 1 row ((natI (List.range' E.length j)).map (.int .i64))] h →
      s17l3 K (s17l2_G F) (d + 1) (.ptr rt 0 0) (.lptr [tU, tV]) ve (.ptr ro 0 0) (i : Int) row e ((tidyRow up (E.getD i 0)).length : Int) (j : Int) h
  | 0, j, hd, hj, row, ve, h, Ow => by
    obtain rfl : j = (tidyRow up (E.getD i 0)).length := by omega
    have hEi : E.getD i 0 = E[i] := by simp [List.getD, hi]
    have hvl : E.getD i 0 < val.length := by rw [W.len, hEi]; exact hEl _ (List.getElem_mem hi)
    obtain ⟨c, hc, hic⟩ := hV.ix hvl
    rw [List.take_length] at Ow
    unfold s17l3
    refine ifT_neg (by simp) ?_
    rw [addOff_ptr, ld1_fld (Ow.get 0 _ ro rfl rfl) rfl]
    refine chk_iff.2 ⟨(Ow.sc (i := 4) rfl).1, Ow.app (i := 1) rfl (by omega) (by omega) fun v2 h2 W2 => ?_⟩
    refine chk_iff.2 ⟨(W2.sc (i := 1) rfl).1, st_fst (W2.get 0 _ ro rfl rfl) ?_⟩
    have W3 := W2.put (i := 0) rfl (.row 2 [.agg [v2, vV]])
    rw [addOff_ptr, ld1_fld (W3.get 0 _ ro rfl rfl) rfl, addOff_lptr]
    simp only [List.drop_succ_cons, List.drop_zero, ld1_lptr]
    rcases W3.fit 3 _ rfl with ⟨_, e1⟩ | ⟨re, e1⟩
    · have h5 : 0 < ((natI (E ++ tidyRow up (E.getD i 0))).map (AVal.int .i64)).length := by
        simp only [natI, List.length_map, List.length_append]
        omega
      rw [e1] at h5
      exact absurd h5 (by decide)
    obtain rfl := e1
    have hlen : ((natI (E ++ tidyRow up (E.getD i 0))).map (AVal.int .i64))[i]? = some (.int .i64 ((E.getD i 0 : Nat) : Int)) := by
      simp only [natI, List.map_append, List.map_map]
      rw [List.getElem?_append_left (by simpa using hi)]
      simp [hi]
    refine ixS_sl0 (List.getElem?_eq_some_iff.1 hlen).1 ?_
    rw [ld1_ptr (W3.get 3 _ re rfl rfl) hlen rfl, tInt_int, hic, ld1_lptr]
    refine callG_of (cloneS_ok hc ((S.names _ (List.getElem_mem hvl)).1.1) fun cp hcp => ⟨by rw [ld1_fld (W3.get 0 _ ro rfl rfl) rfl], chk_iff.2 ⟨hcp.notAgg.2, ⟨by rw [ld1_fld (W3.get 0 _ ro rfl rfl) rfl], W3.app (i := 2) rfl (by omega) (by omega) fun v3 h3 W4 => ?_⟩⟩⟩)
    refine chk_iff.2 ⟨(W4.sc (i := 2) rfl).1, st_snd (W4.get 0 _ ro rfl rfl) (rg_of (by omega) (by omega) ?_)⟩
    have W5 : Own hb ([.cell ro (.row 2 [.agg [v2, v3]]), .slc 1 v2 (LU ++ [row]), .slc 1 v3 (LV ++ [cp]), .slc 1 (.sl re 1 0 ((natI (E ++ tidyRow up (E.getD i 0))).map (AVal.int .i64)).length) ((natI (E ++ tidyRow up (E.getD i 0))).map (.int .i64))] ++ [.slc 1 row ((natI (List.range' E.length (tidyRow up (E.getD i 0)).length)).map (.int .i64))]) _ := W4.put (i := 0) rfl (.row 2 [.agg [v2, v3]])
    obtain ⟨Sg, h', row', s1, g, W6⟩ := W5.settleL (i := 1) rfl
    exact ⟨Sg, _, h', Lits.refl _, g, rfl, next hj v2 v3 _ row' cp h' s1 (by rw [getD_val hvl]; exact hcp) W6⟩
  | d + 1, j, hd, hj, row, ve, h, Ow => by
    have hjl : j < (tidyRow up (E.getD i 0)).length := by omega
    have hlen : (natI (E ++ (tidyRow up (E.getD i 0)).take j)).length = E.length + j := by
      simp only [natI, List.length_map, List.length_append, List.length_take]
      omega
    unfold s17l3
    refine ifT_pos (decide_eq_true (by omega)) ?_
    rw [he.ix (i := j) (by simpa [natI] using hjl), ld1_lptr, tInt_int, Ow.len (i := 3) rfl, List.length_map, hlen]
    by_cases hbig : 512 ≤ E.length + j
    · exact ifT_pos (decide_eq_true (by omega)) (fail_ok (Ow.old _ _ ht) (fun q o hq => ⟨(hsub q o hq).1, Ow.old _ _ (hsub q o hq).2⟩) (bad (by omega)))
    · refine ifT_neg (decide_eq_false (by omega)) ?_
      rw [Ow.len (i := 3) rfl, List.length_map, hlen]
      refine Ow.app (i := 4) rfl (by simp [natI]; omega) (by simp [natI]; omega) fun row2 h2 W2 => W2.app (i := 3) rfl (by rw [List.length_map, hlen]; omega) (by rw [List.length_map, hlen]; omega) fun ve2 h3 W3 => rg_of (by omega) (by omega) (s17l3_go ?_)
      refine unravel_l3 (vU := vU) (vV := vV) S W hV ht hsub hi hE hEl he bad hLU hLV next d (j + 1) (by omega) (by omega) row2 ve2 h3 ?_
      have e1 : (natI (E ++ (tidyRow up (E.getD i 0)).take (j + 1))).map (AVal.int .i64) = (natI (E ++ (tidyRow up (E.getD i 0)).take j)).map (.int .i64) ++ [.int .i64 ((natI (tidyRow up (E.getD i 0)))[j]'(by simpa [natI] using hjl))] := by
        rw [List.take_succ_eq_append_getElem hjl]
        simp only [natI, List.map_append, List.map_cons, List.map_nil, List.append_assoc, List.getElem_map]
      have e2 : (natI (List.range' E.length (j + 1))).map (AVal.int .i64) = (natI (List.range' E.length j)).map (.int .i64) ++ [.int .i64 ((E.length + j : Nat) : Int)] := by
        simp [natI, List.range'_concat]
      rw [e1, e2]
      exact W3
end Go.Proofs.Ytinficcdpggiaaa

namespace Go.Proofs.Ytinficcdpggiaaa
open Go Go.Sym Go.Proofs.Try

variable {K : AVal → Heap → Prop} {h h0 hb : Heap} {up : List (List Int)} {val : List (List ByteArray)} {mU mV : AVal}

theorem renum5b {hb h : Heap} {a b c d e : Ow} (W : Own hb [a, b, c, d, e] h) : Own hb [c, d, e, b, a] h :=
  W.renum _ (fun j => if j = 0 then 2 else if j = 1 then 3 else if j = 2 then 4 else if j = 3 then 1 else if j = 4 then 0 else j) (fun j y hj => by
    match j, hj with
    | 0, hj => exact hj
    | 1, hj => exact hj
    | 2, hj => exact hj
    | 3, hj => exact hj
    | 4, hj => exact hj
    | j + 5, hj => simp at hj) (show ∀ j, j < 5 → ∀ k, k < 5 → _ = _ → j = k by decide)
theorem unravel_l2 (S : Small up val) (W : WF up val) {tU tV : AVal} (hU : Intss tU (tidyUp up)) (hV : Strss tV val) {rt ro x : Nat} (hx : x < up.length) {X Y : AVal} (ht : hb rt = some (.row 2 [.agg [X, Y]])) (hsub : ∀ q o, h0 q = some o → q ≠ rt ∧ hb q = some o)
    (bad : ∀ i, (∀ j, j ≤ i → j < (ust up x j).1.length) → 512 < (ust up x (i + 1)).1.length → K (.tuple [.agg [.nilsl, .nilsl], .nilsl, .int .i64 190]) h0)
    (good : ∀ i, UDone up x i → ∀ vU vV ve, Intss vU ((ust up x i).2.map natI) → Strss vV ((ust up x i).1.map fun y => val.getD y []) → Ints ve (natI (ust up x i).1) → K (.tuple [.agg [vU, vV], ve, .int .i64 0]) h0) :
    ∀ d i : Nat, i + d = 512 → i ≤ (ust up x i).1.length → (ust up x i).1.length ≤ 512 → (∀ j, j < i → j < (ust up x j).1.length) → ∀ vU vV ve LU LV h, All2 Ints LU ((ust up x i).2.map natI) → All2 Strs LV (((ust up x i).1.take i).map fun y => val.getD y []) →
      Own hb [.cell ro (.row 2 [.agg [vU, vV]]), .slc 1 vU LU, .slc 1 vV LV, .slc 1 ve ((natI (ust up x i).1).map (.int .i64))] h → s17l2 K (d + 1) (.ptr rt 0 0) (.lptr [tU, tV]) ve (.ptr ro 0 0) (i : Int) h := by
  have fin : ∀ i d, (ust up x i).1.length = i → i ≤ 512 → (∀ j, j < i → j < (ust up x j).1.length) → ∀ vU vV ve LU LV h, All2 Ints LU ((ust up x i).2.map natI) → All2 Strs LV (((ust up x i).1.take i).map fun y => val.getD y []) →
      Own hb [.cell ro (.row 2 [.agg [vU, vV]]), .slc 1 vU LU, .slc 1 vV LV, .slc 1 ve ((natI (ust up x i).1).map (.int .i64))] h → s17l2 K (d + 1) (.ptr rt 0 0) (.lptr [tU, tV]) ve (.ptr ro 0 0) (i : Int) h := by
    intro i d hall hi hbef vU vV ve LU LV h hLU hLV Ow
    unfold s17l2
    rw [Ow.len (i := 3) rfl, List.length_map, show (natI (ust up x i).1).length = i by simp only [natI, List.length_map]; exact hall]
    refine ifT_neg (by simp) ?_
    rw [ldN2 (Ow.get 0 _ ro rfl rfl), tCons_cons, tCons_cons, tNil_nil]
    refine st_all (Ow.old _ _ ht) rfl ?_
    rw [ldN2 (Heap.set_same _ _ _), tCons_cons, tCons_cons, tNil_nil]
    have W2 := Ow.base (x := .row 2 [.agg [vU, vV]]) ht
    let Sg : Nat → Prop := fun n => nameOf vU n ∨ nameOf vV n ∨ nameOf ve n
    obtain ⟨u', lu, su⟩ := W2.lit (i := 1) rfl (S := Sg) (fun n h => .inl h) (Lits.refl LU)
    obtain ⟨v', lv, sv⟩ := W2.lit (i := 2) rfl (S := Sg) (fun n h => .inr (.inl h)) (Lits.refl LV)
    obtain ⟨e', le, se⟩ := W2.lit (i := 3) rfl (S := Sg) (fun n h => .inr (.inr h)) (Lits.refl _)
    rw [List.take_of_length_le (by omega)] at hLV
    refine ⟨Sg, .tuple [.agg [u', v'], e', .int .i64 0], h0, .tuple (.cons (.agg (.cons lu (.cons lv .nil))) (.cons le (.cons (.refl _) .nil))), ⟨fun _ _ => trivial, fun q o hq => ⟨o, ?_, fun hs => ?_, .refl o⟩⟩, good i ⟨hall, hbef, hi⟩ u' v' e' ⟨_, su, hLU⟩ ⟨_, sv, hLV⟩ se⟩
    · rw [Heap.set_ne _ _ (hsub q o hq).1]
      exact Ow.old q o (hsub q o hq).2
    · have h1 := hsub q o hq
      rcases hs with hs | hs | hs
      · rw [Ow.new 1 _ q rfl hs] at h1; cases h1.2
      · rw [Ow.new 2 _ q rfl hs] at h1; cases h1.2
      · rw [Ow.new 3 _ q rfl hs] at h1; cases h1.2
  intro d
  induction d with
  | zero =>
    intro i hd hiE hE hbef vU vV ve LU LV h hLU hLV Ow
    exact fin i 0 (by omega) (by omega) hbef vU vV ve LU LV h hLU hLV Ow
  | succ d ih =>
    intro i hd hiE hE hbef vU vV ve LU LV h hLU hLV Ow
    by_cases hlt : i < (ust up x i).1.length
    · have hEl := ust_lt hx i
      have hgd : (ust up x i).1.getD i 0 = (ust up x i).1[i] := by simp [List.getD, hlt]
      have hgl : (ust up x i).1.getD i 0 < up.length := by rw [hgd]; exact hEl _ (List.getElem_mem hlt)
      have hUl := hLU.length
      have hVl := hLV.length
      rw [List.length_map, ust_len2] at hUl
      rw [List.length_map, List.length_take] at hVl
      obtain ⟨e, he, hie⟩ := hU.ix (i := (ust up x i).1.getD i 0) (by rw [tidyUp_len]; exact hgl)
      have het : (tidyUp up)[(ust up x i).1.getD i 0]'(by rw [tidyUp_len]; exact hgl) = natI (tidyRow up ((ust up x i).1.getD i 0)) := by simp [tidyUp]
      rw [het] at he
      have hnl : (natI (ust up x i).1).length = (ust up x i).1.length := by simp only [natI, List.length_map]
      unfold s17l2
      rw [Ow.len (i := 3) rfl, List.length_map, hnl]
      refine ifT_pos (decide_eq_true (by omega)) ?_
      rw [addOff_lptr]
      simp only [List.drop_zero, ld1_lptr]
      rcases Ow.fit 3 _ rfl with ⟨_, e1⟩ | ⟨re, e1⟩
      · have h5 : 0 < ((natI (ust up x i).1).map (AVal.int .i64)).length := by
          rw [List.length_map, hnl]
          omega
        rw [e1] at h5
        exact absurd h5 (by decide)
      obtain rfl := e1
      have hget : ((natI (ust up x i).1).map (AVal.int .i64))[i]? = some (.int .i64 (((ust up x i).1.getD i 0 : Nat) : Int)) := by
        rw [hgd]
        simp [natI, hlt]
      refine ixS_sl0 (List.getElem?_eq_some_iff.1 hget).1 ?_
      rw [ld1_ptr (Ow.get 3 _ re rfl rfl) hget rfl, tInt_int, hie, ld1_lptr, he.len, show (natI (tidyRow up ((ust up x i).1.getD i 0))).length = (tidyRow up ((ust up x i).1.getD i 0)).length by simp only [natI, List.length_map]]
      refine s17l3_in ((tidyRow up ((ust up x i).1.getD i 0)).length + 1) ?_
      have hsucc : (ust up x (i + 1)).1.length = (ust up x i).1.length + (tidyRow up ((ust up x i).1.getD i 0)).length := by
        simp only [ust, List.length_append]
      refine unravel_l3 (E := (ust up x i).1) (LU := LU) (LV := LV) (vU := vU) (vV := vV) S W hV ht hsub hlt hE hEl he (fun hb2 => bad i (fun j hj => ?_) (by omega)) (by omega) (by omega) (fun hfit vU' vV' ve' row' cp h' hr hc W' => ?_) _ 0 (by omega) (by omega) .nilsl _ h ?_
      · by_cases e2 : j = i
        · subst e2; exact hlt
        · exact hbef j (by omega)
      · refine ih (i + 1) (by omega) (by omega) (by omega) (fun j hj => ?_) vU' vV' ve' _ _ h' ?_ ?_ W'
        · by_cases e2 : j = i
          · subst e2; exact hlt
          · exact hbef j (by omega)
        · simp only [ust, List.map_append, List.map_cons, List.map_nil]
          exact hLU.append (.cons hr .nil)
        · have e3 : (ust up x (i + 1)).1.take (i + 1) = (ust up x i).1.take i ++ [(ust up x i).1.getD i 0] := by
            simp only [ust]
            rw [List.take_append_of_le_length (by omega), List.take_succ_eq_append_getElem hlt, hgd]
          rw [e3, List.map_append]
          exact hLV.append (.cons hc .nil)
      · rw [List.take_zero, List.append_nil]
        exact Ow.newN 1
    · exact fin i (d + 1) (by omega) (by omega) hbef vU vV ve LU LV h hLU hLV Ow

theorem unravel_ok (S : Small up val) (hU : Intss mU up) (hV : Strss mV val) (w : Int) (bad1 : ¬ WF up val → K (.tuple [.agg [.nilsl, .nilsl], .nilsl, .int .i64 170]) h0) (out : WF up val → ¬ (0 ≤ w ∧ w < up.length) → K (.tuple [.agg [.nilsl, .nilsl], .nilsl, .int .i64 2]) h0)
    (bad : WF up val → ∀ x : Nat, w = x → x < up.length → ∀ i, (∀ j, j ≤ i → j < (ust up x j).1.length) → 512 < (ust up x (i + 1)).1.length → K (.tuple [.agg [.nilsl, .nilsl], .nilsl, .int .i64 190]) h0)
    (good : WF up val → ∀ x : Nat, w = x → x < up.length → ∀ i, UDone up x i → ∀ vU vV ve, Intss vU ((ust up x i).2.map natI) → Strss vV ((ust up x i).1.map fun y => val.getD y []) → Ints ve (natI (ust up x i).1) → K (.tuple [.agg [vU, vV], ve, .int .i64 0]) h0) :
    ACalls prog 17 [.agg [mU, mV], .int .i64 w] h0 K := by
  refine s17_ok ?_
  unfold s17
  refine newRow_in fun rt hrt => ?_
  have ht := Heap.set_same h0 rt (.row 2 [.agg [.nilsl, .nilsl]])
  have hsub : ∀ q o, h0 q = some o → q ≠ rt ∧ (h0.set rt (.row 2 [.agg [.nilsl, .nilsl]])) q = some o := fun q o hq => ⟨(fun e => by rw [e, hrt] at hq; cases hq), Heap.set_sub hrt q o hq⟩
  refine callG_of (tidy_ok S hU hV (fun hW => ?_) (fun W tU tV hTU hTV => ?_))
  · simp only [tTup_tuple, tCons_cons, tInt_int, tNil_nil, tAgg_agg]
    refine newRow_in fun r1 hr1 => st_all (Heap.set_same _ _ _) rfl (ifT_pos rfl ?_)
    rw [Heap.set_set]
    exact fail_ok (Heap.set_sub hr1 _ _ ht) (fun q o hq => ⟨(hsub q o hq).1, Heap.set_sub hr1 _ _ (hsub q o hq).2⟩) (bad1 hW)
  · simp only [tTup_tuple, tCons_cons, tInt_int, tNil_nil, tAgg_agg]
    refine newRow_in fun r1 hr1 => st_all (Heap.set_same _ _ _) rfl (ifT_neg rfl ?_)
    rw [Heap.set_set]
    have hbb : ∀ {c : Int}, K (.tuple [.agg [.nilsl, .nilsl], .nilsl, .int .i64 2]) h0 → s17c1 K c (.ptr rt 0 0) (.ptr r1 0 0) true ((h0.set rt (.row 2 [.agg [.nilsl, .nilsl]])).set r1 (.row 2 [.agg [tU, tV]])) := fun hk =>
      ifT_pos rfl (fail_ok (Heap.set_sub hr1 _ _ ht) (fun q o hq => ⟨(hsub q o hq).1, Heap.set_sub hr1 _ _ (hsub q o hq).2⟩) hk)
    by_cases h1 : w < 0
    · exact ifT_pos (decide_eq_true h1) (hbb (out W (by omega)))
    · refine ifT_neg (decide_eq_false h1) ?_
      rw [ld1_fld (Heap.set_same _ _ _) rfl, hTU.len, tidyUp_len]
      by_cases h2 : (up.length : Int) ≤ w
      · rw [decide_eq_true h2]
        exact hbb (out W (by omega))
      · rw [decide_eq_false h2]
        obtain ⟨x, rfl⟩ := Int.eq_ofNat_of_zero_le (by omega : 0 ≤ w)
        have hx : x < up.length := by omega
        refine ifT_neg rfl (newRow_in fun r2 h2 => newRow_in fun r3 h3 => ?_)
        have W1 := (((((Own.start (h0.set rt (.row 2 [.agg [.nilsl, .nilsl]]))).newC hr1 (.row 2 [.agg [tU, tV]])).newS h2 [.int .i64 (x : Int)]).newC h3 (.row 2 [.agg [.nilsl, .nilsl]])).newN 1).newN 1
        obtain ⟨h4, g4, W4, lit⟩ := freezeC (os := [.cell r3 (.row 2 [.agg [.nilsl, .nilsl]]), .slc 1 .nilsl [], .slc 1 .nilsl [], .slc 1 (.sl r2 1 0 1) [.int .i64 (x : Int)]]) (cs := [tU, tV]) (renum5b W1)
        refine ⟨_, [.ptr rt 0 0, .lptr [tU, tV], .sl r2 1 0 1, .ptr r3 0 0, .int .i64 0], h4, .cons (.refl _) (.cons lit (Lits.refl _)), g4, rfl, 513, ?_⟩
        exact unravel_l2 S W hTU hTV hx ht hsub (bad W x rfl hx) (good W x rfl hx) 512 0 (by omega) (by omega) (by simp [ust]) (by intro j hj; omega) .nilsl .nilsl (.sl r2 1 0 1) [] [] h4 .nil .nil W4
end Go.Proofs.Ytinficcdpggiaaa

namespace Go.Proofs.Ytinficcdpggiaaa
open Go Go.Sym Go.Proofs.Try

variable {up : List (List Int)} {val : List (List ByteArray)} {w : Nat}

theorem ust_pre : ∀ (n j : Nat), j ≤ n → ∃ t, (ust up w n).1 = (ust up w j).1 ++ t
  | 0, j, h => by
    obtain rfl : j = 0 := by omega
    exact ⟨[], by simp⟩
  | n + 1, j, h => by
    by_cases e : j = n + 1
    · subst e; exact ⟨[], by simp⟩
    · obtain ⟨t, ht⟩ := ust_pre n j (by omega)
      exact ⟨t ++ tidyRow up ((ust up w n).1.getD n 0), by show (ust up w n).1 ++ _ = _; rw [ht, List.append_assoc]⟩
theorem ust_get {n j k : Nat} (hj : j ≤ n) (hk : k < (ust up w j).1.length) : (ust up w n).1.getD k 0 = (ust up w j).1.getD k 0 := by
  obtain ⟨t, ht⟩ := ust_pre (up := up) (w := w) n j hj
  rw [ht, List.getD_eq_getElem?_getD, List.getElem?_append_left hk, ← List.getD_eq_getElem?_getD]
theorem ust_row : ∀ (n j : Nat), j < n → (ust up w n).2[j]? = some (List.range' (ust up w j).1.length (tidyRow up ((ust up w j).1.getD j 0)).length)
  | 0, j, h => by omega
  | n + 1, j, h => by
    have hl := ust_len2 up w n
    by_cases e : j = n
    · subst e
      show ((ust up w j).2 ++ [_])[j]? = _
      rw [List.getElem?_append_right (by omega)]
      simp [hl]
    · show ((ust up w n).2 ++ [_])[j]? = _
      rw [List.getElem?_append_left (by omega)]
      exact ust_row n j (by omega)
noncomputable def treeUp (up : List (List Int)) (w i : Nat) : List (List Int) := (ust up w i).2.map natI
theorem treeUp_len {i : Nat} : (treeUp up w i).length = i := by simp [treeUp, ust_len2]
theorem ust_succ_len {j : Nat} : (ust up w (j + 1)).1.length = (ust up w j).1.length + (tidyRow up ((ust up w j).1.getD j 0)).length := by simp only [ust, List.length_append]
theorem ust_len_le {n j : Nat} (hj : j ≤ n) : (ust up w j).1.length ≤ (ust up w n).1.length := by
  obtain ⟨t, ht⟩ := ust_pre (up := up) (w := w) n j hj
  rw [ht, List.length_append]; omega
theorem ust_new {j t : Nat} (ht : t < (tidyRow up ((ust up w j).1.getD j 0)).length) : (ust up w (j + 1)).1.getD ((ust up w j).1.length + t) 0 = (tidyRow up ((ust up w j).1.getD j 0))[t] := by
  show ((ust up w j).1 ++ _).getD _ 0 = _
  rw [List.getD_eq_getElem?_getD, List.getElem?_append_right (by omega), Nat.add_sub_cancel_left, List.getElem?_eq_getElem ht]
  rfl
/-- a step in the tree is a step next above -/
theorem tree_step {i : Nat} (D : UDone up w i) {a b : Nat} : Step (treeUp up w i) a b ↔ a < i ∧ ∃ t, ∃ ht : t < (tidyRow up ((ust up w i).1.getD a 0)).length, b = (ust up w a).1.length + t ∧ b < i ∧ a < b ∧ (ust up w i).1.getD b 0 = (tidyRow up ((ust up w i).1.getD a 0))[t] := by
  constructor
  · rintro ⟨r, hr, hb⟩
    have ha : a < i := by
      have := (List.getElem?_eq_some_iff.1 hr).1
      rwa [treeUp_len] at this
    have hg := ust_get (up := up) (w := w) (Nat.le_of_lt ha) (D.before a ha)
    unfold treeUp at hr
    rw [List.getElem?_map, ust_row i a ha] at hr
    simp only [Option.map_some, Option.some.injEq] at hr
    subst hr
    obtain ⟨k, hk, e⟩ := mem_natI.1 hb
    obtain rfl : b = k := by omega
    rw [List.mem_range'_1] at hk
    have hbe := D.before a ha
    have h1 := ust_succ_len (up := up) (w := w) (j := a)
    have h2 := ust_len_le (up := up) (w := w) (n := i) (j := a + 1) (by omega)
    rw [D.all] at h2
    have htt : b - (ust up w a).1.length < (tidyRow up ((ust up w a).1.getD a 0)).length := by omega
    refine ⟨ha, b - (ust up w a).1.length, by rw [hg]; exact htt, by omega, by omega, by omega, ?_⟩
    have h3 := ust_new (up := up) (w := w) (j := a) htt
    rw [show (ust up w a).1.length + (b - (ust up w a).1.length) = b by omega] at h3
    rw [ust_get (n := i) (j := a + 1) (by omega) (by omega), h3]
    simp only [hg]
  · rintro ⟨ha, t, ht, rfl, hbi, _, _⟩
    have hg := ust_get (up := up) (w := w) (Nat.le_of_lt ha) (D.before a ha)
    rw [hg] at ht
    refine ⟨natI (List.range' (ust up w a).1.length (tidyRow up ((ust up w a).1.getD a 0)).length), ?_, mem_natI.2 ⟨_, ?_, rfl⟩⟩
    · unfold treeUp
      rw [List.getElem?_map, ust_row i a ha]
      rfl
    · rw [List.mem_range'_1]; omega
theorem mem_tidyRow (hi : InR up) {a b : Nat} (ha : a < up.length) : b ∈ tidyRow up a ↔ Step (tidyUp up) a b := by
  rw [tidy_step hi]
  unfold tidyRow
  rw [List.mem_filter, List.mem_range]
  exact ⟨fun h => ⟨ha, h.1, h.2⟩, fun h => ⟨h.2.1, h.2.2⟩⟩
theorem end_lt {i : Nat} (hw : w < up.length) (D : UDone up w i) {a : Nat} (ha : a < i) : (ust up w i).1.getD a 0 < up.length := by
  have hl : a < (ust up w i).1.length := by rw [D.all]; exact ha
  rw [List.getD_eq_getElem?_getD, List.getElem?_eq_getElem hl]
  exact ust_lt hw i _ (List.getElem_mem hl)
theorem tree_reach (W : WF up val) (hw : w < up.length) {i : Nat} (D : UDone up w i) {a b : Nat} (ha : a < i) (h : Reach (treeUp up w i) a b) : b < i ∧ a ≤ b ∧ Reach up ((ust up w i).1.getD a 0) ((ust up w i).1.getD b 0) := by
  induction h with
  | refl => exact ⟨ha, Nat.le_refl _, .refl⟩
  | @tail b c _ hs ih =>
    obtain ⟨hb, t, ht, _, hc, hlt, e⟩ := (tree_step D).1 hs
    obtain ⟨_, h2, h3⟩ := ih
    refine ⟨hc, by omega, h3.trans ?_⟩
    have hbl := end_lt hw D hb
    have := (mem_tidyRow W.inR hbl).1 (List.getElem_mem ht)
    rw [← e] at this
    exact (reach_tidy W hbl).1 (.tail .refl this)
theorem tree_back (W : WF up val) (hw : w < up.length) {i : Nat} (D : UDone up w i) {a c : Nat} (ha : a < i) (h : Reach up ((ust up w i).1.getD a 0) c) : ∃ b, Reach (treeUp up w i) a b ∧ (ust up w i).1.getD b 0 = c := by
  have hal := end_lt hw D ha
  have h' := (reach_tidy W hal).2 h
  clear h
  induction h' with
  | refl => exact ⟨a, .refl, rfl⟩
  | @tail b c _ hs ih =>
    obtain ⟨k, hk, rfl⟩ := ih
    have hki := (tree_reach W hw D ha hk).1
    have hkl := end_lt hw D hki
    have hm := (mem_tidyRow W.inR hkl).2 hs
    obtain ⟨t, ht, rfl⟩ := List.mem_iff_getElem.1 hm
    have hg := ust_get (up := up) (w := w) (Nat.le_of_lt hki) (D.before k hki)
    have hbe := D.before k hki
    have h1 := ust_succ_len (up := up) (w := w) (j := k)
    have h2 := ust_len_le (up := up) (w := w) (n := i) (j := k + 1) (by omega)
    rw [D.all] at h2
    rw [← hg] at h1
    have e3 : (ust up w i).1.getD ((ust up w k).1.length + t) 0 = (tidyRow up ((ust up w i).1.getD k 0))[t] := by
      have ht2 := ht
      rw [hg] at ht2
      rw [ust_get (n := i) (j := k + 1) (by omega) (by rw [ust_succ_len, ← hg]; omega), ust_new ht2]
      simp only [hg]
    exact ⟨(ust up w k).1.length + t, hk.tail ((tree_step D).2 ⟨hki, t, ht, rfl, by omega, by omega, e3⟩), e3⟩
end Go.Proofs.Ytinficcdpggiaaa

namespace Go.Proofs.Ytinficcdpggiaaa
open Go Go.Sym Go.Proofs.Try

variable {up : List (List Int)} {val : List (List ByteArray)} {w i : Nat}

noncomputable def treeVal (up : List (List Int)) (val : List (List ByteArray)) (w i : Nat) : List (List ByteArray) := (ust up w i).1.map fun y => val.getD y []
theorem treeVal_len (D : UDone up w i) : (treeVal up val w i).length = i := by unfold treeVal; rw [List.length_map]; exact D.all
theorem treeVal_get (D : UDone up w i) {a : Nat} (ha : a < i) : (treeVal up val w i).getD a [] = val.getD ((ust up w i).1.getD a 0) [] := by
  have hl : a < (ust up w i).1.length := by rw [D.all]; exact ha
  unfold treeVal
  rw [List.getD_eq_getElem?_getD, List.getElem?_map, List.getElem?_eq_getElem hl, List.getD_eq_getElem?_getD (l := (ust up w i).1), List.getElem?_eq_getElem hl]
  rfl
theorem tree_pos (D : UDone up w i) : 1 ≤ i := by
  have := D.all
  by_cases e : i = 0
  · subst e; simp [ust] at this
  · omega
theorem tree_inR (D : UDone up w i) : InR (treeUp up w i) := fun r hr b hb => by
  obtain ⟨a, ha, e⟩ := List.mem_iff_getElem.1 hr
  have hr' : (treeUp up w i)[a]? = some r := by rw [List.getElem?_eq_getElem ha, e]
  have hb0 : 0 ≤ b := by
    unfold treeUp at hr
    obtain ⟨R, _, rfl⟩ := List.mem_map.1 hr
    obtain ⟨k, _, rfl⟩ := mem_natI.1 hb
    omega
  have := (tree_step D (a := a) (b := b.toNat)).1 ⟨r, hr', by rw [Int.toNat_of_nonneg hb0]; exact hb⟩
  obtain ⟨_, _, _, _, hbi, _, _⟩ := this
  rw [treeUp_len]
  omega
theorem tree_wf (W : WF up val) (hw : w < up.length) (D : UDone up w i) : WF (treeUp up w i) (treeVal up val w i) where
  pos := by rw [treeUp_len]; exact tree_pos D
  max := by rw [treeUp_len]; exact D.max
  len := by rw [treeUp_len, treeVal_len D]
  inR := tree_inR D
  fine l hl := by
    unfold treeVal at hl
    obtain ⟨y, hy, rfl⟩ := List.mem_map.1 hl
    have hyl : y < val.length := by rw [W.len]; exact ust_lt hw i y hy
    rw [getD_val hyl]
    exact W.fine _ (List.getElem_mem hyl)
  cond a b ha hb := by
    rw [treeUp_len] at ha hb
    intro h hne
    obtain ⟨_, hab, hR⟩ := tree_reach W hw D ha h
    refine ⟨fun h' => ?_, ?_⟩
    · obtain ⟨_, hba, _⟩ := tree_reach W hw D hb h'
      omega
    · rw [treeVal_get D ha, treeVal_get D hb]
      by_cases e : (ust up w i).1.getD a 0 = (ust up w i).1.getD b 0
      · rw [e]; exact fun s hs => hs
      · exact (W.cond _ _ (end_lt hw D ha) (end_lt hw D hb) hR e).2
theorem tree_fit (hw : w < up.length) (D : UDone up w i) : FitF (treeUp up w i) up (natI (ust up w i).1) where
  len := by rw [treeUp_len]; simp only [natI, List.length_map]; exact D.all
  rng x hx := by
    obtain ⟨k, hk, rfl⟩ := mem_natI.1 hx
    have := ust_lt hw i k hk
    omega
theorem tree_isB (W : WF up val) (hw : w < up.length) (D : UDone up w i) : IsB (treeUp up w i) (treeVal up val w i) up val (natI (ust up w i).1) := by
  intro a ha
  rw [treeUp_len] at ha
  have hl : ∀ b, b < i → gOf (natI (ust up w i).1) b = (ust up w i).1.getD b 0 := fun b hb => gOf_nat (by rw [D.all]; exact hb)
  rw [hl a ha]
  refine ⟨treeVal_get D ha, fun b hb => ?_, fun c hc => ?_⟩
  · obtain ⟨hbi, _, hR⟩ := tree_reach W hw D ha hb
    rw [hl b hbi]
    exact hR
  · obtain ⟨b, hb, e⟩ := tree_back W hw D ha hc
    exact ⟨b, hb, by rw [hl b (tree_reach W hw D ha hb).1]; exact e⟩
theorem tree_small (S : Small up val) (W : WF up val) (hw : w < up.length) (D : UDone up w i) : Small (treeUp up w i) (treeVal up val w i) where
  ups := by have := D.max; rw [treeUp_len]; omega
  vals := by have := D.max; rw [treeVal_len D]; omega
  row r hr := by
    obtain ⟨a, ha, e⟩ := List.mem_iff_getElem.1 hr
    rw [treeUp_len] at ha
    have h1 : (treeUp up w i)[a]? = some (natI (List.range' (ust up w a).1.length (tidyRow up ((ust up w a).1.getD a 0)).length)) := by
      unfold treeUp
      rw [List.getElem?_map, ust_row i a ha]
      rfl
    rw [List.getElem?_eq_getElem (by rw [treeUp_len]; exact ha), e] at h1
    cases h1
    have h2 := tidyRow_len (up := up) (a := (ust up w a).1.getD a 0)
    have h3 := W.max
    simp only [natI, List.length_map, List.length_range']
    omega
  names l hl := by
    unfold treeVal at hl
    obtain ⟨y, hy, rfl⟩ := List.mem_map.1 hl
    have hyl : y < val.length := by rw [W.len]; exact ust_lt hw i y hy
    rw [getD_val hyl]
    exact S.names _ (List.getElem_mem hyl)
end Go.Proofs.Ytinficcdpggiaaa

namespace Go.Proofs.Ytinficcdpggiaaa
open Go Go.Sym Go.Proofs.Try

variable {K : AVal → Heap → Prop} {h h0 hb : Heap} {up : List (List Int)} {val : List (List ByteArray)} {mU mV : AVal}

/- ---- a tree is tidy ---- -/
theorem tree_one {w i : Nat} (D : UDone up w i) {a a' b : Nat} (h : Step (treeUp up w i) a b) (h' : Step (treeUp up w i) a' b) : a = a' := by
  have main : ∀ x y, Step (treeUp up w i) x b → Step (treeUp up w i) y b → ¬ x < y := by
    intro x y hx hy hlt
    obtain ⟨hxi, t, ht, e, _, _, _⟩ := (tree_step D).1 hx
    obtain ⟨hyi, t', ht', e', _, _, _⟩ := (tree_step D).1 hy
    have h1 := ust_succ_len (up := up) (w := w) (j := x)
    have h2 := ust_len_le (up := up) (w := w) (n := y) (j := x + 1) (by omega)
    rw [ust_get (n := i) (j := x) (by omega) (D.before x hxi)] at ht
    omega
  have h1 := main a a' h h'
  have h2 := main a' a h' h
  omega
theorem tree_cover (W : WF up val) {w i : Nat} (hw : w < up.length) (D : UDone up w i) {a b : Nat} (ha : a < i) (hb : b < i) : coverB (treeUp up w i) a b = true ↔ Step (treeUp up w i) a b := by
  have hl : (treeUp up w i).length = i := treeUp_len
  unfold coverB startB
  rw [Bool.and_eq_true, Bool.and_eq_true, bne_iff_ne, rb_iff, List.all_eq_true]
  constructor
  · rintro ⟨⟨hne, hr⟩, hall⟩
    cases hr with
    | refl => exact absurd rfl hne
    | @tail c _ hac hs =>
      by_cases e : c = a
      · subst e; exact hs
      · obtain ⟨hci, _, _⟩ := tree_reach W hw D ha hac
        have hcb : c ≠ b := fun e => by
          obtain ⟨_, _, _, _, _, hlt, _⟩ := (tree_step D).1 hs
          omega
        have := hall c (List.mem_range.2 (by rw [hl]; exact hci))
        unfold okc at this
        rw [show (c == a) = false by simpa using e, show (c == b) = false by simpa using hcb, rb_iff.2 hac, rb_iff.2 (.tail .refl hs)] at this
        cases this
  · intro hs
    obtain ⟨_, _, _, _, _, hlt, _⟩ := (tree_step D).1 hs
    refine ⟨⟨by omega, .tail .refl hs⟩, fun c hc => ?_⟩
    have hc := List.mem_range.1 hc
    rw [hl] at hc
    unfold okc
    cases e1 : (c == a) with
    | true => rfl
    | false =>
      cases e2 : (c == b) with
      | true => rfl
      | false =>
        cases e3 : rb (treeUp up w i) a c with
        | false => rfl
        | true =>
          cases e4 : rb (treeUp up w i) c b with
          | false => rfl
          | true =>
            exfalso
            have h1 := (tree_reach W hw D ha (rb_iff.1 e3)).2.1
            have h2 := rb_iff.1 e4
            cases h2 with
            | refl => simp at e2
            | @tail d _ hcd hs' =>
              have := tree_one D hs hs'
              subst this
              have h3 := (tree_reach W hw D hc hcd).2.1
              simp at e1
              omega
theorem filter_range' (n s l : Nat) (h : s + l ≤ n) (p : Nat → Bool) (hp : ∀ b, b < n → (p b = true ↔ s ≤ b ∧ b < s + l)) : (List.range n).filter p = List.range' s l := by
  have e1 : List.range n = List.range' 0 s ++ (List.range' s l ++ List.range' (s + l) (n - (s + l))) := by
    have a1 := List.range'_append_1 (s := s) (m := l) (n := n - (s + l))
    have a2 := List.range'_append_1 (s := 0) (m := s) (n := l + (n - (s + l)))
    rw [Nat.zero_add] at a2
    rw [a1, a2, List.range_eq_range']
    congr 1
    omega
  rw [e1, List.filter_append, List.filter_append]
  have f1 : (List.range' 0 s).filter p = [] := by
    rw [List.filter_eq_nil_iff]
    intro b hb h2
    have := List.mem_range'_1.1 hb
    have := (hp b (by omega)).1 h2
    omega
  have f2 : (List.range' s l).filter p = List.range' s l := by
    rw [List.filter_eq_self]
    intro b hb
    have := List.mem_range'_1.1 hb
    exact (hp b (by omega)).2 (by omega)
  have f3 : (List.range' (s + l) (n - (s + l))).filter p = [] := by
    rw [List.filter_eq_nil_iff]
    intro b hb h2
    have := List.mem_range'_1.1 hb
    have := (hp b (by omega)).1 h2
    omega
  rw [f1, f2, f3]
  simp
theorem tree_tidy (W : WF up val) {w i : Nat} (hw : w < up.length) (D : UDone up w i) : tidyUp (treeUp up w i) = treeUp up w i := by
  have hl : (treeUp up w i).length = i := treeUp_len
  refine List.ext_getElem (by rw [tidyUp_len]) fun a h1 h2 => ?_
  rw [hl] at h2
  have e1 : (tidyUp (treeUp up w i))[a] = natI (tidyRow (treeUp up w i) a) := by simp [tidyUp]
  have hrow := ust_row (up := up) (w := w) i a h2
  have e2 : (treeUp up w i)[a]'(by rw [hl]; exact h2) = natI (List.range' (ust up w a).1.length (tidyRow up ((ust up w a).1.getD a 0)).length) := by
    have : (treeUp up w i)[a]? = some (natI (List.range' (ust up w a).1.length (tidyRow up ((ust up w a).1.getD a 0)).length)) := by
      unfold treeUp
      rw [List.getElem?_map, hrow]
      rfl
    rw [List.getElem?_eq_getElem (by rw [hl]; exact h2)] at this
    exact Option.some.inj this
  rw [e1, e2]
  congr 1
  unfold tidyRow
  rw [hl]
  have h3 := ust_succ_len (up := up) (w := w) (j := a)
  have h4 := ust_len_le (up := up) (w := w) (n := i) (j := a + 1) (by omega)
  rw [D.all] at h4
  have hg := ust_get (up := up) (w := w) (Nat.le_of_lt h2) (D.before a h2)
  refine filter_range' _ _ _ (by rw [show ((List.range up.length).filter (coverB up ((ust up w a).1.getD a 0))).length = (tidyRow up ((ust up w a).1.getD a 0)).length from rfl]; omega) _ fun b hb => ?_
  rw [tree_cover W hw D h2 hb, show ((List.range up.length).filter (coverB up ((ust up w a).1.getD a 0))).length = (tidyRow up ((ust up w a).1.getD a 0)).length from rfl]
  constructor
  · intro hs
    obtain ⟨_, t, ht, e, _, _, _⟩ := (tree_step D).1 hs
    rw [hg] at ht
    omega
  · rintro ⟨hb1, hb2⟩
    have := D.before a h2
    have htt : b - (ust up w a).1.length < (tidyRow up ((ust up w i).1.getD a 0)).length := by rw [hg]; omega
    refine (tree_step D).2 ⟨h2, b - (ust up w a).1.length, htt, by omega, hb, by omega, ?_⟩
    have htt2 := htt
    rw [hg] at htt2
    have h5 := ust_new (up := up) (w := w) (j := a) htt2
    rw [show (ust up w a).1.length + (b - (ust up w a).1.length) = b by omega] at h5
    rw [ust_get (n := i) (j := a + 1) (by omega) (by omega), h5]
    simp only [hg]

/- ---- the code ---- -/
theorem rowsO_get4 {q k : Nat} {f : Nat → AVal} {g : Nat → List Nat} (hk : k < q) (a b d e : Ow) : ([a, b, d, e] ++ rowsO q f g)[k + 4]? = some (.slc 1 (f k) ((natI (g k)).map (.int .i64))) := by
  show (rowsO q f g)[k]? = _
  unfold rowsO
  exact range_get _ hk
theorem rowsO_set4 {q k x : Nat} {f : Nat → AVal} {g : Nat → List Nat} {v : AVal} (a b d e : Ow) : ([a, b, d, e] ++ rowsO q f g).set (k + 4) (.slc 1 v ((natI (g k)).map (.int .i64) ++ [.int .i64 (x : Int)])) = [a, b, d, e] ++ rowsO q (upd f k v) (upd g k (g k ++ [x])) := by
  have := rowsO_set (q := q) (k := k) (x := x) (f := f) (g := g) (v := v) a b d
  show a :: b :: d :: e :: (rowsO q f g).set k _ = a :: b :: d :: e :: rowsO q _ _
  have h2 : a :: b :: d :: (rowsO q f g).set k (.slc 1 v ((natI (g k)).map (.int .i64) ++ [.int .i64 (x : Int)])) = a :: b :: d :: rowsO q (upd f k v) (upd g k (g k ++ [x])) := this
  simp only [List.cons.injEq, true_and] at h2
  rw [h2]
theorem rowsO_new {q : Nat} {f : Nat → AVal} {g : Nat → List Nat} (hg : g q = []) : rowsO q f g ++ [.slc 1 .nilsl []] = rowsO (q + 1) (upd f q .nilsl) g := by
  unfold rowsO
  rw [List.range_succ, List.map_append]
  congr 1
  · refine List.map_congr_left fun x hx => ?_
    have := List.mem_range.1 hx
    unfold upd
    rw [if_neg (by omega)]
  · simp [upd, hg, natI]
theorem fun_new {q : Nat} {f : Nat → AVal} : (List.range q).map f ++ [.nilsl] = (List.range (q + 1)).map (upd f q .nilsl) := by
  rw [List.range_succ, List.map_append]
  congr 1
  · refine List.map_congr_left fun x hx => ?_
    have := List.mem_range.1 hx
    unfold upd
    rw [if_neg (by omega)]
  · simp [upd]
abbrev UM (hb : Heap) (ro : Nat) (vU vV ve : AVal) (LV : List AVal) (E : List Nat) (f : Nat → AVal) (g : Nat → List Nat) (h : Heap) : Prop :=
  Own hb ([.cell ro (.row 2 [.agg [vU, vV]]), .slc 1 vU ((List.range E.length).map f), .slc 1 vV LV, .slc 1 ve ((natI E).map (.int .i64))] ++ rowsO E.length f g) h
/-- the rows when k of world i's are told -/
noncomputable def gU (up : List (List Int)) (x i k : Nat) : Nat → List Nat := fun j => if j < i then (ust up x i).2.getD j [] else if j = i then List.range' (ust up x i).1.length k else []
theorem gU_step {x i k : Nat} : upd (gU up x i k) i (gU up x i k i ++ [(ust up x i).1.length + k]) = gU up x i (k + 1) := by
  funext j
  unfold upd gU
  by_cases e : j = i
  · subst e
    rw [if_pos rfl, if_neg (by omega), if_pos rfl, if_neg (by omega), if_pos rfl, List.range'_concat]
    simp
  · rw [if_neg e]
    by_cases e2 : j < i
    · rw [if_pos e2, if_pos e2]
    · rw [if_neg e2, if_neg e, if_neg e2, if_neg e]
theorem gU_row {x i : Nat} : gU up x i (tidyRow up ((ust up x i).1.getD i 0)).length = gU up x (i + 1) 0 := by
  funext j
  have hl := ust_len2 up x i
  have e0 : (ust up x (i + 1)).2 = (ust up x i).2 ++ [List.range' (ust up x i).1.length (tidyRow up ((ust up x i).1.getD i 0)).length] := rfl
  unfold gU
  by_cases e : j < i
  · rw [if_pos e, if_pos (by omega), e0, List.getD_eq_getElem?_getD, List.getD_eq_getElem?_getD, List.getElem?_append_left (by omega)]
  · by_cases e2 : j = i
    · subst e2
      have e1 : ∀ (A : List (List Nat)) (R : List Nat), A.length = j → (A ++ [R]).getD j [] = R := fun A R h => by
        rw [List.getD_eq_getElem?_getD, List.getElem?_append_right (by omega), h, Nat.sub_self]
        rfl
      rw [if_neg (by omega), if_pos rfl, if_pos (by omega), e0, e1 _ _ hl]
    · rw [if_neg e, if_neg e2, if_neg (by omega)]
      split
      · rfl
      · rfl
theorem unravel19_l3 (S : Small up val) (W : WF up val) (hV : Strss mV val) {tU tV : AVal} {rt ro x i : Nat} {X Y : AVal} (ht : hb rt = some (.row 2 [.agg [X, Y]])) (hsub : ∀ q o, h0 q = some o → q ≠ rt ∧ hb q = some o) (hx : x < up.length) (hi : i < (ust up x i).1.length) {e : AVal} (he : Ints e (natI (tidyRow up ((ust up x i).1.getD i 0))))
    (bad : 512 < (ust up x i).1.length + (tidyRow up ((ust up x i).1.getD i 0)).length → K (.tuple [.agg [.nilsl, .nilsl], .nilsl, .int .i64 190]) h0) {F : AVal → AVal → AVal → AVal → AVal → Int → Heap → Prop}
    (next : (ust up x i).1.length + (tidyRow up ((ust up x i).1.getD i 0)).length ≤ 512 → ∀ vU vV ve LV f h', All2 Strs LV ((ust up x (i + 1)).1.map fun y => val.getD y []) → UM hb ro vU vV ve LV (ust up x (i + 1)).1 f (gU up x (i + 1) 0) h' → F (.lptr [mU, mV]) (.ptr rt 0 0) (.lptr [tU, tV]) (.ptr ro 0 0) ve ((i : Int) + 1) h') :
    ∀ d k : Nat, k + d = (tidyRow up ((ust up x i).1.getD i 0)).length → (ust up x i).1.length + k ≤ 512 → ∀ vU vV ve LV f h, All2 Strs LV (((ust up x i).1 ++ (tidyRow up ((ust up x i).1.getD i 0)).take k).map fun y => val.getD y []) →
      UM hb ro vU vV ve LV ((ust up x i).1 ++ (tidyRow up ((ust up x i).1.getD i 0)).take k) f (gU up x i k) h →
      s18l3 K (s18l2_G F) (d + 1) (.lptr [mU, mV]) (.ptr rt 0 0) (.lptr [tU, tV]) (.ptr ro 0 0) ve (i : Int) e (k : Int) h
  | 0, k, hd, hm, vU, vV, ve, LV, f, h, hLV, Ow => by
    obtain rfl : k = (tidyRow up ((ust up x i).1.getD i 0)).length := by omega
    rw [List.take_length, gU_row] at *
    have hil := hi
    unfold s18l3
    rw [he.len, show (natI (tidyRow up ((ust up x i).1.getD i 0))).length = (tidyRow up ((ust up x i).1.getD i 0)).length by simp [natI]]
    exact ifT_neg (by simp) (rg_of (by omega) (by omega) (s18l2_go (next hm vU vV ve LV f h hLV Ow)))
  | d + 1, k, hd, hm, vU, vV, ve, LV, f, h, hLV, Ow => by
    have hk : k < (tidyRow up ((ust up x i).1.getD i 0)).length := by omega
    have hEl : ((ust up x i).1 ++ (tidyRow up ((ust up x i).1.getD i 0)).take k).length = (ust up x i).1.length + k := by rw [List.length_append, List.length_take]; omega
    have hnl : ((natI ((ust up x i).1 ++ (tidyRow up ((ust up x i).1.getD i 0)).take k)).map (AVal.int .i64)).length = (ust up x i).1.length + k := by
      rw [List.length_map]
      show ((((ust up x i).1 ++ (tidyRow up ((ust up x i).1.getD i 0)).take k)).map _).length = _
      rw [List.length_map, hEl]
    have hLl := hLV.length
    rw [List.length_map, hEl] at hLl
    have hnr : (natI (tidyRow up ((ust up x i).1.getD i 0))).length = (tidyRow up ((ust up x i).1.getD i 0)).length := by simp [natI]
    have hrk : (natI (tidyRow up ((ust up x i).1.getD i 0)))[k]'(by rw [hnr]; exact hk) = (((tidyRow up ((ust up x i).1.getD i 0))[k] : Nat) : Int) := by simp [natI]
    have hbl : (tidyRow up ((ust up x i).1.getD i 0))[k] < val.length := by rw [W.len]; exact tidyRow_lt (List.getElem_mem hk)
    obtain ⟨cv, hcv, hic⟩ := hV.ix hbl
    unfold s18l3
    rw [he.len, hnr]
    refine ifT_pos (decide_eq_true (by omega)) ?_
    rw [Ow.len (i := 3) rfl, hnl]
    by_cases hbig : 512 ≤ (ust up x i).1.length + k
    · exact ifT_pos (decide_eq_true (by omega)) (fail_ok (Ow.old _ _ ht) (fun q o hq => ⟨(hsub q o hq).1, Ow.old _ _ (hsub q o hq).2⟩) (bad (by omega)))
    · have hq : i < ((ust up x i).1 ++ (tidyRow up ((ust up x i).1.getD i 0)).take k).length := by rw [hEl]; omega
      have hio := rowsO_get4 (f := f) (g := gU up x i k) hq (.cell ro (.row 2 [.agg [vU, vV]])) (.slc 1 vU ((List.range ((ust up x i).1 ++ (tidyRow up ((ust up x i).1.getD i 0)).take k).length).map f)) (.slc 1 vV LV) (.slc 1 ve ((natI ((ust up x i).1 ++ (tidyRow up ((ust up x i).1.getD i 0)).take k)).map (.int .i64)))
      have hlen : ((List.range ((ust up x i).1 ++ (tidyRow up ((ust up x i).1.getD i 0)).take k).length).map f).length = (ust up x i).1.length + k := by rw [List.length_map, List.length_range, hEl]
      rcases Ow.fit 1 _ rfl with ⟨_, e1⟩ | ⟨ru, rfl⟩
      · rw [e1] at hlen
        simp at hlen
        omega
      have hget : ((List.range ((ust up x i).1 ++ (tidyRow up ((ust up x i).1.getD i 0)).take k).length).map f)[i]? = some (f i) := range_get _ hq
      have hag := (Ow.sc hio).2.2
      have rU := Ow.get 1 _ ru rfl rfl
      have rO := Ow.get 0 _ ro rfl rfl
      have hgl : (gU up x i k i).length = k := by
        unfold gU
        rw [if_neg (by omega), if_pos rfl]
        simp
      refine ifT_neg (decide_eq_false (by omega)) ?_
      rw [addOff_ptr, ld1_fld rO rfl, addOff_ptr, ld1_fld rO rfl]
      refine ixS_sl0 (show i < _ by rw [hlen]; omega) ?_
      rw [ld1_ptr rU hget hag, Ow.len (i := 3) rfl, hnl]
      refine ⟨by rw [ld1_ptr rU hget hag], by rw [ld1_fld rO rfl], by rw [ld1_fld rO rfl], Ow.app hio (by simp only [natI, List.length_map, hgl]; omega) (by simp only [natI, List.length_map, hgl]; omega) fun v2 h2 W2 => ?_⟩
      rw [rowsO_set4] at W2
      rw [gU_step] at W2
      refine ⟨by rw [ld1_fld (W2.get 0 _ ro rfl rfl) rfl], ixS_sl0 (show i < _ by rw [hlen]; omega) ?_⟩
      have hi2 := rowsO_get4 (f := upd f i v2) (g := gU up x i (k + 1)) hq (.cell ro (.row 2 [.agg [(.sl ru 1 0 ((List.range ((ust up x i).1 ++ (tidyRow up ((ust up x i).1.getD i 0)).take k).length).map f).length), vV]])) (.slc 1 (.sl ru 1 0 ((List.range ((ust up x i).1 ++ (tidyRow up ((ust up x i).1.getD i 0)).take k).length).map f).length) ((List.range ((ust up x i).1 ++ (tidyRow up ((ust up x i).1.getD i 0)).take k).length).map f)) (.slc 1 vV LV) (.slc 1 ve ((natI ((ust up x i).1 ++ (tidyRow up ((ust up x i).1.getD i 0)).take k)).map (.int .i64)))
      have hsc : sc v2 = true := by
        have := (W2.sc hi2).1
        unfold upd at this
        rwa [if_pos rfl] at this
      refine chk_iff.2 ⟨hsc, st_elem (W2.get 1 _ ru rfl rfl) hget hag ?_⟩
      have W3 := W2.putS (i := 1) rfl (l' := ((List.range ((ust up x i).1 ++ (tidyRow up ((ust up x i).1.getD i 0)).take k).length).map f).set i v2) (by simp)
      rw [map_set] at W3 ⊢
      have W3' : Own hb ([.cell ro (.row 2 [.agg [(.sl ru 1 0 ((List.range ((ust up x i).1 ++ (tidyRow up ((ust up x i).1.getD i 0)).take k).length).map f).length), vV]]), .slc 1 (.sl ru 1 0 ((List.range ((ust up x i).1 ++ (tidyRow up ((ust up x i).1.getD i 0)).take k).length).map f).length) ((List.range ((ust up x i).1 ++ (tidyRow up ((ust up x i).1.getD i 0)).take k).length).map (upd f i v2)), .slc 1 vV LV, .slc 1 ve ((natI ((ust up x i).1 ++ (tidyRow up ((ust up x i).1.getD i 0)).take k)).map (.int .i64))] ++ rowsO ((ust up x i).1 ++ (tidyRow up ((ust up x i).1.getD i 0)).take k).length (upd f i v2) (gU up x i (k + 1))) _ := W3
      have W4 := W3'.newN 1
      rw [addOff_ptr, ld1_fld (W4.get 0 _ ro rfl rfl) rfl]
      have hl5 : ((List.range ((ust up x i).1 ++ (tidyRow up ((ust up x i).1.getD i 0)).take k).length).map (upd f i v2)).length = (ust up x i).1.length + k := by rw [List.length_map, List.length_range, hEl]
      refine W4.app (i := 1) rfl (by rw [hl5]; omega) (by rw [hl5]; omega) fun v3 h3 W5 => ?_
      refine chk_iff.2 ⟨(W5.sc (i := 1) rfl).1, st_fst (W5.get 0 _ ro rfl rfl) ?_⟩
      have W6 := W5.put (i := 0) rfl (.row 2 [.agg [v3, vV]])
      rw [addOff_ptr, ld1_fld (W6.get 0 _ ro rfl rfl) rfl, addOff_lptr]
      simp only [List.drop_succ_cons, List.drop_zero, ld1_lptr]
      rw [he.ix (by rw [hnr]; exact hk), ld1_lptr, tInt_int, hrk, hic, ld1_lptr]
      refine chk_iff.2 ⟨hcv.notAgg.2, ⟨by rw [ld1_fld (W6.get 0 _ ro rfl rfl) rfl], W6.app (i := 2) rfl (by omega) (by omega) fun v4 h4 W7 => ?_⟩⟩
      refine chk_iff.2 ⟨(W7.sc (i := 2) rfl).1, st_snd (W7.get 0 _ ro rfl rfl) ?_⟩
      have W8 := W7.put (i := 0) rfl (.row 2 [.agg [v3, v4]])
      rw [he.ix (by rw [hnr]; exact hk), ld1_lptr, tInt_int, hrk]
      refine W8.app (i := 3) rfl (by rw [hnl]; omega) (by rw [hnl]; omega) fun v5 h5 W9 => rg_of (by omega) (by omega) (s18l3_go ?_)
      have et : (tidyRow up ((ust up x i).1.getD i 0)).take (k + 1) = (tidyRow up ((ust up x i).1.getD i 0)).take k ++ [(tidyRow up ((ust up x i).1.getD i 0))[k]] := List.take_succ_eq_append_getElem hk
      have hgz : gU up x i (k + 1) ((ust up x i).1.length + k) = [] := by
        unfold gU
        rw [if_neg (by omega), if_neg (by omega)]
      have hE2 : ((ust up x i).1 ++ (tidyRow up ((ust up x i).1.getD i 0)).take (k + 1)).length = (ust up x i).1.length + k + 1 := by rw [List.length_append, List.length_take]; omega
      refine unravel19_l3 S W hV ht hsub hx hi he bad next d (k + 1) (by omega) (by omega) v3 v4 v5 (LV ++ [cv]) (upd (upd f i v2) ((ust up x i).1.length + k) .nilsl) h5 ?_ ?_
      · rw [et, ← List.append_assoc, List.map_append]
        refine hLV.append (.cons ?_ .nil)
        show Strs cv (val.getD _ [])
        rw [getD_val hbl]
        exact hcv
      · unfold UM
        have e8 : (natI ((ust up x i).1 ++ (tidyRow up ((ust up x i).1.getD i 0)).take (k + 1))).map (AVal.int .i64) = (natI ((ust up x i).1 ++ (tidyRow up ((ust up x i).1.getD i 0)).take k)).map (.int .i64) ++ [.int .i64 (((tidyRow up ((ust up x i).1.getD i 0))[k] : Nat) : Int)] := by
          rw [et, ← List.append_assoc]
          unfold natI
          rw [List.map_append, List.map_append]
          rfl
        rw [hE2, ← rowsO_new hgz, ← fun_new, e8]
        have W10 := W9
        rw [hEl] at W10
        exact W10
end Go.Proofs.Ytinficcdpggiaaa

namespace Go.Proofs.Ytinficcdpggiaaa
open Go Go.Sym Go.Proofs.Try

variable {K : AVal → Heap → Prop} {h h0 hb : Heap} {up : List (List Int)} {val : List (List ByteArray)} {mU mV : AVal}

theorem unravel19_l2 (S : Small up val) (W : WF up val) (hV : Strss mV val) {tU tV : AVal} (hU : Intss tU (tidyUp up)) {rt ro x : Nat} {X Y : AVal} (hx : x < up.length) (ht : hb rt = some (.row 2 [.agg [X, Y]])) (hsub : ∀ q o, h0 q = some o → q ≠ rt ∧ hb q = some o)
    (bad : ∀ i, (∀ j, j ≤ i → j < (ust up x j).1.length) → 512 < (ust up x (i + 1)).1.length → K (.tuple [.agg [.nilsl, .nilsl], .nilsl, .int .i64 190]) h0)
    (good : ∀ i, UDone up x i → ∀ vU vV ve, Intss vU (treeUp up x i) → Strss vV (treeVal up val x i) → Ints ve (natI (ust up x i).1) → K (.tuple [.agg [vU, vV], ve, .int .i64 0]) h0) :
    ∀ d i : Nat, i + d = 512 → i ≤ (ust up x i).1.length → (ust up x i).1.length ≤ 512 → (∀ j, j < i → j < (ust up x j).1.length) → ∀ vU vV ve LV f h, All2 Strs LV ((ust up x i).1.map fun y => val.getD y []) →
      UM hb ro vU vV ve LV (ust up x i).1 f (gU up x i 0) h → s18l2 K (d + 1) (.lptr [mU, mV]) (.ptr rt 0 0) (.lptr [tU, tV]) (.ptr ro 0 0) ve (i : Int) h := by
  have fin : ∀ i d, (ust up x i).1.length = i → i ≤ 512 → (∀ j, j < i → j < (ust up x j).1.length) → ∀ vU vV ve LV f h, All2 Strs LV ((ust up x i).1.map fun y => val.getD y []) →
      UM hb ro vU vV ve LV (ust up x i).1 f (gU up x i 0) h → s18l2 K (d + 1) (.lptr [mU, mV]) (.ptr rt 0 0) (.lptr [tU, tV]) (.ptr ro 0 0) ve (i : Int) h := by
    intro i d hall hi hbef vU vV ve LV f h hLV Ow
    have D : UDone up x i := ⟨hall, hbef, hi⟩
    have hnl : ((natI (ust up x i).1).map (AVal.int .i64)).length = i := by
      rw [List.length_map]
      show ((ust up x i).1.map _).length = _
      rw [List.length_map, hall]
    unfold s18l2
    rw [Ow.len (i := 3) rfl, hnl]
    refine ifT_neg (by simp) ?_
    rw [ldN2 (Ow.get 0 _ ro rfl rfl), tCons_cons, tCons_cons, tNil_nil]
    have hrows : (List.range (ust up x i).1.length).map (fun k => natI (gU up x i 0 k)) = treeUp up x i := by
      have hl2 := ust_len2 up x i
      refine List.ext_getElem (by simp [hall, treeUp_len]) fun k h1 h2 => ?_
      have hk : k < i := by simpa [hall] using h1
      simp only [List.getElem_map, List.getElem_range, treeUp]
      unfold gU
      rw [if_pos hk, List.getD_eq_getElem?_getD, List.getElem?_eq_getElem (by omega)]
      rfl
    have hT := tree_tidy W hx D
    let S2 : Nat → Prop := fun n => nameOf vU n ∨ nameOf vV n ∨ ∃ k, k < (ust up x i).1.length ∧ nameOf (f k) n
    obtain ⟨l2, hl2, hR2⟩ := lits_rows (f := f) (g := gU up x i 0) Ow (S := S2) (List.range (ust up x i).1.length) (fun k hk => ⟨_, rowsO_get4 (List.mem_range.1 hk) _ _ _ _⟩) (fun k hk n hn => .inr (.inr ⟨k, List.mem_range.1 hk, hn⟩))
    obtain ⟨u2, lu2, su2⟩ := Ow.lit (i := 1) rfl (S := S2) (fun n h => .inl h) hl2
    obtain ⟨v2, lv2, sv2⟩ := Ow.lit (i := 2) rfl (S := S2) (fun n h => .inr (.inl h)) (Lits.refl LV)
    rw [hrows] at hR2
    have hSn : ∀ n, S2 n → hb n = none := fun n hn => by
      rcases hn with hn | hn | ⟨k, hk, hn⟩
      · exact Ow.new 1 _ n rfl hn
      · exact Ow.new 2 _ n rfl hn
      · exact Ow.new (k + 4) _ n (rowsO_get4 hk _ _ _ _) hn
    have We : Own hb [.slc 1 ve ((natI (ust up x i).1).map (.int .i64))] h := Ow.renum _ (fun _ => 3) (fun j y hj => by
      match j, hj with
      | 0, hj => cases hj; rfl
      | j + 1, hj => simp at hj) (fun j hj k hk _ => by
      simp only [List.length_singleton] at hj hk
      omega)
    obtain ⟨h2, g2, W2⟩ := We.step S2 [.slc 1 ve ((natI (ust up x i).1).map (.int .i64))] hSn (fun j y hj => by
      match j, hj with
      | 0, hj =>
        cases hj
        refine ⟨_, rfl, We.fit 0 _ rfl, fun n hn => ⟨hn, ?_⟩, .refl _⟩
        rintro (hm | hm | ⟨k, hk, hm⟩)
        · have := Ow.one 3 1 _ _ n rfl rfl hn hm; omega
        · have := Ow.one 3 2 _ _ n rfl rfl hn hm; omega
        · have := Ow.one 3 (k + 4) _ _ n rfl (rowsO_get4 hk _ _ _ _) hn hm; omega
      | j + 1, hj => simp at hj)
    refine ⟨S2, [.agg [u2, v2]], h2, .cons (.agg (.cons lu2 (.cons lv2 .nil))) .nil, g2, tidy19_ok (tree_small S W hx D) ⟨_, su2, hR2⟩ ⟨_, sv2, hLV⟩ (tree_wf W hx D) fun a b ha hbv => ?_⟩
    simp only [tAgg_agg, tCons_cons, tNil_nil]
    rw [hT] at ha
    refine st_all (W2.old _ _ ht) rfl ?_
    rw [ldN2 (Heap.set_same _ _ _), tCons_cons, tCons_cons, tNil_nil]
    have W3 := W2.base (x := .row 2 [.agg [a, b]]) ht
    obtain ⟨e3, l3, s3⟩ := W3.lit (i := 0) rfl (S := nameOf ve) (fun _ h => h) (Lits.refl _)
    refine ⟨nameOf ve, .tuple [.agg [a, b], e3, .int .i64 0], h0, .tuple (.cons (.refl _) (.cons l3 (.cons (.refl _) .nil))), ⟨fun _ _ => trivial, fun q o hq => ⟨o, ?_, fun hs => ?_, .refl o⟩⟩, good i D a b e3 ha hbv s3⟩
    · rw [Heap.set_ne _ _ (hsub q o hq).1]
      exact W2.old q o (hsub q o hq).2
    · have h1 := (hsub q o hq).2
      rw [W2.new 0 _ q rfl hs] at h1
      cases h1
  intro d
  induction d with
  | zero =>
    intro i hd hiE hE hbef vU vV ve LV f h hLV Ow
    exact fin i 0 (by omega) (by omega) hbef vU vV ve LV f h hLV Ow
  | succ d ih =>
    intro i hd hiE hE hbef vU vV ve LV f h hLV Ow
    by_cases hlt : i < (ust up x i).1.length
    · have hEl := ust_lt hx i
      have hgd : (ust up x i).1.getD i 0 = (ust up x i).1[i] := by simp [List.getD, hlt]
      have hgl : (ust up x i).1.getD i 0 < up.length := by rw [hgd]; exact hEl _ (List.getElem_mem hlt)
      obtain ⟨e, he, hie⟩ := hU.ix (i := (ust up x i).1.getD i 0) (by rw [tidyUp_len]; exact hgl)
      have het : (tidyUp up)[(ust up x i).1.getD i 0]'(by rw [tidyUp_len]; exact hgl) = natI (tidyRow up ((ust up x i).1.getD i 0)) := by simp [tidyUp]
      rw [het] at he
      have hnl : ((natI (ust up x i).1).map (AVal.int .i64)).length = (ust up x i).1.length := by
        rw [List.length_map]
        show ((ust up x i).1.map _).length = _
        rw [List.length_map]
      unfold s18l2
      rw [Ow.len (i := 3) rfl, hnl]
      refine ifT_pos (decide_eq_true (by omega)) ?_
      rw [addOff_lptr]
      simp only [List.drop_zero, ld1_lptr]
      rcases Ow.fit 3 _ rfl with ⟨_, e1⟩ | ⟨re, e1⟩
      · rw [e1] at hnl
        simp at hnl
        omega
      obtain rfl := e1
      have hget : ((natI (ust up x i).1).map (AVal.int .i64))[i]? = some (.int .i64 (((ust up x i).1.getD i 0 : Nat) : Int)) := by
        rw [hgd]
        simp [natI, hlt]
      refine ixS_sl0 (List.getElem?_eq_some_iff.1 hget).1 ?_
      rw [ld1_ptr (Ow.get 3 _ re rfl rfl) hget rfl, tInt_int, hie, ld1_lptr]
      have hsucc : (ust up x (i + 1)).1.length = (ust up x i).1.length + (tidyRow up ((ust up x i).1.getD i 0)).length := by
        simp only [ust, List.length_append]
      have hbe : ∀ j, j ≤ i → j < (ust up x j).1.length := fun j hj => by
        by_cases e2 : j = i
        · subst e2; exact hlt
        · exact hbef j (by omega)
      refine s18l3_in ((tidyRow up ((ust up x i).1.getD i 0)).length + 1) ?_
      refine unravel19_l3 (LV := LV) (f := f) (vU := vU) (vV := vV) S W hV ht hsub hx hlt he (fun hb2 => bad i hbe (by omega)) (fun hfit vU' vV' ve' LV' f' h' hLV' W' => ?_) _ 0 (by omega) (by omega) _ h ?_ ?_
      · exact ih (i + 1) (by omega) (by omega) (by omega) (fun j hj => hbe j (by omega)) vU' vV' ve' LV' f' h' hLV' W'
      · rw [List.take_zero, List.append_nil]
        exact hLV
      · rw [List.take_zero, List.append_nil]
        exact Ow
    · exact fin i (d + 1) (by omega) (by omega) hbef vU vV ve LV f h hLV Ow
theorem renumU {hb h : Heap} {a b c d e f : Ow} (W : Own hb [a, b, c, d, e, f] h) : Own hb [d, b, c, e, f, a] h :=
  W.renum _ (fun j => if j = 0 then 3 else if j = 1 then 1 else if j = 2 then 2 else if j = 3 then 4 else if j = 4 then 5 else if j = 5 then 0 else j) (fun j y hj => by
    match j, hj with
    | 0, hj => exact hj
    | 1, hj => exact hj
    | 2, hj => exact hj
    | 3, hj => exact hj
    | 4, hj => exact hj
    | 5, hj => exact hj
    | j + 6, hj => simp at hj) (show ∀ j, j < 6 → ∀ k, k < 6 → _ = _ → j = k by decide)
theorem unravel19_ok (S : Small up val) (hU : Intss mU up) (hV : Strss mV val) (w : Int) (bad1 : ¬ WF up val → K (.tuple [.agg [.nilsl, .nilsl], .nilsl, .int .i64 170]) h0) (out : WF up val → ¬ (0 ≤ w ∧ w < up.length) → K (.tuple [.agg [.nilsl, .nilsl], .nilsl, .int .i64 2]) h0)
    (bad : WF up val → ∀ x : Nat, w = x → x < up.length → ∀ i, (∀ j, j ≤ i → j < (ust up x j).1.length) → 512 < (ust up x (i + 1)).1.length → K (.tuple [.agg [.nilsl, .nilsl], .nilsl, .int .i64 190]) h0)
    (good : WF up val → ∀ x : Nat, w = x → x < up.length → ∀ i, UDone up x i → ∀ vU vV ve, Intss vU (treeUp up x i) → Strss vV (treeVal up val x i) → Ints ve (natI (ust up x i).1) → K (.tuple [.agg [vU, vV], ve, .int .i64 0]) h0) :
    ACalls prog 18 [.agg [mU, mV], .int .i64 w] h0 K := by
  refine s18_ok ?_
  unfold s18
  refine newRow_in fun rt hrt => ?_
  have ht := Heap.set_same h0 rt (.row 2 [.agg [.nilsl, .nilsl]])
  have hsub : ∀ q o, h0 q = some o → q ≠ rt ∧ (h0.set rt (.row 2 [.agg [.nilsl, .nilsl]])) q = some o := fun q o hq => ⟨(fun e => by rw [e, hrt] at hq; cases hq), Heap.set_sub hrt q o hq⟩
  refine callG_of (right_ok S hU hV (fun hW => ?_) fun W o hO => ?_)
  · simp only [tTup_tuple, tCons_cons, tBool_bool, tNil_nil]
    exact ifT_pos rfl (fail_ok ht hsub (bad1 hW))
  · simp only [tTup_tuple, tCons_cons, tBool_bool, tNil_nil]
    refine ifT_neg rfl ?_
    by_cases h1 : w < 0
    · exact ifT_pos (decide_eq_true h1) (ifT_pos rfl (fail_ok ht hsub (out W (by omega))))
    · refine ifT_neg (decide_eq_false h1) ?_
      rw [hO.len]
      by_cases h2 : (up.length : Int) ≤ w
      · exact ifT_pos (decide_eq_true h2) (fail_ok ht hsub (out W (by omega)))
      · obtain ⟨x, rfl⟩ := Int.eq_ofNat_of_zero_le (by omega : 0 ≤ w)
        have hx : x < up.length := by omega
        have hxl : x < val.length := by rw [W.len]; exact hx
        obtain ⟨cv, hcv, hic⟩ := hV.ix hxl
        refine ifT_neg (decide_eq_false h2) ?_
        rw [ldN_agg2]
        simp only [tCons_cons, tNil_nil]
        refine callG_of (tidy19_ok S hU hV W fun tU tV hTU hTV => ?_)
        simp only [tAgg_agg, tCons_cons, tNil_nil]
        refine newRow_in fun r1 hr1 => st_all (Heap.set_same _ _ _) rfl ?_
        rw [Heap.set_set]
        refine newRow_in fun r2 hr2 => ?_
        rw [addOff_lptr]
        simp only [List.drop_succ_cons, List.drop_zero, ld1_lptr]
        rw [hic, ld1_lptr]
        refine chk_iff.2 ⟨hcv.notAgg.2, newRow_in fun r3 hr3 => newRow_in fun r4 hr4 => st_all (Heap.set_same _ _ _) rfl ?_⟩
        rw [Heap.set_set]
        refine newRow_in fun r5 hr5 => ?_
        have W1 := ((((((Own.start (h0.set rt (.row 2 [.agg [.nilsl, .nilsl]]))).newC hr1 (.row 2 [.agg [tU, tV]])).newS (es := 1) hr2 [.nilsl]).newS (es := 1) hr3 [cv]).newC hr4 (.row 2 [.agg [.sl r2 1 0 1, .sl r3 1 0 1]])).newS (es := 1) hr5 [.int .i64 (x : Int)]).newN 1
        obtain ⟨h6, g6, W6, lit⟩ := freezeC (os := [.cell r4 (.row 2 [.agg [.sl r2 1 0 1, .sl r3 1 0 1]]), .slc 1 (.sl r2 1 0 1) [.nilsl], .slc 1 (.sl r3 1 0 1) [cv], .slc 1 (.sl r5 1 0 1) [.int .i64 (x : Int)], .slc 1 .nilsl []]) (cs := [tU, tV]) (renumU W1)
        refine ⟨_, [.lptr [mU, mV], .ptr rt 0 0, .lptr [tU, tV], .ptr r4 0 0, .sl r5 1 0 1, .int .i64 0], h6, .cons (.refl _) (.cons (.refl _) (.cons lit (Lits.refl _))), g6, rfl, 513, ?_⟩
        refine unravel19_l2 S W hV hTU hx ht hsub (bad W x rfl hx) (good W x rfl hx) 512 0 (by omega) (by omega) (by simp [ust]) (by intro j hj; omega) (.sl r2 1 0 1) (.sl r3 1 0 1) (.sl r5 1 0 1) [cv] (fun _ => .nilsl) h6 ?_ ?_
        · refine .cons ?_ .nil
          show Strs cv (val.getD x [])
          rw [getD_val hxl]
          exact hcv
        · have e : rowsO 1 (fun _ => AVal.nilsl) (gU up x 0 0) = [.slc 1 .nilsl []] := by
            unfold rowsO gU
            simp [natI]
          unfold UM
          show Own _ (_ ++ rowsO 1 (fun _ => AVal.nilsl) (gU up x 0 0)) h6
          rw [e]
          exact W6
end Go.Proofs.Ytinficcdpggiaaa

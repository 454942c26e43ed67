/- Contracts: what the program's Tidy hands out stays the caller's to write. No condition. Contracts: what the program's Above hands out stays the caller's to write; it can be read. No condition. The law MorphMakes over its inputs. No condition. -/
import Derived.Test.YtinficcdpggiaaaMM2
import Derived.Test.YtinficcdpggiaaaMM1

set_option linter.unusedVariables false
set_option linter.unusedSimpArgs false

namespace Go.Sym
open Go
section
variable {hb h : Heap} {os : List Ow}
theorem Own.ofGrow {es : Nat} {hM : Heap} {v : AVal} {l : List AVal} (W : Own hb os hM) (g : Grow es hM v l h) : Own hb (os ++ [.slc es v l]) h := by
  cases g with
  | nil => exact W.newN es
  | own hr => exact W.newS hr l
theorem last_get {α : Type} (os : List α) (x : α) : (os ++ [x])[os.length]? = some x := by simp
theorem last_set {α : Type} (os : List α) (x y : α) : (os ++ [x]).set os.length y = os ++ [y] := by simp
theorem Own.appLast {es bytes : Nat} {v x : AVal} {l : List AVal} {K : AVal → Heap → Prop} (W : Own hb (os ++ [.slc es v l]) h)
    (h1 : l.length < 4611686018427387904) (h2 : (l.length + 1) * bytes ≤ 140737488355328) (hk : ∀ v' h', Own hb (os ++ [.slc es v' (l ++ [x])]) h' → K v' h') : appC es bytes h v (.lsl es [x]) K :=
  W.app (last_get os _) h1 h2 fun v' h' W' => hk v' h' (by rw [last_set] at W'; exact W')
theorem Own.swapL {x y : Ow} (W : Own hb (os ++ [x, y]) h) : Own hb (os ++ [y, x]) h := by
  refine W.renum _ (fun j => if j = os.length then os.length + 1 else if j = os.length + 1 then os.length else j) (fun j z hj => ?_) (fun j hj k hk e => ?_)
  · by_cases e1 : j = os.length
    · subst e1
      rw [if_pos rfl]
      simp at hj ⊢
      exact hj
    · by_cases e2 : j = os.length + 1
      · subst e2
        rw [if_neg (by omega), if_pos rfl]
        simp at hj ⊢
        exact hj
      · rw [if_neg e1, if_neg e2]
        have h3 := (List.getElem?_eq_some_iff.1 hj).1
        simp at h3
        rw [List.getElem?_append_left (by omega)] at hj ⊢
        exact hj
  · simp only [List.length_append, List.length_cons, List.length_nil] at hj hk
    split at e <;> split at e <;> (try split at e) <;> (try split at e) <;> omega
/-- the memory around, but what lay behind it, is forgotten -/
theorem Own.shrink {h0 : Heap} (W : Own hb os h) (hs : ∀ q o, h0 q = some o → hb q = some o) : ∃ h', (∀ q o, h' q = some o → h q = some o) ∧ Own h0 os h' := by
  classical
  refine ⟨fun q => if (h0 q).isNone ∧ (hb q).isSome then none else h q, fun q o hq => ?_, W.fit, fun i y n e e1 => ?_, fun i y n e e1 => ?_, W.one, fun q o hq => ?_⟩
  · simp only at hq
    split at hq
    · cases hq
    · exact hq
  · have := W.new i y n e e1
    simp only [this]
    simp
    exact W.get i y n e e1
  · have := W.new i y n e e1
    cases e2 : h0 n with
    | none => rfl
    | some o => rw [hs n o e2] at this; cases this
  · simp only [hq]
    simp
    exact W.old q o (hs q o hq)
theorem GStep.sub {h1 h2 h3 : Heap} {S : Nat → Prop} (g : GStep h1 h2 S) (hs : ∀ q o, h3 q = some o → h2 q = some o) : GStep h1 h3 S := ⟨fun _ _ => trivial, fun q o hq => g.2 q o (hs q o hq)⟩
end
end Go.Sym
namespace Go.Proofs.Ytinficcdpggiaaa
open Go Go.Sym Go.Proofs.Try

variable {K : AVal → Heap → Prop} {h h0 hb : Heap} {up : List (List Int)} {val : List (List ByteArray)} {mU mV : AVal}

theorem cloneSO_ok {v : AVal} {l : List ByteArray} (hv : Strs v l) (hm : l.length ≤ 1073741824) (hk : ∀ v' h', Grow 1 h v' (l.map .str) h' → K v' h') : ACalls prog 35 [v] h K := by
  refine s35_ok ?_
  unfold s35
  refine nilS_of hv (fun he hv' => ?_) fun hv' => ?_
  · refine ifT_pos rfl (retG_of (hk _ _ ?_))
    rw [he]
    exact .nil
  · exact ifT_neg rfl (newRow_in fun r hr => appC_copy hr (elemsA_of hv) (by simp; omega) (by simp; omega) fun v' h' g => retG_of (hk v' h' g))
/-- rows of names, each a thing of ours -/
def rowsS (n : Nat) (f : Nat → AVal) (val : List (List ByteArray)) : List Ow := (List.range n).map fun k => .slc 1 (f k) ((val.getD k []).map .str)
theorem rowsS_len {n : Nat} {f : Nat → AVal} : (rowsS n f val).length = n := by simp [rowsS]
theorem rowsS_get {n k : Nat} {f : Nat → AVal} (hk : k < n) : (rowsS n f val)[k]? = some (.slc 1 (f k) ((val.getD k []).map .str)) := range_get _ hk
theorem rowsS_new {a : Nat} {f : Nat → AVal} {v : AVal} : rowsS a f val ++ [.slc 1 v ((val.getD a []).map .str)] = rowsS (a + 1) (upd f a v) val := by
  unfold rowsS
  rw [List.range_succ, List.map_append]
  congr 1
  · refine List.map_congr_left fun x hx => ?_
    have := List.mem_range.1 hx
    unfold upd
    rw [if_neg (by omega)]
  · simp [upd]
theorem fun_add {a : Nat} {f : Nat → AVal} {v : AVal} : (List.range a).map f ++ [v] = (List.range (a + 1)).map (upd f a v) := by
  rw [List.range_succ, List.map_append]
  congr 1
  · refine List.map_congr_left fun x hx => ?_
    have := List.mem_range.1 hx
    unfold upd
    rw [if_neg (by omega)]
  · simp [upd]

theorem tidyO_l2 (hn : up.length ≤ 512) {f ov : AVal} (hF : LeqF f up) {a : Nat} (ha : a < up.length) (hl : val.length = up.length) (S : Small up val) (hV : Strss mV val) (hov : Ints ov (natI (overL up a)))
    {F : AVal → AVal → AVal → AVal → Int → Int → Heap → Prop} {t2 : AVal} {ro : Nat} {vU vV : AVal} {LU : List AVal} (hLU : LU.length ≤ 512) {fN : Nat → AVal} {t24 : Int}
    (hL : ∀ vU' vV' row' f' h', Ints row' (natI (tidyRow up a)) → Own hb ([.cell ro (.row 2 [.agg [vU', vV']]), .slc 1 vU' (LU ++ [row']), .slc 1 vV' ((List.range (a + 1)).map f')] ++ rowsS (a + 1) f' val) h' → F (.lptr [mU, mV]) t2 (.lptr [f]) (.ptr ro 0 0) t24 (a + 1) h') :
    ∀ d i : Nat, i + d = (overL up a).length → ∀ row h, Own hb (([.cell ro (.row 2 [.agg [vU, vV]]), .slc 1 vU LU, .slc 1 vV ((List.range a).map fN)] ++ rowsS a fN val) ++ [.slc 1 row ((natI (((overL up a).take i).filter (nextB up a))).map (.int .i64))]) h →
      s39l2 K (s39l1_G F) (d + 1) (.lptr [mU, mV]) t2 (.lptr [f]) (.ptr ro 0 0) (.lptr [.int .i64 (a : Int)]) (.func (.func 70) [] [.lptr [ov], .lptr [f]]) row t24 a ov (overL up a).length (i : Int) h
  | 0, i, hd, row, h, Ow => by
    have ha' : a < val.length := by omega
    rw [List.take_of_length_le (by omega), ← tidyRow_next] at Ow
    have hll : ([Sym.Ow.cell ro (.row 2 [.agg [vU, vV]]), .slc 1 vU LU, .slc 1 vV ((List.range a).map fN)] ++ rowsS a fN val).length = a + 3 := by simp [rowsS_len]
    unfold s39l2
    refine ifT_neg (by simp; omega) ?_
    rw [addOff_ptr, ld1_fld (Ow.get 0 _ ro rfl rfl) rfl]
    refine chk_iff.2 ⟨(Ow.sc (last_get _ _)).1, Ow.app (i := 1) rfl (by omega) (by omega) fun v1 h1 W1 => ?_⟩
    rw [addOff_ptr]
    refine chk_iff.2 ⟨(W1.sc (i := 1) rfl).1, st_fst (W1.get 0 _ ro rfl rfl) ?_⟩
    have W2 := W1.put (i := 0) rfl (.row 2 [.agg [v1, vV]])
    rw [addOff_ptr, ld1_fld (W2.get 0 _ ro rfl rfl) rfl, addOff_lptr]
    simp only [List.drop_succ_cons, List.drop_zero, ld1_lptr, tInt_int]
    obtain ⟨ev, hev, hix⟩ := hV.ix ha'
    rw [hix, ld1_lptr]
    have hSn := S.names _ (List.getElem_mem ha')
    refine callG_of (cloneSO_ok hev (by omega) fun cp h2 g => ?_)
    have W3 : Own hb ((([.cell ro (.row 2 [.agg [v1, vV]]), .slc 1 v1 (LU ++ [row]), .slc 1 vV ((List.range a).map fN)] ++ rowsS a fN val) ++ [.slc 1 row ((natI (tidyRow up a)).map (.int .i64))]) ++ [.slc 1 cp (val[a].map .str)]) h2 := W2.ofGrow g
    refine ⟨by rw [ld1_fld (W3.get 0 _ ro rfl rfl) rfl], chk_iff.2 ⟨(W3.sc (last_get _ _)).1, ⟨by rw [ld1_fld (W3.get 0 _ ro rfl rfl) rfl], ?_⟩⟩⟩
    refine W3.app (i := 2) rfl (by simp; omega) (by simp; omega) fun v2 h4 W4 => ?_
    rw [addOff_ptr]
    refine chk_iff.2 ⟨(W4.sc (i := 2) rfl).1, st_snd (W4.get 0 _ ro rfl rfl) (rg_of (by omega) (by omega) ?_)⟩
    have W5 := W4.put (i := 0) rfl (.row 2 [.agg [v1, v2]])
    have key : ∀ hh, Own hb (((([Sym.Ow.cell ro (.row 2 [.agg [v1, v2]]), .slc 1 v1 (LU ++ [row]), .slc 1 v2 ((List.range a).map fN ++ [cp])] ++ rowsS a fN val) ++ [.slc 1 row ((natI (tidyRow up a)).map (.int .i64))]) ++ [.slc 1 cp (val[a].map .str)])) hh →
        Own hb ((([.cell ro (.row 2 [.agg [v1, v2]]), .slc 1 v1 (LU ++ [row]), .slc 1 v2 ((List.range a).map fN ++ [cp])] ++ rowsS a fN val) ++ [.slc 1 cp (val[a].map .str)]) ++ [.slc 1 row ((natI (tidyRow up a)).map (.int .i64))]) hh := fun hh w => by
      rw [List.append_assoc, List.singleton_append] at w
      have := w.swapL
      rw [List.append_assoc, List.singleton_append]
      exact this
    have W7 := key _ W5
    obtain ⟨Sg, h6, row', s1, g6, W8⟩ := W7.settleL (i := 1) rfl
    refine ⟨Sg, _, h6, Lits.refl _, g6, rfl, hL v1 v2 row' (upd fN a cp) h6 s1 ?_⟩
    rw [← fun_add, ← rowsS_new, getD_val ha']
    have := W8
    simp only [List.append_assoc, List.cons_append, List.nil_append] at this ⊢
    exact this
  | d + 1, i, hd, row, h, Ow => by
    have hi : i < (overL up a).length := by omega
    have hlen : (overL up a).length ≤ 512 := by
      have := List.length_filter_le (startB up a) (List.range up.length)
      simp [overL] at this ⊢
      omega
    have hbn : (overL up a)[i] < up.length := List.mem_range.1 (List.mem_filter.1 (List.getElem_mem hi)).1
    unfold s39l2
    refine ifT_pos (by simp; omega) ?_
    have hix : (natI (overL up a))[i]'(by simpa [natI] using hi) = ((overL up a)[i] : Int) := by simp [natI]
    rw [hov.ix (i := i) (by simpa [natI] using hi), ld1_lptr, hix, tInt_int]
    refine next_call hF hn hov hbn ?_
    rw [tBool_bool]
    have hs : ((overL up a).take (i + 1)).filter (nextB up a) = ((overL up a).take i).filter (nextB up a) ++ if nextB up a (overL up a)[i] then [(overL up a)[i]] else [] := by
      rw [List.take_succ_eq_append_getElem hi, List.filter_append, List.filter_cons]; rfl
    have hle : ((natI (((overL up a).take i).filter (nextB up a))).map (AVal.int .i64)).length ≤ i := by
      have := List.length_filter_le (nextB up a) ((overL up a).take i)
      simp only [natI, List.length_map]
      rw [List.length_take] at this
      omega
    cases hnx : nextB up a (overL up a)[i] with
    | true =>
      rw [hnx, if_pos rfl] at hs
      refine ifT_pos rfl (Ow.appLast (by omega) (by omega) fun v' h' W' => rg_of (by omega) (by omega) (s39l2_go ?_))
      refine tidyO_l2 (vU := vU) (vV := vV) (fN := fN) hn hF ha hl S hV hov hLU hL d (i + 1) (by omega) v' h' ?_
      rw [hs]
      unfold natI at W' ⊢
      rw [List.map_append, List.map_append]
      exact W'
    | false =>
      rw [hnx] at hs
      refine ifT_neg rfl (rg_of (by omega) (by omega) (s39l2_go ?_))
      refine tidyO_l2 (vU := vU) (vV := vV) (fN := fN) hn hF ha hl S hV hov hLU hL d (i + 1) (by omega) row h ?_
      rw [hs]
      simpa using Ow

/-- a model's rows of names, ours to write -/
def OwnV (h0 : Heap) (vV : AVal) (f : Nat → AVal) (val : List (List ByteArray)) (h : Heap) : Prop := SlOf 1 vV ((List.range val.length).map f) ∧ Own h0 (rowsS val.length f val) h

theorem tidyO_l1 (hn : up.length ≤ 512) {f : AVal} (hF : LeqF f up) (hU : Intss mU up) (hl : val.length = up.length) (S : Small up val) (hV : Strss mV val) {ro rt : Nat} {X : AVal} (hrt : hb rt = some (.row 2 [.agg [.nilsl, X]])) (hsub : ∀ q o, h0 q = some o → q ≠ rt ∧ hb q = some o)
    (good : ∀ vU vV fN h', Intss vU (tidyUp up) → OwnV h0 vV fN val h' → K (.tuple [.agg [vU, vV], .int .i64 0]) h') :
    ∀ d a : Nat, a + d = up.length → ∀ vU vV LU fN h, All2 Ints LU ((tidyUp up).take a) → Own hb ([.cell ro (.row 2 [.agg [vU, vV]]), .slc 1 vU LU, .slc 1 vV ((List.range a).map fN)] ++ rowsS a fN val) h → s39l1 K (d + 1) (.lptr [mU, mV]) (.ptr rt 0 0) (.lptr [f]) (.ptr ro 0 0) up.length (a : Int) h
  | 0, a, hd, vU, vV, LU, fN, h, aU, Ow => by
    obtain rfl : a = up.length := by omega
    have hlen : (tidyUp up).length = up.length := by simp [tidyUp]
    rw [List.take_of_length_le (by omega)] at aU
    unfold s39l1
    refine ifT_neg (by simp) ?_
    rw [ldN2 (Ow.get 0 _ ro rfl rfl), tCons_cons, tCons_cons, tNil_nil]
    refine st_all (Ow.old _ _ hrt) rfl ?_
    rw [ldN2 (Heap.set_same _ _ _), tCons_cons, tCons_cons, tNil_nil]
    have W1 := Ow.base (x := .row 2 [.agg [vU, vV]]) hrt
    let Sg : Nat → Prop := fun n => nameOf vU n ∨ nameOf vV n
    obtain ⟨u', lu, su⟩ := W1.lit (i := 1) rfl (S := Sg) (fun n h => .inl h) (Lits.refl LU)
    obtain ⟨v', lv, sv⟩ := W1.lit (i := 2) rfl (S := Sg) (fun n h => .inr h) (Lits.refl _)
    have Wr : Own (hb.set rt (.row 2 [.agg [vU, vV]])) (rowsS up.length fN val) _ := W1.renum _ (fun j => j + 3) (fun j y hj => hj) (fun j _ k _ e => by omega)
    obtain ⟨h2, g2, W2⟩ := Wr.step Sg (rowsS up.length fN val) (fun n hn => by
      rcases hn with hn | hn
      · exact W1.new 1 _ n rfl hn
      · exact W1.new 2 _ n rfl hn) (fun j y hj => ⟨y, hj, Wr.fit j y hj, fun n hn => ⟨hn, by
        rintro (hm | hm)
        · have := W1.one (j + 3) 1 y _ n hj rfl hn hm; omega
        · have := W1.one (j + 3) 2 y _ n hj rfl hn hm; omega⟩, .refl _⟩)
    obtain ⟨h3, hs3, W3⟩ := W2.shrink (h0 := h0) (fun q o hq => by
      rw [Heap.set_ne _ _ (hsub q o hq).1]
      exact (hsub q o hq).2)
    refine ⟨Sg, .tuple [.agg [u', v'], .int .i64 0], h3, .tuple (.cons (.agg (.cons lu (.cons lv .nil))) (.cons (.refl _) .nil)), g2.sub hs3, good u' v' fN h3 ⟨_, su, aU⟩ ⟨?_, ?_⟩⟩
    · rw [hl]; exact sv
    · rw [hl]; exact W3
  | d + 1, a, hd, vU, vV, LU, fN, h, aU, Ow => by
    have ha : a < up.length := by omega
    have hlen : (tidyUp up).length = up.length := by simp [tidyUp]
    have hLU : LU.length ≤ 512 := by have := aU.length; simp at this; omega
    unfold s39l1
    refine ifT_pos (by simp; omega) (newRow_in fun r3 hr3 => st_elem (Heap.set_same _ _ _) rfl rfl ?_)
    rw [show [AVal.int .i64 0].set 0 (.int .i64 (a : Int)) = [.int .i64 (a : Int)] from rfl, Heap.set_set, ldN_agg2, tCons_cons, tCons_cons, tNil_nil]
    refine callG_of (all_ok (p := startB up a) hU (by omega) (fun b hb h' K' hs hk' => over_call hF ha hb (fun K => ld1_one (hs _ _ (Heap.set_same _ _ _)) rfl K) hk') fun ov hov => ?_)
    refine newRow_in fun r4 hr4 => chk_iff.2 ⟨hov.notAgg.2, st_elem (Heap.set_same _ _ _) rfl rfl ?_⟩
    have hova : ov.isAgg = false := by rcases hov with rfl | ⟨rfl, _⟩ <;> rfl
    rw [show [AVal.nilsl].set 0 ov = [ov] from rfl, Heap.set_set, ld1_one (Heap.set_same _ _ _) hova, hov.len]
    have hne : r4 ≠ r3 := fun e => by rw [e, Heap.set_same] at hr4; cases hr4
    have hr4' : h r4 = none := by rwa [Heap.set_ne _ _ hne] at hr4
    have hlo2 : (natI ((List.range up.length).filter (startB up a))).length = (overL up a).length := by simp [natI, overL]
    rw [hlo2]
    refine ⟨fun q => q = r3 ∨ q = r4, [.lptr [mU, mV], .ptr rt 0 0, .lptr [f], .ptr ro 0 0, .lptr [.int .i64 (a : Int)], .func (.func 70) [] [.lptr [ov], .lptr [f]], .nilsl, .int .i64 up.length, .int .i64 (a : Int), ov, .int .i64 (overL up a).length, .int .i64 0], h, ?_, ?_, rfl, (overL up a).length + 1, ?_⟩
    · have h3 : ((h.set r3 (.row 1 [.int .i64 (a : Int)])).set r4 (.row 1 [ov])) r3 = some (.row 1 [.int .i64 (a : Int)]) := by rw [Heap.set_ne _ _ hne.symm, Heap.set_same]
      refine .cons (.refl _) (.cons (.refl _) (.cons (.refl _) (.cons (.refl _) (.cons (.ptr (.inl rfl) h3 rfl (Lits.refl _)) (.cons (.func .nil (.cons (.ptr (.inr rfl) (Heap.set_same _ _ _) rfl ?_) (Lits.refl _))) (Lits.refl _))))))
      rw [List.drop_zero, cells_of_notAgg hova]
      exact Lits.refl _
    · refine ⟨fun _ _ => trivial, fun q o hq => ⟨o, ?_, ?_, .refl o⟩⟩
      · exact Heap.set_sub hr4 q o (Heap.set_sub hr3 q o hq)
      · rintro (e | e)
        · rw [e, hr3] at hq; cases hq
        · rw [e, hr4'] at hq; cases hq
    · have := tidyO_l2 hn hF ha hl S hV hov (F := s39l1 K (d + 1)) (t2 := .ptr rt 0 0) (t24 := up.length) (hb := hb) (ro := ro) (mU := mU) (K := K) (vU := vU) (vV := vV) (fN := fN) hLU (fun vU' vV' row' f' h' s1 W' => ?_) (overL up a).length 0 (by omega) .nilsl h (Ow.newN 1)
      · exact this
      · have := tidyO_l1 hn hF hU hl S hV hrt hsub good d (a + 1) (by omega) vU' vV' (LU ++ [row']) f' h' ?_ W'
        · exact this
        · rw [List.take_succ_eq_append_getElem (by omega)]
          refine aU.append (.cons ?_ .nil)
          have hga : (tidyUp up)[a]'(by omega) = natI (tidyRow up a) := by simp [tidyUp]
          rw [hga]
          exact s1

theorem tidyO_ok (S : Small up val) (hU : Intss mU up) (hV : Strss mV val) (hW : WF up val) (good : ∀ vU vV fN h', Intss vU (tidyUp up) → OwnV h vV fN val h' → K (.tuple [.agg [vU, vV], .int .i64 0]) h') :
    ACalls prog 39 [.agg [mU, mV]] h K := by
  refine s39_ok ?_
  unfold s39
  refine newRow_in fun rt hrt => callG_of (asked_ok (l := []) S hU hV (.inr ⟨rfl, rfl⟩) (by simp) (fun hn => absurd hW hn) (fun _ hW => absurd (by simp) hW) fun hW _ f hF => ?_)
  simp only [tTup_tuple, tCons_cons, tInt_int, tNil_nil]
  have hFc : Go.Sym.sc f = true ∧ f.isAgg = false := by obtain ⟨o, rfl, _⟩ := hF; exact ⟨rfl, rfl⟩
  refine newRow_in fun r hr => chk_iff.2 ⟨hFc.1, st_elem (Heap.set_same _ _ _) rfl rfl (ifT_neg rfl (newRow_in fun ro hro => ?_))⟩
  rw [Heap.set_set] at hro ⊢
  rw [hU.len]
  have hne2 : ro ≠ r := fun e => by rw [e, Heap.set_same] at hro; cases hro
  have hro' : (h.set rt (.row 2 [.agg [.nilsl, .nilsl]])) ro = none := by rwa [Heap.set_ne _ _ hne2] at hro
  refine ⟨fun q => q = r, [.lptr [mU, mV], .ptr rt 0 0, .lptr [f], .ptr ro 0 0, .int .i64 up.length, .int .i64 0], (h.set rt (.row 2 [.agg [.nilsl, .nilsl]])).set ro (.row 2 [.agg [.nilsl, .nilsl]]), ?_, ?_, rfl, up.length + 1, ?_⟩
  · refine .cons (.refl _) (.cons (.refl _) (.cons (.ptr rfl (by rw [Heap.set_ne _ _ hne2.symm]; exact Heap.set_same _ _ _) rfl ?_) (Lits.refl _)))
    rw [List.drop_zero]
    show Lits _ _ (cellsOf f) [f]
    rw [cells_of_notAgg hFc.2]
    exact Lits.refl _
  · refine ⟨fun _ _ => trivial, fun q o hq => ?_⟩
    rw [Heap.set_get] at hq
    split at hq
    · rename_i e
      subst e
      cases hq
      exact ⟨_, Heap.set_same _ _ _, hne2, .refl _⟩
    · rename_i e
      refine ⟨o, ?_, (fun e' => by rw [e', hr] at hq; cases hq), .refl _⟩
      rw [Heap.set_ne _ _ e, Heap.set_ne _ _ (fun e' => by rw [e', hr] at hq; cases hq)]
      exact hq
  · have := tidyO_l1 (hb := h.set rt (.row 2 [.agg [.nilsl, .nilsl]])) (ro := ro) hW.max hF hU hW.len S hV (Heap.set_same _ _ _) (fun q o hq => ⟨(fun e => by rw [e, hrt] at hq; cases hq), Heap.set_sub hrt q o hq⟩) good up.length 0 (by omega) .nilsl .nilsl [] (fun _ => .nilsl) _ .nil ((((Own.start _).newC hro' (.row 2 [.agg [.nilsl, .nilsl]])).newN 1).newN 1)
    exact this

theorem tidiedO_ok (S : Small up val) (hU : Intss mU up) (hV : Strss mV val) (W : WF up val) (good : ∀ vU vV fN h', Intss vU (tidyUp up) → OwnV h vV fN val h' → K (.agg [vU, vV]) h') : ACalls prog 36 [.agg [mU, mV]] h K := by
  refine s36_ok ?_
  unfold s36
  refine newRow_in fun r hr => newRow_in fun r1 hr1 => ?_
  have hne : r1 ≠ r := fun e => by rw [e, Heap.set_same] at hr1; cases hr1
  have g0 : ((h.set r (.row 2 [.agg [mU, mV]])).set r1 (.row 2 [.agg [.nilsl, .nilsl]])) r = some (.row 2 [.agg [mU, mV]]) := by rw [Heap.set_ne _ _ hne.symm, Heap.set_same]
  have g1 := Heap.set_same (h.set r (.row 2 [.agg [mU, mV]])) r1 (.row 2 [.agg [.nilsl, .nilsl]])
  rw [ldN2 g0, tCons_cons, tCons_cons, tNil_nil]
  refine callG_of (tidyO_ok S hU hV W fun vU vV fN h2 hvU hvV => ?_)
  simp only [tTup_tuple, tCons_cons, tInt_int, tNil_nil, tAgg_agg]
  have W2 := hvV.2
  refine st_all (W2.old _ _ g0) rfl ?_
  have W3 := W2.base (x := .row 2 [.agg [vU, vV]]) g0
  rw [ldN2 (Heap.set_same _ _ _), tCons_cons, tCons_cons, tNil_nil]
  have g2 : (((h.set r (.row 2 [.agg [mU, mV]])).set r1 (.row 2 [.agg [.nilsl, .nilsl]])).set r (.row 2 [.agg [vU, vV]])) r1 = some (.row 2 [.agg [.nilsl, .nilsl]]) := by rw [Heap.set_ne _ _ hne]; exact g1
  refine st_all (W3.old _ _ g2) rfl ?_
  have W4 := W3.base (x := .row 2 [.agg [vU, vV]]) g2
  rw [ldN2 (Heap.set_same _ _ _), tCons_cons, tCons_cons, tNil_nil]
  obtain ⟨h3, hs3, W5⟩ := W4.shrink (h0 := h) (fun q o hq => by
    have h1 : q ≠ r := fun e => by rw [e, hr] at hq; cases hq
    have h2 : q ≠ r1 := fun e => by
      have := Heap.set_sub (o := .row 2 [.agg [mU, mV]]) hr q o hq
      rw [e, hr1] at this
      cases this
    rw [Heap.set_ne _ _ h2, Heap.set_ne _ _ h1, Heap.set_ne _ _ h2, Heap.set_ne _ _ h1]
    exact hq)
  exact retG_drop hs3 (good vU vV fN h3 hvU ⟨hvV.1, W5⟩)
end Go.Proofs.Ytinficcdpggiaaa

namespace Go.Proofs.Ytinficcdpggiaaa
open Go Go.Sym Go.Proofs.Try

variable {K : AVal → Heap → Prop} {h h0 hb : Heap} {up : List (List Int)} {val : List (List ByteArray)} {mU mV nU nV : AVal}

theorem partO_l1 (S : Small up val) (W : WF up val) (hV : Strss mV val) {L : List Nat} (hL : Worlds up L) (hLl : L.length ≤ 512) (hLu : L.length ≤ up.length) {vl o : AVal} (hl : Ints vl (natI L)) (hO : Intss o (ordUp up)) {ro rt : Nat} {X Y : AVal} (ht : hb rt = some (.row 2 [.agg [X, Y]])) (hsub : ∀ q o, h0 q = some o → q ≠ rt ∧ hb q = some o)
    (good : ∀ vU vV fN h', Intss vU (tidyUp (subUp up L)) → OwnV h0 vV fN (subVal val L) h' → K (.agg [vU, vV]) h') :
    ∀ d a : Nat, a + d = L.length → ∀ vU vV LU LV h (rows : List (List Int)), All2 Ints LU rows → rows.length = a → (∀ a' k, a' < a → k < L.length → k ≠ a' → Reach up (L.getD a' 0) (L.getD k 0) → Step rows a' k) →
      (∀ a' r, rows[a']? = some r → r.length ≤ 512 ∧ ∀ b ∈ r, ∃ k, b = ((k : Nat) : Int) ∧ k < L.length ∧ Reach up (L.getD a' 0) (L.getD k 0)) → All2 Strs LV ((subVal val L).take a) → UV hb ro vU vV vU LU vV LV h →
      s30l1 K (d + 1) o vl (.lptr [mU, mV]) (.ptr rt 0 0) (.ptr ro 0 0) vl (L.length : Int) (a : Int) h
  | 0, a, hd, vU, vV, LU, LV, h, rows, hR, hrl, hhas, honly, hLV, Ow => by
    obtain rfl : a = L.length := by omega
    have hsv : (subVal val L).length = L.length := by simp [subVal]
    rw [List.take_of_length_le (by omega)] at hLV
    have SR : SubRows up L rows := ⟨hrl, hhas, fun a' r hr => (honly a' r hr).2⟩
    unfold s30l1
    refine ifT_neg (by simp) ?_
    rw [ldN2 (Ow.get 0 _ ro rfl rfl), tCons_cons, tCons_cons, tNil_nil]
    let Sg : Nat → Prop := fun n => nameOf vU n ∨ nameOf vV n
    obtain ⟨u', lu, su⟩ := Ow.lit (i := 1) rfl (S := Sg) (fun n h => .inl h) (Lits.refl LU)
    obtain ⟨v', lv, sv⟩ := Ow.lit (i := 2) rfl (S := Sg) (fun n h => .inr h) (Lits.refl LV)
    have SS : Small rows (subVal val L) := ⟨by omega, by omega, fun r hr => by
      obtain ⟨i, hi, e⟩ := List.mem_iff_getElem.1 hr
      have := (honly i r (by rw [List.getElem?_eq_getElem hi, e])).1
      omega, fun l hl => by
      simp only [subVal, List.mem_map] at hl
      obtain ⟨x, hx, rfl⟩ := hl
      have hxl : x < val.length := by rw [W.len]; exact hL.lt x hx
      rw [getD_val hxl]
      exact S.names _ (List.getElem_mem hxl)⟩
    refine ⟨Sg, [.agg [u', v']], hb, .cons (.agg (.cons lu (.cons lv .nil))) .nil, Own.toBase Ow Sg (fun n hn => by
      rcases hn with hn | hn
      · exact Ow.new 1 _ n rfl hn
      · exact Ow.new 2 _ n rfl hn), tidiedO_ok (up := rows) (val := subVal val L) SS ⟨_, su, hR⟩ ⟨_, sv, hLV⟩ (SR.wf W hL hLu) fun a b fN h2 ha hbv => ?_⟩
    simp only [tAgg_agg, tCons_cons, tNil_nil]
    refine st_all (hbv.2.old _ _ ht) rfl ?_
    rw [ldN2 (Heap.set_same _ _ _), tCons_cons, tCons_cons, tNil_nil]
    rw [SR.tidy] at ha
    have W3 := hbv.2.base (x := .row 2 [.agg [a, b]]) ht
    obtain ⟨h3, hs3, W5⟩ := W3.shrink (h0 := h0) (fun q o hq => by
      rw [Heap.set_ne _ _ (hsub q o hq).1]
      exact (hsub q o hq).2)
    exact retG_drop hs3 (good a b fN h3 ha ⟨hbv.1, W5⟩)
  | d + 1, a, hd, vU, vV, LU, LV, h, rows, hR, hrl, hhas, honly, hLV, Ow => by
    have ha : a < L.length := by omega
    have hmax := W.max
    have hsv : (subVal val L).length = L.length := by simp [subVal]
    have hal : L.getD a 0 < up.length := by rw [getD_mem ha]; exact hL.lt _ (List.getElem_mem ha)
    have hUl := hR.length
    have hVl := hLV.length
    rw [List.length_take] at hVl
    obtain ⟨e, he, hie⟩ := hO.ix (i := L.getD a 0) (by rw [ordUp_len]; exact hal)
    rw [ordUp_get hal] at he
    unfold s30l1
    refine ifT_pos (by simp; omega) ?_
    rw [hl.ix (i := a) (by simpa [natI] using ha), ld1_lptr, tInt_int]
    have hrow : (natI L)[a]'(by simpa [natI] using ha) = ((L.getD a 0 : Nat) : Int) := by rw [getD_mem ha]; simp [natI]
    rw [hrow, hie, ld1_lptr, he.len, show (natI (aboveL up (L.getD a 0))).length = (aboveL up (L.getD a 0)).length by simp [natI]]
    refine s30l2_in ((aboveL up (L.getD a 0)).length + 1) ?_
    have hab := above_len (up := up) (a := L.getD a 0)
    refine part_l2 S W hV hL hLl hl ha he (by omega) (by omega) (fun vU' vV' row' cp R h' P hr hc W' => ?_) _ 0 (by omega) [] .nilsl h ⟨fun k hk hne hi => by obtain ⟨i, hi, _⟩ := hi; omega, fun k hk => by simp at hk, by simp⟩ (Ow.newN 1)
    obtain ⟨p1, p2⟩ := P.rows W hL ha
    have hPl := P.len
    refine partO_l1 S W hV hL hLl hLu hl hO ht hsub good d (a + 1) (by omega) vU' vV' _ _ h' (rows ++ [natI R]) (hR.append (.cons hr .nil)) (by simp [hrl]) (fun a' k ha' hk hne hRe => ?_) (fun a' r hr' => ?_) ?_ W'
    · by_cases e1 : a' = a
      · subst e1
        exact ⟨natI R, by rw [List.getElem?_append_right (by omega)]; simp [hrl], p1 k hk hne hRe⟩
      · obtain ⟨r, hr1, hr2⟩ := hhas a' k (by omega) hk hne hRe
        exact ⟨r, by rw [List.getElem?_append_left (List.getElem?_eq_some_iff.1 hr1).1]; exact hr1, hr2⟩
    · by_cases e1 : a' < rows.length
      · rw [List.getElem?_append_left e1] at hr'
        exact honly a' r hr'
      · rw [List.getElem?_append_right (by omega)] at hr'
        have h3 := (List.getElem?_eq_some_iff.1 hr').1
        simp only [List.length_singleton] at h3
        obtain rfl : a' = a := by omega
        have e2 : r = natI R := by simpa [hrl] using hr'.symm
        subst e2
        exact ⟨by simp [natI]; omega, p2⟩
    · rw [List.take_succ_eq_append_getElem (by omega)]
      refine hLV.append (.cons ?_ .nil)
      have : (subVal val L)[a] = val.getD (L.getD a 0) [] := by rw [getD_mem ha]; simp [subVal]
      rw [this]
      exact hc

theorem partO_ok (S : Small up val) (W : WF up val) (hV : Strss mV val) {L : List Nat} (hL : Worlds up L) (hLu : L.length ≤ up.length) {vl o : AVal} (hl : Ints vl (natI L)) (hO : Intss o (ordUp up))
    (good : ∀ vU vV fN h', Intss vU (tidyUp (subUp up L)) → OwnV h0 vV fN (subVal val L) h' → K (.agg [vU, vV]) h') : ACalls prog 30 [.agg [mU, mV], o, vl] h0 K := by
  have hmax := W.max
  refine s30_ok ?_
  unfold s30
  refine newRow_in fun rt hrt => newRow_in fun ro hro => ?_
  rw [hl.len, show (natI L).length = L.length by simp [natI]]
  refine s30l1_in (L.length + 1) ?_
  refine partO_l1 (X := .nilsl) (Y := .nilsl) (hb := h0.set rt (.row 2 [.agg [.nilsl, .nilsl]])) S W hV hL (by omega) hLu hl hO (Heap.set_same _ _ _) (fun q o hq => ⟨(fun e => by rw [e, hrt] at hq; cases hq), Heap.set_sub hrt q o hq⟩) good L.length 0 (by omega) .nilsl .nilsl [] [] _ [] .nil rfl (fun a' k h => by omega) (fun a' r h => by simp at h) .nil ?_
  exact (((Own.start _).newC hro (.row 2 [.agg [.nilsl, .nilsl]])).newN 1).newN 1

theorem aboveO_ok (S : Small up val) (hU : Intss mU up) (hV : Strss mV val) (w : Int) (bad : ¬ WF up val → K (.tuple [.agg [.nilsl, .nilsl], .nilsl, .int .i64 170]) h0) (out : WF up val → ¬ (0 ≤ w ∧ w < up.length) → K (.tuple [.agg [.nilsl, .nilsl], .nilsl, .int .i64 2]) h0)
    (good : WF up val → ∀ x : Nat, w = x → x < up.length → ∀ vU vV vl fN h', Intss vU (tidyUp (subUp up (aboveL up x))) → OwnV h0 vV fN (subVal val (aboveL up x)) h' → Ints vl (natI (aboveL up x)) → K (.tuple [.agg [vU, vV], vl, .int .i64 0]) h') :
    ACalls prog 9 [.agg [mU, mV], .int .i64 w] h0 K := by
  refine s9_ok ?_
  unfold s9
  refine newRow_in fun rt hrt => ?_
  have ht := Heap.set_same h0 rt (.row 2 [.agg [.nilsl, .nilsl]])
  have hsub : ∀ q o, h0 q = some o → q ≠ rt ∧ (h0.set rt (.row 2 [.agg [.nilsl, .nilsl]])) q = some o := fun q o hq => ⟨(fun e => by rw [e, hrt] at hq; cases hq), Heap.set_sub hrt q o hq⟩
  refine callG_of (reckonM_ok S hU hV (fun hW => ?_) (fun W o hO => ?_))
  · simp only [tTup_tuple, tCons_cons, tInt_int, tNil_nil]
    exact ifT_pos rfl (fail_ok ht hsub (bad hW))
  · simp only [tTup_tuple, tCons_cons, tInt_int, tNil_nil]
    refine ifT_neg rfl ?_
    by_cases h1 : w < 0
    · exact ifT_pos (decide_eq_true h1) (ifT_pos rfl (fail_ok ht hsub (out W (by omega))))
    · refine ifT_neg (decide_eq_false h1) ?_
      rw [hO.len, ordUp_len]
      by_cases h2 : (up.length : Int) ≤ w
      · exact ifT_pos (decide_eq_true h2) (fail_ok ht hsub (out W (by omega)))
      · obtain ⟨x, rfl⟩ := Int.eq_ofNat_of_zero_le (by omega : 0 ≤ w)
        have hx : x < up.length := by omega
        have hmax := W.max
        have hab := above_len (up := up) (a := x)
        obtain ⟨e, he, hie⟩ := hO.ix (i := x) (by rw [ordUp_len]; exact hx)
        rw [ordUp_get hx] at he
        refine ifT_neg (decide_eq_false h2) ?_
        rw [hie, ld1_lptr]
        refine callG_of (cloneI_ok he (by simp [natI]; omega) fun vl hl => ?_)
        rw [ldN_agg2]
        simp only [tCons_cons, tNil_nil]
        refine callG_of (partO_ok S W hV (above_worlds W hx) hab hl hO fun a b fN h2 ha hbv => ?_)
        simp only [tAgg_agg, tCons_cons, tNil_nil]
        refine st_all (hbv.2.old _ _ ht) rfl ?_
        rw [ldN2 (Heap.set_same _ _ _), tCons_cons, tCons_cons, tNil_nil]
        have W3 := hbv.2.base (x := .row 2 [.agg [a, b]]) ht
        obtain ⟨h3, hs3, W5⟩ := W3.shrink (h0 := h0) (fun q o hq => by
          rw [Heap.set_ne _ _ (hsub q o hq).1]
          exact (hsub q o hq).2)
        exact retG_drop hs3 (good W x rfl hx a b vl fN h3 ha ⟨hbv.1, W5⟩ hl)

/- ---- reads ---- -/
structure RdS (h : Heap) (e : AVal) (l : List ByteArray) : Prop where
  len : ∀ K : Int → Prop, lenN e K = K l.length
  ix : ∀ i (hi : i < l.length) (K : AVal → Prop), K (.str l[i]) → ixS 1 e (i : Int) fun p => ld1 h p K
structure RdSS (h : Heap) (v : AVal) (ll : List (List ByteArray)) : Prop where
  len : ∀ K : Int → Prop, lenN v K = K ll.length
  ix : ∀ i (hi : i < ll.length), ∃ e, RdS h e ll[i] ∧ ∀ K : AVal → Prop, K e → ixS 1 v (i : Int) fun p => ld1 h p K
theorem namesR_loop {a b : AVal} {l : List ByteArray} (ha : RdS h a l) (hb : Strs b l) (hm : l.length ≤ 1073741824) (hk : K (.bool true) h) : ∀ d i : Nat, i + d = l.length → s23l1 K (d + 1) a b (i : Int) h
  | 0, i, hd => by
    unfold s23l1
    rw [ha.len]
    exact ifT_neg (by simp; omega) (retG_of hk)
  | d + 1, i, hd => by
    have hi : i < l.length := by omega
    unfold s23l1
    rw [ha.len]
    refine ifT_pos (by simp; omega) (ha.ix i hi _ ?_)
    rw [tStr_str, hb.ix hi, ld1_lptr, tStr_str, strEq_dec]
    exact ifT_neg (by simp) (rg_of (by omega) (by omega) (s23l1_go (namesR_loop ha hb hm hk d (i + 1) (by omega))))
theorem namesR_ok {a b : AVal} {l : List ByteArray} (ha : RdS h a l) (hb : Strs b l) (hm : l.length ≤ 1073741824) (hk : K (.bool true) h) : ACalls prog 23 [a, b] h K := by
  refine s23_ok ?_
  unfold s23
  rw [ha.len, hb.len]
  exact ifT_neg (by simp) (s23l1_in (l.length + 1) (namesR_loop ha hb hm hk l.length 0 (by omega)))
theorem sameR_l3 (hvl : val.length ≤ 1048576) (hsn : ∀ l ∈ val, l.length ≤ 1048576) (hV : RdSS h mV val) (hV' : Strss nV val) (hk : K (.bool true) h) : ∀ d i : Nat, i + d = val.length → s19l3 K (d + 1) (.lptr [mU, mV]) (.lptr [nU, nV]) (i : Int) h
  | 0, i, hd => by
    unfold s19l3
    rw [addOff_lptr]
    simp only [List.drop_succ_cons, List.drop_zero, ld1_lptr]
    rw [hV.len]
    exact ifT_neg (by simp; omega) (retG_of hk)
  | d + 1, i, hd => by
    have hi : i < val.length := by omega
    have hSn := hsn _ (List.getElem_mem hi)
    obtain ⟨e1, h1, ix1⟩ := hV.ix i hi
    obtain ⟨e2, h2, ix2⟩ := hV'.ix hi
    unfold s19l3
    rw [addOff_lptr]
    simp only [List.drop_succ_cons, List.drop_zero, ld1_lptr]
    rw [hV.len]
    refine ifT_pos (by simp; omega) ?_
    simp only [addOff_lptr, List.drop_succ_cons, List.drop_zero, ld1_lptr]
    refine ix1 _ ?_
    rw [ix2, ld1_lptr]
    refine callG_of (namesR_ok h1 h2 (by omega) ?_)
    rw [tBool_bool]
    exact ifT_neg rfl (rg_of (by omega) (by omega) (s19l3_go (sameR_l3 hvl hsn hV hV' hk d (i + 1) (by omega))))
theorem sameR_l2 (hul : up.length ≤ 1048576) (hur : ∀ r ∈ up, r.length ≤ 1048576) (hvl : val.length ≤ 1048576) (hsn : ∀ l ∈ val, l.length ≤ 1048576) (hU : Intss mU up) (hV : RdSS h mV val) (hU' : Intss nU up) (hV' : Strss nV val) (hk : K (.bool true) h) :
    ∀ d i : Nat, i + d = up.length → s19l2 K (d + 1) (.lptr [mU, mV]) (.lptr [nU, nV]) (i : Int) h
  | 0, i, hd => by
    unfold s19l2
    rw [addOff_lptr]
    simp only [List.drop_zero, ld1_lptr]
    rw [hU.len]
    exact ifT_neg (by simp; omega) (s19l3_in (val.length + 1) (sameR_l3 hvl hsn hV hV' hk val.length 0 (by omega)))
  | d + 1, i, hd => by
    have hi : i < up.length := by omega
    have hSn := hur _ (List.getElem_mem hi)
    obtain ⟨e1, h1, ix1⟩ := hU.ix hi
    obtain ⟨e2, h2, ix2⟩ := hU'.ix hi
    unfold s19l2
    rw [addOff_lptr]
    simp only [List.drop_zero, ld1_lptr]
    rw [hU.len]
    refine ifT_pos (by simp; omega) ?_
    simp only [addOff_lptr, List.drop_zero, ld1_lptr, ix1, ix2]
    refine callG_of (ints_ok h1 h2 (by omega) ?_)
    rw [tBool_bool]
    exact ifT_neg (by simp) (rg_of (by omega) (by omega) (s19l2_go (sameR_l2 hul hur hvl hsn hU hV hU' hV' hk d (i + 1) (by omega))))
theorem sameR_ok (hul : up.length ≤ 1048576) (hur : ∀ r ∈ up, r.length ≤ 1048576) (hvl : val.length ≤ 1048576) (hsn : ∀ l ∈ val, l.length ≤ 1048576) (hU : Intss mU up) (hV : RdSS h mV val) (hU' : Intss nU up) (hV' : Strss nV val) (hk : K (.bool true) h) : ACalls prog 19 [.agg [mU, mV], .agg [nU, nV]] h K := by
  refine s19_ok ?_
  unfold s19
  rw [hU.len, hU'.len]
  refine ifT_neg (by simp) ?_
  rw [hV.len, hV'.len]
  refine ifT_neg (by simp) (s19l2_in (up.length + 1) (sameR_l2 hul hur hvl hsn hU hV hU' hV' hk up.length 0 (by omega)))
theorem toldR_ok {l l' : AVal} {k : List Int} {e : Int} (hul : up.length ≤ 1048576) (hur : ∀ r ∈ up, r.length ≤ 1048576) (hvl : val.length ≤ 1048576) (hsn : ∀ l ∈ val, l.length ≤ 1048576) (hU : Intss mU up) (hV : RdSS h mV val) (hU' : Intss nU up) (hV' : Strss nV val) (h1 : Ints l k) (h2 : Ints l' k) (hkl : k.length ≤ 1048576) (hk : K (.bool true) h) :
    ACalls prog 11 [.agg [mU, mV], l, .int .i64 e, .agg [nU, nV], l', .int .i64 e] h K := by
  refine s11_ok ?_
  unfold s11
  refine callG_of (sameR_ok hul hur hvl hsn hU hV hU' hV' ?_)
  rw [tBool_bool]
  refine ifT_pos rfl (callG_of (ints_ok h1 h2 (by omega) ?_))
  rw [tBool_bool]
  exact ifT_pos (by simp) (retG_of (by simpa using hk))
theorem OwnV.rd {vV : AVal} {f : Nat → AVal} (O : OwnV h0 vV f val h) : RdSS h vV val where
  len K := by rw [lenN_of O.1]; simp
  ix i hi := by
    have hi2 : i < val.length := hi
    have hg := rowsS_get (f := f) (val := val) hi2
    have hgd : val.getD i [] = val[i] := getD_val hi2
    rw [hgd] at hg
    have hsc := O.2.sc hg
    refine ⟨f i, ⟨fun K => ?_, fun j hj K hk => ?_⟩, fun K hk => ?_⟩
    · rw [O.2.len hg]; simp
    · rcases O.2.fit i _ hg with ⟨_, e1⟩ | ⟨r, e1⟩
      · have : (val[i].map AVal.str).length = 0 := by rw [e1]; rfl
        simp at this
        have h0 : val[i].length = 0 := by rw [this]; rfl
        omega
      · have hr := O.2.get i _ r hg (by show nameOf (f i) r; rw [e1]; rfl)
        rw [e1]
        refine ixS_sl0 (by simpa using hj) ?_
        rw [ld1_ptr hr (e := .str val[i][j]) (by simp [hj]) rfl]
        exact hk
    · rw [ixS_nat O.1 (e := f i) (range_get _ hi2), hsc.2.1, ld1_lptr]
      exact hk
end Go.Proofs.Ytinficcdpggiaaa

namespace Go.Proofs.Ytinficcdpggiaaa
open Go Go.Sym Go.Proofs.Try

variable {K : AVal → Heap → Prop} {h h0 hb : Heap} {up : List (List Int)} {val : List (List ByteArray)} {mU mV oU oV : AVal}

theorem done_not_bad {x i i' : Nat} (D : UDone up x i) (h : ∀ j, j ≤ i' → j < (ust up x j).1.length) (hb : 512 < (ust up x (i' + 1)).1.length) : False := by
  have hm := D.max
  by_cases e : i ≤ i'
  · have h1 := h i e
    have h2 := D.all
    omega
  · have := ust_len_le (up := up) (w := x) (n := i) (j := i' + 1) (by omega)
    have h2 := D.all
    omega
theorem done_one {x i i' : Nat} (D : UDone up x i) (D' : UDone up x i') : i = i' := by
  have h1 := D.all
  have h2 := D'.all
  by_cases e : i < i'
  · have := D'.before i e; omega
  · by_cases e2 : i' < i
    · have := D.before i' e2; omega
    · omega
theorem small_nil : Small [] [] := ⟨by simp, by simp, fun r hr => by simp at hr, fun r hr => by simp at hr⟩
theorem intss_nil : Intss .nilsl [] := ⟨[], .nil 1, .nil⟩
theorem strss_nil : Strss .nilsl [] := ⟨[], .nil 1, .nil⟩
theorem ints_nil : Ints .nilsl [] := .nil 1

/-- both boxes, and the copy in the memory around -/
abbrev MM (hb : Heap) (r1 r2 : Nat) (a b : List AVal) (h : Heap) : Prop := Own hb [.cell r1 (.row 2 [.agg a]), .cell r2 (.row 2 [.agg b])] h

section
variable {r r1 r2 : Nat} {a0 a1 b0 b1 : AVal}
theorem makes_end (HH : runsTrue prog 20 20000 60 = true) (S : Small up val) (hU : Intss mU up) (hV : Strss mV val) (hoU : Intss oU up) (hoV : Strss oV val) (hr : hb r = some (.row 2 [.agg [oU, oV]])) (hs : ∀ q o, h0 q = some o → hb q = some o) (hk : K (.bool true) h0)
    (w : Int) (M : MM hb r1 r2 [a0, a1] [b0, b1] h) : s3c3 K w (.lptr [mU, mV]) (.ptr r 0 0) (.ptr r1 0 0) (.ptr r2 0 0) false h := by
  unfold s3c3
  refine ifT_neg rfl ?_
  rw [ldN2 (M.old _ _ hr)]
  simp only [tCons_cons, tNil_nil]
  have tail : ∀ (upT : List (List Int)) (valT : List (List ByteArray)) (kT : List Int) (e : Int) (aU aV al cU cV cl : AVal), Small upT valT → kT.length ≤ 1048576 → Intss aU upT → Strss aV valT → Ints al kT → Intss cU upT → Strss cV valT → Ints cl kT → ∀ h', MM hb r1 r2 [aU, aV] [cU, cV] h' →
      (ldN 2 h' (.ptr r1 0 0) fun l_78 => tCons l_78 fun v78 l_79 => tCons l_79 fun v79 l_80 => tNil l_80 (ldN 2 h' (.ptr r2 0 0) fun l_81 => tCons l_81 fun v80 l_82 => tCons l_82 fun v81 l_83 => tNil l_83 (
        callG prog 11 [(.agg [v78, v79]), al, (.int .i64 e), (.agg [v80, v81]), cl, (.int .i64 e)] h' fun v82 h_21 => tBool v82 fun v83 => ifT v83 (
          ldN 2 h_21 (.ptr r 0 0) fun l_84 => tCons l_84 fun v84 l_85 => tCons l_85 fun v85 l_86 => tNil l_86 (
            ldN 2 h_21 (.lptr [mU, mV]) fun l_87 => tCons l_87 fun v86 l_88 => tCons l_88 fun v87 l_89 => tNil l_89 (
              callG prog 19 [(.agg [v84, v85]), (.agg [v86, v87])] h_21 fun v88 h_22 => tBool v88 fun v89 => ifT v89 (
                callG prog 20 [] h_22 fun v90 h_23 => tBool v90 fun v91 => retG (.bool v91) h_23 K) (retG (.bool false) h_22 K)))) (retG (.bool false) h_21 K)))) := by
    intro upT valT kT e aU aV al cU cV cl ST hkl h1 h2 h3 h4 h5 h6 h' M'
    rw [ldN2 (M'.get 0 _ r1 rfl rfl)]
    simp only [tCons_cons, tNil_nil]
    rw [ldN2 (M'.get 1 _ r2 rfl rfl)]
    simp only [tCons_cons, tNil_nil]
    refine callG_of (told_ok (k' := []) ST h1 h2 h4 h5 h3 h6 hkl rfl ?_)
    rw [tBool_bool]
    refine ifT_pos rfl ?_
    rw [ldN2 (M'.old _ _ hr)]
    simp only [tCons_cons, tNil_nil]
    rw [ldN_agg2]
    simp only [tCons_cons, tNil_nil]
    refine callG_of (same_ok S hoU hoV hU hV ?_)
    rw [tBool_bool]
    exact ifT_pos (by simp) (heads_end HH (fun q o hq => M'.old q o (hs q o hq)) hk)
  refine callG_of (unravel_ok S hoU hoV w (fun hW => ?_) (fun W hw => ?_) (fun W x hx hxl i hj hbig => ?_) (fun W x hx hxl i D vU vV ve hTU hTV hTe => ?_))
  · simp only [tTup_tuple, tCons_cons, tInt_int, tNil_nil, tAgg_agg]
    refine st_all (M.get 0 _ r1 rfl rfl) rfl ?_
    have M1 := M.put (i := 0) rfl (.row 2 [.agg [.nilsl, .nilsl]])
    rw [ldN_agg2]
    simp only [tCons_cons, tNil_nil]
    refine callG_of (unravel19_ok S hU hV w (fun _ => ?_) (fun W => absurd W hW) (fun W => absurd W hW) (fun W => absurd W hW))
    simp only [tTup_tuple, tCons_cons, tInt_int, tNil_nil, tAgg_agg]
    refine st_all (M1.get 1 _ r2 rfl rfl) rfl ?_
    exact tail [] [] [] 170 _ _ _ _ _ _ small_nil (by simp) intss_nil strss_nil ints_nil intss_nil strss_nil ints_nil _ (M1.put (i := 1) rfl (.row 2 [.agg [.nilsl, .nilsl]]))
  · simp only [tTup_tuple, tCons_cons, tInt_int, tNil_nil, tAgg_agg]
    refine st_all (M.get 0 _ r1 rfl rfl) rfl ?_
    have M1 := M.put (i := 0) rfl (.row 2 [.agg [.nilsl, .nilsl]])
    rw [ldN_agg2]
    simp only [tCons_cons, tNil_nil]
    refine callG_of (unravel19_ok S hU hV w (fun hW => absurd W hW) (fun _ _ => ?_) (fun _ x hx hxl => absurd (by omega) hw) (fun _ x hx hxl => absurd (by omega) hw))
    simp only [tTup_tuple, tCons_cons, tInt_int, tNil_nil, tAgg_agg]
    refine st_all (M1.get 1 _ r2 rfl rfl) rfl ?_
    exact tail [] [] [] 2 _ _ _ _ _ _ small_nil (by simp) intss_nil strss_nil ints_nil intss_nil strss_nil ints_nil _ (M1.put (i := 1) rfl (.row 2 [.agg [.nilsl, .nilsl]]))
  · simp only [tTup_tuple, tCons_cons, tInt_int, tNil_nil, tAgg_agg]
    refine st_all (M.get 0 _ r1 rfl rfl) rfl ?_
    have M1 := M.put (i := 0) rfl (.row 2 [.agg [.nilsl, .nilsl]])
    rw [ldN_agg2]
    simp only [tCons_cons, tNil_nil]
    refine callG_of (unravel19_ok S hU hV w (fun hW => absurd W hW) (fun _ hw => absurd (by omega) hw) (fun _ x hx hxl i _ _ => ?_) (fun _ x' hx' hxl' i' D => ?_))
    · simp only [tTup_tuple, tCons_cons, tInt_int, tNil_nil, tAgg_agg]
      refine st_all (M1.get 1 _ r2 rfl rfl) rfl ?_
      exact tail [] [] [] 190 _ _ _ _ _ _ small_nil (by simp) intss_nil strss_nil ints_nil intss_nil strss_nil ints_nil _ (M1.put (i := 1) rfl (.row 2 [.agg [.nilsl, .nilsl]]))
    · obtain rfl : x = x' := by omega
      exact (done_not_bad D hj hbig).elim
  · simp only [tTup_tuple, tCons_cons, tInt_int, tNil_nil, tAgg_agg]
    refine st_all (M.get 0 _ r1 rfl rfl) rfl ?_
    have M1 := M.put (i := 0) rfl (.row 2 [.agg [vU, vV]])
    rw [ldN_agg2]
    simp only [tCons_cons, tNil_nil]
    refine callG_of (unravel19_ok S hU hV w (fun hW => absurd W hW) (fun _ hw => absurd (by omega) hw) (fun _ x' hx' hxl' i' hj hbig => ?_) (fun _ x' hx' hxl' i' D' cU cV ce hCU hCV hCe => ?_))
    · obtain rfl : x = x' := by omega
      exact (done_not_bad D hj hbig).elim
    · obtain rfl : x = x' := by omega
      obtain rfl := done_one D D'
      simp only [tTup_tuple, tCons_cons, tInt_int, tNil_nil, tAgg_agg]
      refine st_all (M1.get 1 _ r2 rfl rfl) rfl ?_
      have hDm := D.max
      have hall := D.all
      exact tail (treeUp up x i) (treeVal up val x i) (natI (ust up x i).1) 0 _ _ _ _ _ _ (tree_small S W hxl D) (by simp [natI]; omega) hTU hTV hTe hCU hCV hCe _ (M1.put (i := 1) rfl (.row 2 [.agg [cU, cV]]))

theorem makes_quot (HH : runsTrue prog 20 20000 60 = true) (S : Small up val) (hU : Intss mU up) (hV : Strss mV val) (hoU : Intss oU up) (hoV : Strss oV val) (hr : hb r = some (.row 2 [.agg [oU, oV]])) (hs : ∀ q o, h0 q = some o → hb q = some o) (hk : K (.bool true) h0)
    (w : Int) {X Y : AVal} (M : MM hb r1 r2 [X, Y] [b0, b1] h) {i : Int} (hYl : ∀ K : Int → Prop, lenN Y K = K i) (n : Nat) : s3l1 K (n + 1) w (.lptr [mU, mV]) (.ptr r 0 0) (.ptr r1 0 0) (.ptr r2 0 0) i h := by
  unfold s3l1
  rw [addOff_ptr, ld1_fld (M.get 0 _ r1 rfl rfl) rfl, hYl]
  refine ifT_neg (by simp) ?_
  rw [ldN2 (M.old _ _ hr)]
  simp only [tCons_cons, tNil_nil]
  by_cases W : WF up val
  · refine callG_of (quotient_ok S hoU hoV (fun hn => absurd W hn) (fun _ c rows vU vV cv C Q hQU hQV hQc => ?_))
    simp only [tTup_tuple, tCons_cons, tInt_int, tNil_nil, tAgg_agg]
    refine st_all (M.get 0 _ r1 rfl rfl) rfl ?_
    have M1 := M.put (i := 0) rfl (.row 2 [.agg [vU, vV]])
    rw [ldN_agg2]
    simp only [tCons_cons, tNil_nil]
    refine callG_of (quotient19_ok S hU hV (fun hn => absurd W hn) (fun _ d rows2 uU uV dv D Q2 hRU hRV hRc => ?_))
    simp only [tTup_tuple, tCons_cons, tInt_int, tNil_nil, tAgg_agg]
    refine st_all (M1.get 1 _ r2 rfl rfl) rfl ?_
    have M2 := M1.put (i := 1) rfl (.row 2 [.agg [uU, uV]])
    have hcd := C.uniq D
    have hcm : ∀ e : Nat → Nat, IsCls up val e → cMap up e = cMap up c := fun e E => by
      rw [cMap_eq, cMap_eq]
      exact List.map_congr_left fun x hx => by rw [E.uniq C x (List.mem_range.1 hx)]
    have hnx : nxt d up.length = nxt c up.length := nxt_congr _ fun j hj => (hcd j hj).symm
    have Q3 : QRows up c rows2 := ⟨by rw [Q2.len, hnx], fun k x hk => by
      rw [Q2.step k x (by rw [hnx]; exact hk)]
      have : qR up d k x ↔ qR up c k x := by
        unfold qR
        constructor
        · rintro ⟨u, b, hu, e1, hb, e2⟩
          exact ⟨u, b, hu, by rw [hcd u hu]; exact e1, hb, by rw [hcd b (hb.lt W.inR hu)]; exact e2⟩
        · rintro ⟨u, b, hu, e1, hb, e2⟩
          exact ⟨u, b, hu, by rw [← hcd u hu]; exact e1, hb, by rw [← hcd b (hb.lt W.inR hu)]; exact e2⟩
      rw [this], Q2.nn⟩
    have hqv : qVal up val d = qVal up val c := by
      refine List.ext_getElem (by rw [qVal_len, qVal_len, hnx]) fun k h1 h2 => ?_
      rw [qVal_len] at h1 h2
      have s1 := rep_spec D.rg h1
      have g1 : ∀ (L : List (List ByteArray)) (h : k < L.length), L[k] = L.getD k [] := fun L h => by simp [List.getD, h]
      rw [g1, g1, qVal_get h1]
      have := qVal_at C s1.1
      rw [hcd _ s1.1, s1.2] at this
      exact this.symm
    rw [Q3.uniq Q W C] at hRU
    rw [hqv] at hRV
    rw [hcm d D] at hRc
    have SQ := Q.small S W C
    have hmax := W.max
    have hcl : (cMap up c).length = up.length := by simp [cMap, natI]
    rw [ldN2 (M2.old _ _ hr)]
    simp only [tCons_cons, tNil_nil]
    refine callG_of (classesM_ok S hoU hoV (fun hn => absurd W hn) (fun _ v e E hE => ?_))
    rw [← cMap_eq, hcm e E] at hE
    simp only [tTup_tuple, tCons_cons, tInt_int, tNil_nil]
    rw [ldN_agg2]
    simp only [tCons_cons, tNil_nil]
    refine callG_of (classes19_ok S hU hV (fun hn => absurd W hn) (fun _ v' e' E' hE' => ?_))
    rw [hcm e' E'] at hE'
    simp only [tTup_tuple, tCons_cons, tInt_int, tNil_nil]
    rw [ldN2 (M2.get 0 _ r1 rfl rfl)]
    simp only [tCons_cons, tNil_nil]
    rw [ldN2 (M2.get 1 _ r2 rfl rfl)]
    simp only [tCons_cons, tNil_nil]
    refine callG_of (told_ok (k' := []) SQ hQU hQV hRU hRV hQc hRc (by omega) rfl ?_)
    rw [tBool_bool]
    refine ifT_neg rfl (callG_of (ints_ok hE hE' (by omega) ?_))
    rw [tBool_bool]
    exact ifT_neg (by simp) (makes_end HH S hU hV hoU hoV hr hs hk w M2)
  · refine callG_of (quotient_ok S hoU hoV (fun _ => ?_) (fun hW => absurd hW W))
    simp only [tTup_tuple, tCons_cons, tInt_int, tNil_nil, tAgg_agg]
    refine st_all (M.get 0 _ r1 rfl rfl) rfl ?_
    have M1 := M.put (i := 0) rfl (.row 2 [.agg [.nilsl, .nilsl]])
    rw [ldN_agg2]
    simp only [tCons_cons, tNil_nil]
    refine callG_of (quotient19_ok S hU hV (fun _ => ?_) (fun hW => absurd hW W))
    simp only [tTup_tuple, tCons_cons, tInt_int, tNil_nil, tAgg_agg]
    refine st_all (M1.get 1 _ r2 rfl rfl) rfl ?_
    have M2 := M1.put (i := 1) rfl (.row 2 [.agg [.nilsl, .nilsl]])
    rw [ldN2 (M2.old _ _ hr)]
    simp only [tCons_cons, tNil_nil]
    refine callG_of (classesM_ok S hoU hoV (fun _ => ?_) (fun hW => absurd hW W))
    simp only [tTup_tuple, tCons_cons, tInt_int, tNil_nil]
    rw [ldN_agg2]
    simp only [tCons_cons, tNil_nil]
    refine callG_of (classes19_ok S hU hV (fun _ => ?_) (fun hW => absurd hW W))
    simp only [tTup_tuple, tCons_cons, tInt_int, tNil_nil]
    rw [ldN2 (M2.get 0 _ r1 rfl rfl)]
    simp only [tCons_cons, tNil_nil]
    rw [ldN2 (M2.get 1 _ r2 rfl rfl)]
    simp only [tCons_cons, tNil_nil]
    refine callG_of (told_ok (k := []) (k' := []) small_nil intss_nil strss_nil intss_nil strss_nil ints_nil ints_nil (by simp) rfl ?_)
    rw [tBool_bool]
    refine ifT_neg rfl (callG_of (ints_ok ints_nil ints_nil (by simp) ?_))
    rw [tBool_bool]
    exact ifT_neg (by simp) (makes_end HH S hU hV hoU hoV hr hs hk w M2)

/- ---- what Above handed out is written ---- -/
def rowsW (n : Nat) (f : Nat → AVal) (L : Nat → List AVal) : List Ow := (List.range n).map fun k => .slc 1 (f k) (L k)
abbrev WM (hb : Heap) (r1 r2 : Nat) (a b : List AVal) (n : Nat) (f : Nat → AVal) (L : Nat → List AVal) (h : Heap) : Prop := Own hb ([.cell r1 (.row 2 [.agg a]), .cell r2 (.row 2 [.agg b])] ++ rowsW n f L) h
theorem rowsW_get {n k : Nat} {f : Nat → AVal} {L : Nat → List AVal} (hk : k < n) (a b : Ow) : ([a, b] ++ rowsW n f L)[k + 2]? = some (.slc 1 (f k) (L k)) := by
  show (rowsW n f L)[k]? = _
  exact range_get _ hk
theorem rowsW_set {n k : Nat} {f : Nat → AVal} {L : Nat → List AVal} {l : List AVal} (a b : Ow) : ([a, b] ++ rowsW n f L).set (k + 2) (.slc 1 (f k) l) = [a, b] ++ rowsW n f (upd L k l) := by
  show a :: b :: (rowsW n f L).set k _ = a :: b :: rowsW n f _
  congr 2
  unfold rowsW
  rw [map_set]
  refine List.map_congr_left fun x _ => ?_
  unfold upd
  split
  · rename_i e; rw [e]
  · rfl
structure LQ (L : Nat → List AVal) : Prop where
  len : ∀ k, (L k).length ≤ 1048576
  one : ∀ k, ∀ x ∈ L k, x.isAgg = false
theorem write_l2 {vU vV : AVal} {n : Nat} {f : Nat → AVal} (hvV : SlOf 1 vV ((List.range n).map f)) (hn : n ≤ 1048576) {w : Int} {m : AVal} {i : Nat} (hi : i < n) {b : List AVal} {F : Int → AVal → AVal → AVal → AVal → Int → Heap → Prop}
    (next : ∀ L h', LQ L → WM hb r1 r2 [vU, vV] b n f L h' → F w m (.ptr r 0 0) (.ptr r1 0 0) (.ptr r2 0 0) ((i : Int) + 1) h') :
    ∀ d k : Nat, ∀ L h, LQ L → k + d = (L i).length → WM hb r1 r2 [vU, vV] b n f L h → s3l2 K (s3l1_G F) (d + 1) w m (.ptr r 0 0) (.ptr r1 0 0) (.ptr r2 0 0) (i : Int) (k : Int) h
  | 0, k, L, h, Q, hd, W => by
    have hg := rowsW_get (f := f) (L := L) hi (.cell r1 (.row 2 [.agg [vU, vV]])) (.cell r2 (.row 2 [.agg b]))
    have hix : ∀ K : AVal → Prop, ixS 1 vV (i : Int) K = K (.lptr [f i]) := fun K => by rw [ixS_nat hvV (e := f i) (range_get _ hi), (W.sc hg).2.1]
    unfold s3l2
    rw [addOff_ptr, ld1_fld (W.get 0 _ r1 rfl rfl) rfl, hix, ld1_lptr, W.len hg]
    exact ifT_neg (by simp; omega) (rg_of (by omega) (by omega) (s3l1_go (next L h Q W)))
  | d + 1, k, L, h, Q, hd, W => by
    have hg := rowsW_get (f := f) (L := L) hi (.cell r1 (.row 2 [.agg [vU, vV]])) (.cell r2 (.row 2 [.agg b]))
    have hix : ∀ K : AVal → Prop, ixS 1 vV (i : Int) K = K (.lptr [f i]) := fun K => by rw [ixS_nat hvV (e := f i) (range_get _ hi), (W.sc hg).2.1]
    have hk : k < (L i).length := by omega
    have hll := Q.len i
    unfold s3l2
    rw [addOff_ptr, ld1_fld (W.get 0 _ r1 rfl rfl) rfl, hix, ld1_lptr, W.len hg]
    refine ifT_pos (decide_eq_true (by omega)) ?_
    rw [addOff_ptr, ld1_fld (W.get 0 _ r1 rfl rfl) rfl, hix, ld1_lptr]
    rcases W.fit _ _ hg with ⟨_, e1⟩ | ⟨rr, e1⟩
    · rw [e1] at hk
      simp at hk
    · have hgr := W.get _ _ rr hg (by show nameOf (f i) rr; rw [e1]; rfl)
      have hg2 := hg
      rw [e1] at hg2 ⊢
      refine ixS_sl0 hk (st_elem hgr (List.getElem?_eq_getElem hk) (Q.one i _ (List.getElem_mem hk)) (rg_of (by omega) (by omega) (s3l2_go ?_)))
      have W2 := W.putS hg2 (l' := (L i).set k (.str (ByteArray.mk #[63]))) (by simp)
      have e2 := rowsW_set (n := n) (k := i) (f := f) (L := L) (l := (L i).set k (.str (ByteArray.mk #[63]))) (.cell r1 (.row 2 [.agg [vU, vV]])) (.cell r2 (.row 2 [.agg b]))
      have key : ∀ hh, Own hb (([Sym.Ow.cell r1 (.row 2 [.agg [vU, vV]]), .cell r2 (.row 2 [.agg b])] ++ rowsW n f L).set (i + 2) (.slc 1 (.sl rr 1 0 (L i).length) ((L i).set k (.str (ByteArray.mk #[63]))))) hh → WM hb r1 r2 [vU, vV] b n f (upd L i ((L i).set k (.str (ByteArray.mk #[63])))) hh := fun hh w2 => by
        unfold WM
        rw [← e2, e1]
        exact w2
      have W3 := key _ W2
      refine write_l2 hvV hn hi next d (k + 1) _ _ ⟨fun x => ?_, fun x y hy => ?_⟩ ?_ W3
      · unfold upd
        split
        · rw [List.length_set]; exact hll
        · exact Q.len x
      · unfold upd at hy
        split at hy
        · rcases List.mem_or_eq_of_mem_set hy with hy | hy
          · exact Q.one i y hy
          · rw [hy]; rfl
        · exact Q.one x y hy
      · unfold upd
        rw [if_pos rfl, List.length_set]
        omega
theorem write_l1 (HH : runsTrue prog 20 20000 60 = true) (S : Small up val) (hU : Intss mU up) (hV : Strss mV val) (hoU : Intss oU up) (hoV : Strss oV val) (hr : hb r = some (.row 2 [.agg [oU, oV]])) (hs : ∀ q o, h0 q = some o → hb q = some o) (hk : K (.bool true) h0)
    (w : Int) {vU vV : AVal} {n : Nat} {f : Nat → AVal} (hvV : SlOf 1 vV ((List.range n).map f)) (hn : n ≤ 1048576) :
    ∀ d i : Nat, i + d = n → ∀ L h, LQ L → WM hb r1 r2 [vU, vV] [b0, b1] n f L h → s3l1 K (d + 1) w (.lptr [mU, mV]) (.ptr r 0 0) (.ptr r1 0 0) (.ptr r2 0 0) (i : Int) h
  | 0, i, hd, L, h, Q, W => by
    obtain rfl : i = n := by omega
    have M : MM hb r1 r2 [vU, vV] [b0, b1] h := W.renum _ (fun j => j) (fun j y hj => by
      match j, hj with
      | 0, hj => exact hj
      | 1, hj => exact hj
      | j + 2, hj => simp at hj) (fun j _ k _ e => e)
    exact makes_quot HH S hU hV hoU hoV hr hs hk w M (fun K => by rw [lenN_of hvV]; simp) 0
  | d + 1, i, hd, L, h, Q, W => by
    have hi : i < n := by omega
    unfold s3l1
    rw [addOff_ptr, ld1_fld (W.get 0 _ r1 rfl rfl) rfl, lenN_of hvV]
    refine ifT_pos (by simp; omega) (s3l2_in ((L i).length + 1) ?_)
    exact write_l2 hvV hn hi (fun L' h' Q' W' => write_l1 HH S hU hV hoU hoV hr hs hk w hvV hn d (i + 1) (by omega) L' h' Q' W') _ 0 L h Q (by omega) W

theorem makes_tail (HH : runsTrue prog 20 20000 60 = true) (S : Small up val) (hU : Intss mU up) (hV : Strss mV val) (hoU : Intss oU up) (hoV : Strss oV val) (hr : hb r = some (.row 2 [.agg [oU, oV]])) (hs : ∀ q o, h0 q = some o → hb q = some o) (hk : K (.bool true) h0)
    (w : Int) {vU vV vl cU cV cl : AVal} {upA : List (List Int)} {valA : List (List ByteArray)} {kA : List Int} {e : Int} {f : Nat → AVal} (hul : upA.length ≤ 1048576) (hur : ∀ r ∈ upA, r.length ≤ 1048576) (hvl : valA.length ≤ 1048576) (hsn : ∀ l ∈ valA, l.length ≤ 1048576) (hkl : kA.length ≤ 1048576)
    (h1 : Intss vU upA) (O : OwnV hb vV f valA h) (h3 : Ints vl kA) (hr1 : h r1 = none) (h4 : Intss cU upA) (h5 : Strss cV valA) (h6 : Ints cl kA) :
    Sym.newRow 2 [(.agg [.nilsl, .nilsl])] (h.set r1 (.row 2 [.agg [vU, vV]])) fun r2 h_7 => st false h_7 (.ptr r2 0 0) [cU, cV] fun h_8 => ldN 2 h_8 (.ptr r1 0 0) fun l_20 => tCons l_20 fun v19 l_21 => tCons l_21 fun v20 l_22 => tNil l_22 (
      ldN 2 h_8 (.ptr r2 0 0) fun l_23 => tCons l_23 fun v21 l_24 => tCons l_24 fun v22 l_25 => tNil l_25 (
        callG prog 11 [(.agg [v19, v20]), vl, (.int .i64 e), (.agg [v21, v22]), cl, (.int .i64 e)] h_8 fun v23 h_9 => tBool v23 fun v24 => ifT (!v24) (retG (.bool false) h_9 K) (
          s3l1_E (s3l1 K) w (.lptr [mU, mV]) (.ptr r 0 0) (.ptr r1 0 0) (.ptr r2 0 0) 0 h_9))) := by
  refine newRow_in fun r2 hr2 => st_all (Heap.set_same _ _ _) rfl ?_
  rw [Heap.set_set]
  have hne : r2 ≠ r1 := fun e => by rw [e, Heap.set_same] at hr2; cases hr2
  have hr2' : h r2 = none := by rwa [Heap.set_ne _ _ hne] at hr2
  have W1 := (O.2.newC hr1 (.row 2 [.agg [vU, vV]])).newC hr2 (.row 2 [.agg [cU, cV]])
  have g1 : ((h.set r1 (.row 2 [.agg [vU, vV]])).set r2 (.row 2 [.agg [cU, cV]])) r1 = some (.row 2 [.agg [vU, vV]]) := by rw [Heap.set_ne _ _ hne.symm, Heap.set_same]
  rw [ldN2 g1]
  simp only [tCons_cons, tNil_nil]
  rw [ldN2 (Heap.set_same _ _ _)]
  simp only [tCons_cons, tNil_nil]
  have Wr : Own hb (rowsS valA.length f valA) ((h.set r1 (.row 2 [.agg [vU, vV]])).set r2 (.row 2 [.agg [cU, cV]])) := W1.pop.pop
  have O2 : OwnV hb vV f valA ((h.set r1 (.row 2 [.agg [vU, vV]])).set r2 (.row 2 [.agg [cU, cV]])) := ⟨O.1, Wr⟩
  refine callG_of (toldR_ok hul hur hvl hsn h1 O2.rd h4 h5 h3 h6 hkl ?_)
  rw [tBool_bool]
  refine ifT_neg rfl (s3l1_in (valA.length + 1) ?_)
  have hlen : (rowsS valA.length f valA).length = valA.length := rowsS_len
  refine write_l1 (vU := vU) (b0 := cU) (b1 := cV) HH S hU hV hoU hoV hr hs hk w O.1 hvl valA.length 0 (by omega) (fun k => (valA.getD k []).map .str) _ ⟨fun k => ?_, fun k x hx => ?_⟩ ?_
  · by_cases e : k < valA.length
    · rw [getD_val e, List.length_map]; exact hsn _ (List.getElem_mem e)
    · rw [List.getD_eq_getElem?_getD, List.getElem?_eq_none (by omega)]; simp
  · obtain ⟨s, _, rfl⟩ := List.mem_map.1 hx
    rfl
  · refine W1.renum _ (fun j => if j = 0 then valA.length else if j = 1 then valA.length + 1 else j - 2) (fun j y hj => ?_) (fun j hj k hk e => ?_)
    · match j, hj with
      | 0, hj => 
        cases hj
        simp [hlen]
      | 1, hj =>
        cases hj
        simp [hlen]
      | j + 2, hj =>
        have hj' : (rowsS valA.length f valA)[j]? = some y := hj
        have hjl := (List.getElem?_eq_some_iff.1 hj').1
        rw [if_neg (by omega), if_neg (by omega), Nat.add_sub_cancel, List.append_assoc, List.getElem?_append_left hjl]
        exact hj'
    · have hlw : (rowsW valA.length f (fun k => (valA.getD k []).map AVal.str)).length = valA.length := by simp [rowsW]
      simp only [List.length_append, List.length_cons, List.length_nil, hlw] at hj hk
      split at e <;> split at e <;> (try split at e) <;> (try split at e) <;> omega

theorem makes_ok (HH : runsTrue prog 20 20000 60 = true) (S : Small up val) (hU : Intss mU up) (hV : Strss mV val) (w : Int) (hk : K (.bool true) h) : ACalls prog 3 [.agg [mU, mV], .int .i64 w] h K := by
  refine s3_ok ?_
  unfold s3
  refine callG_of (copy_ok S hU hV fun oU oV hoU hoV => ?_)
  simp only [tAgg_agg, tCons_cons, tNil_nil]
  refine newRow_in fun r hr => st_all (Heap.set_same _ _ _) rfl ?_
  rw [Heap.set_set, ldN2 (Heap.set_same _ _ _)]
  simp only [tCons_cons, tNil_nil]
  have hr' := Heap.set_same h r (.row 2 [.agg [oU, oV]])
  have hs := Heap.set_sub (o := .row 2 [.agg [oU, oV]]) hr
  have O0 : OwnV (h.set r (.row 2 [.agg [oU, oV]])) .nilsl (fun _ => .nilsl) [] (h.set r (.row 2 [.agg [oU, oV]])) := ⟨.nil 1, Own.start _⟩
  refine callG_of (aboveO_ok S hoU hoV w (fun hW => ?_) (fun W hw => ?_) (fun W x hx hxl vU vV vl fN h2 hAU O hAl => ?_))
  · simp only [tTup_tuple, tCons_cons, tInt_int, tNil_nil, tAgg_agg]
    refine newRow_in fun r1 hr1 => st_all (Heap.set_same _ _ _) rfl ?_
    rw [Heap.set_set]
    refine callG_of (above19_ok S hU hV w (fun _ => ?_) (fun W => absurd W hW) (fun W => absurd W hW))
    simp only [tTup_tuple, tCons_cons, tInt_int, tNil_nil, tAgg_agg]
    exact makes_tail HH S hU hV hoU hoV hr' hs hk w (by simp) (by simp) (by simp) (by simp) (by simp) intss_nil O0 ints_nil hr1 intss_nil strss_nil ints_nil
  · simp only [tTup_tuple, tCons_cons, tInt_int, tNil_nil, tAgg_agg]
    refine newRow_in fun r1 hr1 => st_all (Heap.set_same _ _ _) rfl ?_
    rw [Heap.set_set]
    refine callG_of (above19_ok S hU hV w (fun hW => absurd W hW) (fun _ _ => ?_) (fun _ x hx hxl => absurd (by omega) hw))
    simp only [tTup_tuple, tCons_cons, tInt_int, tNil_nil, tAgg_agg]
    exact makes_tail HH S hU hV hoU hoV hr' hs hk w (by simp) (by simp) (by simp) (by simp) (by simp) intss_nil O0 ints_nil hr1 intss_nil strss_nil ints_nil
  · simp only [tTup_tuple, tCons_cons, tInt_int, tNil_nil, tAgg_agg]
    refine newRow_in fun r1 hr1 => st_all (Heap.set_same _ _ _) rfl ?_
    rw [Heap.set_set]
    refine callG_of (above19_ok S hU hV w (fun hW => absurd W hW) (fun _ hw => absurd (by omega) hw) (fun _ x' hx' hxl' cU cV cl hCU hCV hCl => ?_))
    obtain rfl : x = x' := by omega
    simp only [tTup_tuple, tCons_cons, tInt_int, tNil_nil, tAgg_agg]
    have SA := above_small S W hxl
    have hab := above_len (up := up) (a := x)
    have hmax := W.max
    exact makes_tail HH S hU hV hoU hoV hr' hs hk w SA.ups SA.row SA.vals (fun l hl => (SA.names l hl).2) (by simp [natI]; omega) hAU O hAl hr1 hCU hCV hCl
end
end Go.Proofs.Ytinficcdpggiaaa

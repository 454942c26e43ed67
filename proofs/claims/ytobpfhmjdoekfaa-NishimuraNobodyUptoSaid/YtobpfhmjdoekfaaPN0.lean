/- The functions that the proof meets, each as a text that Lean has checked against the program. No condition. -/
import Derived.Test.YtobpfhmjdoekfaaM3
import Derived.Test.YtobpfhmjdoekfaaChecked
namespace Go.Proofs.Ytobpfhmjdoekfaa
open Go Go.Sym Go.Proofs.Try
set_option maxRecDepth 100000
set_option linter.unusedVariables false

/- 6 dictum/dictumlaw26.NishimuraNobody -/
def s6 (Ψ : AVal → Heap → Prop) (id_ : Int) (k : Int) (h : Heap) : Prop :=
  callG prog 20 [.nilptr, (.int .i64 id_), (.int .i64 k)] h fun v h_ =>
  tBool v fun v1 =>
  ifT v1 (
    Sym.newRow 2 [(.agg [.nilsl, .nilmap])] h_ fun r h_1 =>
    callG prog 20 [(.ptr r 0 0), (.int .i64 id_), (.int .i64 k)] h_1 fun v2 h_2 =>
    tBool v2 fun v3 =>
    ifT v3 (
      callG prog 16 [] h_2 fun v4 h_3 =>
      tBool v4 fun v5 =>
      retG (.bool v5) h_3 Ψ) (
      retG (.bool false) h_2 Ψ)) (
    retG (.bool false) h_ Ψ)

def s6_A (Ψ : AVal → Heap → Prop) : Ann :=
  .seq (rA 1)
  (.seq (rA 1)
  (.seq (.reg [⟨none, [(0, false), (1, false), (2, false), (3, false), (4, false)]⟩, ⟨some (10, true), [(5, false), (6, false), (7, false), (8, false), (9, false)]⟩, ⟨none, [(10, false), (11, false)]⟩, ⟨some (17, true), [(12, false)]⟩, ⟨none, [(13, false), (14, false)]⟩])
  (.leaf)))

theorem s6_ok {Ψ : AVal → Heap → Prop} {id_ : Int} {k : Int} {h : Heap} (H : s6 Ψ id_ k h) : ACalls prog 6 [(.int .i64 id_), (.int .i64 k)] h Ψ :=
  calls_of_evF func6 (by kernel_rfl) (by kernel_rfl) (by kernel_rfl)
    (Eq.mpr (by as_aux_lemma => kernel_rfl : oblF prog f6 (s6_A Ψ) Ψ = (True ∧ True ∧ True ∧ True)) ⟨trivial, ⟨trivial, ⟨trivial, trivial⟩⟩⟩)
    (Eq.mpr (by as_aux_lemma => kernel_rfl : evF prog f6 (s6_A Ψ) Ψ [(.int .i64 id_), (.int .i64 k)] h = s6 Ψ id_ k h) H)

/- 20 dictum/dictumlaw26.nobody -/
def s20 (Ψ : AVal → Heap → Prop) (t : AVal) (id_ : Int) (k : Int) (h : Heap) : Prop :=
  callG prog 34 [t, (.str (ByteArray.mk #[112])), (.int .i64 k)] h fun v h_ =>
  tTup v fun l_ =>
  tCons l_ fun v1 l_1 =>
  tInt .i64 v1 fun v2 =>
  tCons l_1 fun v3 l_2 =>
  tInt .i64 v3 fun v4 =>
  tNil l_2 (
    callG prog 35 [t, (.int .i64 id_)] h_ fun v5 h_1 =>
    tTup v5 fun l_3 =>
    tCons l_3 fun v6 l_4 =>
    tInt .i64 v6 fun v7 =>
    tCons l_4 fun v8 l_5 =>
    tInt .i64 v8 fun v9 =>
    tNil l_5 (
      callG prog 41 [t, (.int .i64 id_), (.int .i64 id_)] h_1 fun v10 h_2 =>
      tTup v10 fun l_6 =>
      tCons l_6 fun v11 l_7 =>
      tBool v11 fun v12 =>
      tCons l_7 fun v13 l_8 =>
      tInt .i64 v13 fun v14 =>
      tNil l_8 (
        ifT (v2 == 0) (
          ifT (v4 == 1) (
            ifT (v7 == 0) (
              ifT (v9 == 1) (
                ifT (!v12) (
                  retG (.bool (v14 == 1)) h_2 Ψ) (
                  retG (.bool false) h_2 Ψ)) (
                retG (.bool false) h_2 Ψ)) (
              retG (.bool false) h_2 Ψ)) (
            retG (.bool false) h_2 Ψ)) (
          retG (.bool false) h_2 Ψ))))

def s20_A (Ψ : AVal → Heap → Prop) : Ann :=
  .seq (rA 1)
  (.seq (rA 8)
  (.seq (rA 8)
  (.seq (rA 9)
  (.seq (rA 1)
  (.seq (.reg [⟨none, [(0, false), (1, false), (2, false)]⟩, ⟨some (35, true), [(3, false), (4, false), (5, false)]⟩, ⟨none, [(6, false), (7, false)]⟩, ⟨some (40, true), [(8, false), (9, false)]⟩, ⟨none, [(10, false), (11, false)]⟩, ⟨some (44, true), [(12, false), (13, false), (14, false)]⟩, ⟨none, [(15, false), (16, false)]⟩, ⟨some (49, true), [(17, false), (18, false)]⟩, ⟨none, [(19, false), (20, false)]⟩, ⟨some (53, true), [(21, false), (22, false), (23, false)]⟩, ⟨none, [(24, false), (25, false)]⟩])
  (.leaf))))))

theorem s20_ok {Ψ : AVal → Heap → Prop} {t : AVal} {id_ : Int} {k : Int} {h : Heap} (H : s20 Ψ t id_ k h) : ACalls prog 20 [t, (.int .i64 id_), (.int .i64 k)] h Ψ :=
  calls_of_evF func20 (by kernel_rfl) (by kernel_rfl) (by kernel_rfl)
    (Eq.mpr (by as_aux_lemma => kernel_rfl : oblF prog f20 (s20_A Ψ) Ψ = (True ∧ True ∧ True ∧ True ∧ True ∧ True ∧ True)) ⟨trivial, ⟨trivial, ⟨trivial, ⟨trivial, ⟨trivial, ⟨trivial, trivial⟩⟩⟩⟩⟩⟩)
    (Eq.mpr (by as_aux_lemma => kernel_rfl : evF prog f20 (s20_A Ψ) Ψ [t, (.int .i64 id_), (.int .i64 k)] h = s20 Ψ t id_ k h) H)

/- 34 dictum/nishimura.Ladder -/
def s34c1 (Ψ : AVal → Heap → Prop) (t1 : AVal) (atom1 : ByteArray) (k1 : Int) (t19 : Bool) (h : Heap) : Prop :=
  ifT t19 (
    retG (.tuple [(.int .i64 0), (.int .i64 2)]) h Ψ) (
    callG prog 53 [t1] h fun v3 h_2 =>
    tInt .i64 v3 fun v4 =>
    callG prog 54 [t1, (.str atom1), (.int .i64 k1)] h_2 fun v5 h_3 =>
    tTup v5 fun l_ =>
    tCons l_ fun v6 l_1 =>
    tInt .i64 v6 fun v7 =>
    tCons l_1 fun v8 l_2 =>
    tInt .i64 v8 fun v9 =>
    tNil l_2 (
      ifT (v9 != 0) (
        callG prog 55 [t1, (.int .i64 v4)] h_3 fun v10 h_4 =>
        tInt .i64 v10 fun v11 =>
        retG (.tuple [(.int .i64 0), (.int .i64 v9)]) h_4 Ψ) (
        retG (.tuple [(.int .i64 v7), (.int .i64 0)]) h_3 Ψ)))

def s34 (Ψ : AVal → Heap → Prop) (t : AVal) (atom : ByteArray) (k : Int) (h : Heap) : Prop :=
  callG prog 52 [t] h fun v h_ =>
  nilP v fun b =>
  ifT b (
    retG (.tuple [(.int .i64 0), (.int .i64 1)]) h_ Ψ) (
    callG prog 37 [(.str atom)] h_ fun v1 h_1 =>
    tBool v1 fun v2 =>
    ifT (!v2) (
      retG (.tuple [(.int .i64 0), (.int .i64 32)]) h_1 Ψ) (
      ifT (decide (k < (-1))) (
        s34c1 Ψ t atom k true h_1) (
        s34c1 Ψ t atom k (decide (4096 < k)) h_1)))

def s34_A (Ψ : AVal → Heap → Prop) : Ann :=
  .seq (rA 2)
  (.seq (.block (.seq (rA 4)
  (.cond (.seq (rA 2)
  (.leaf))
  (.seq (rA 4)
  (.cond (.seq (rA 2)
  (.leaf))
  (.cut [(0, .any), (1, .str), (2, .int .i64), (19, .bool)] (fun l h => J.cons l fun x0 l => J.cons l fun v l => J.str v fun x1 => J.cons l fun v l => J.int .i64 v fun x2 => J.cons l fun v l => J.bool v fun x3 => J.nil l (s34c1 Ψ x0 x1 x2 x3 h)) (.reg [⟨none, [(0, false), (1, false), (2, false)]⟩, ⟨some (22, false), [(3, false), (4, false)]⟩, ⟨none, [(5, false), (6, false)]⟩])
  (.cond (.seq (rA 2)
  (.leaf))
  (.leaf))))))))
  (.seq (rA 3)
  (.seq (rA 9)
  (.seq (.seq (rA 2)
  (.cond (.seq (rA 3)
  (.seq (rA 3)
  (.leaf)))
  (.leaf)))
  (.seq (rA 3)
  (.leaf))))))

theorem s34_ok {Ψ : AVal → Heap → Prop} {t : AVal} {atom : ByteArray} {k : Int} {h : Heap} (H : s34 Ψ t atom k h) : ACalls prog 34 [t, (.str atom), (.int .i64 k)] h Ψ :=
  calls_of_evF func34 (by kernel_rfl) (by kernel_rfl) (by kernel_rfl)
    (Eq.mpr (by as_aux_lemma => kernel_rfl : oblF prog f34 (s34_A Ψ) Ψ = (True ∧ (True ∧ (True ∧ True) ∧ True ∧ (True ∧ True) ∧ (True) ∧ (∀ (h : Heap) (x0 : AVal) (x1 : ByteArray) (x2 : Int) (x3 : Bool), OI (s34c1 Ψ x0 x1 x2 x3 h)) ∧ ((True ∧ True) ∧ True)) ∧ True ∧ True ∧ (True ∧ (True ∧ True ∧ True) ∧ True) ∧ True ∧ True)) ⟨trivial, ⟨⟨trivial, ⟨⟨trivial, trivial⟩, ⟨trivial, ⟨⟨trivial, trivial⟩, ⟨trivial, fun _ _ _ _ _ H => H, ⟨⟨trivial, trivial⟩, trivial⟩⟩⟩⟩⟩⟩, ⟨trivial, ⟨trivial, ⟨⟨trivial, ⟨⟨trivial, ⟨trivial, trivial⟩⟩, trivial⟩⟩, ⟨trivial, trivial⟩⟩⟩⟩⟩⟩)
    (Eq.mpr (by as_aux_lemma => kernel_rfl : evF prog f34 (s34_A Ψ) Ψ [t, (.str atom), (.int .i64 k)] h = s34 Ψ t atom k h) H)

/- 35 dictum/nishimura.Rung -/
abbrev s35l1_T := AVal → Int → AVal → AVal → Int → Int → Heap → Prop
def s35l1_R (F : s35l1_T) (l : List AVal) (h : Heap) : Prop := J.cons l fun x0 l => J.cons l fun v l => J.int .i64 v fun x1 => J.cons l fun x2 l => J.cons l fun x3 l => J.cons l fun v l => J.int .i64 v fun x4 => J.cons l fun v l => J.int .i64 v fun x5 => J.nil l (F x0 x1 x2 x3 x4 x5 h)
def s35l1_G (F : s35l1_T) (x0 : AVal) (x1 : Int) (x2 x3 : AVal) (x4 x5 : Int) (h : Heap) : Prop := gJ [.any, .int .i64, .any, .any, .int .i64, .int .i64] [x0, (.int .i64 x1), x2, x3, (.int .i64 x4), (.int .i64 x5)] h (s35l1_R F)
def s35l1_E (F : Nat → s35l1_T) (x0 : AVal) (x1 : Int) (x2 x3 : AVal) (x4 x5 : Int) (h : Heap) : Prop := gJ [.any, .int .i64, .any, .any, .int .i64, .int .i64] [x0, (.int .i64 x1), x2, x3, (.int .i64 x4), (.int .i64 x5)] h (fun l h => ∃ n, s35l1_R (F n) l h)
theorem s35l1_go {F : s35l1_T} {x0 : AVal} {x1 : Int} {x2 x3 : AVal} {x4 x5 : Int} {h : Heap} (H : F x0 x1 x2 x3 x4 x5 h) : s35l1_G F x0 x1 x2 x3 x4 x5 h := gJ_plain rfl H
theorem s35l1_in {F : Nat → s35l1_T} {x0 : AVal} {x1 : Int} {x2 x3 : AVal} {x4 x5 : Int} {h : Heap} (n : Nat) (H : F n x0 x1 x2 x3 x4 x5 h) : s35l1_E F x0 x1 x2 x3 x4 x5 h := gJ_plain rfl ⟨n, H⟩

def s35c2 (Ψ : AVal → Heap → Prop) (L1 : s35l1_T) (t2 : AVal) (id_2 : Int) (known1 t34_1 : AVal) (t35_1 t36_1 : Int) (h : Heap) : Prop :=
  rg (t36_1 + 1) (
    L1 t2 id_2 known1 t34_1 t35_1 (t36_1 + 1) h)

def s35l1 (Ψ : AVal → Heap → Prop) : Nat → s35l1_T
  | 0, _, _, _, _, _, _, _ => False
  | n2 + 1, t1, id_1, known, t34, t35, t36, h =>
    ifT (decide (t36 < t35)) (
      ixS 1 t34 t36 fun p =>
      ld1 h p fun v8 =>
      tInt .i64 v8 fun v9 =>
      callG prog 36 [t1, (.int .i64 v9)] h fun v10 h_3 =>
      tTup v10 fun l_6 =>
      tCons l_6 fun v11 l_7 =>
      tCons l_7 fun v12 l_8 =>
      tBool v12 fun v13 =>
      tNil l_8 (
        tAgg v11 fun l_9 =>
        tCons l_9 fun v14 l_10 =>
        tInt .i64 v14 fun v15 =>
        tCons l_10 fun v16 l_11 =>
        tStr v16 fun v17 =>
        tCons l_11 fun v18 l_12 =>
        tInt .i64 v18 fun v19 =>
        tCons l_12 fun v20 l_13 =>
        tInt .i64 v20 fun v21 =>
        tNil l_13 (
          Sym.newRow 4 [(.agg [(.int .i64 0), (.str (ByteArray.mk #[])), (.int .i64 0), (.int .i64 0)])] h_3 fun r1 h_4 =>
          st false h_4 (.ptr r1 0 0) [(.int .i64 v15), (.str v17), (.int .i64 v19), (.int .i64 v21)] fun h_5 =>
          ld1 h_5 (.ptr r1 0 0) fun v22 =>
          tInt .i64 v22 fun v23 =>
          ifT (v23 == 1) (
            mapPut h_5 known (.int .i64 v9) (.agg [(.bool false), (.int .i64 1), (.bool false)]) fun h_6 =>
            s35c2 Ψ (s35l1_G (s35l1 Ψ n2)) t1 id_1 known t34 t35 t36 h_6) (
            ifT (v23 == 3) (
              ld1 h_5 (.ptr r1 0 2) fun v24 =>
              tInt .i64 v24 fun v25 =>
              mapGet (.agg [(.bool false), (.int .i64 0), (.bool false)]) h_5 known (.int .i64 v25) fun v26 b =>
              tAgg v26 fun l_14 =>
              tCons l_14 fun v27 l_15 =>
              tBool v27 fun v28 =>
              tCons l_15 fun v29 l_16 =>
              tInt .i64 v29 fun v30 =>
              tCons l_16 fun v31 l_17 =>
              tBool v31 fun v32 =>
              tNil l_17 (
                ld1 h_5 (.ptr r1 0 3) fun v33 =>
                tInt .i64 v33 fun v34 =>
                mapGet (.agg [(.bool false), (.int .i64 0), (.bool false)]) h_5 known (.int .i64 v34) fun v35 b1 =>
                tAgg v35 fun l_18 =>
                tCons l_18 fun v36 l_19 =>
                tBool v36 fun v37 =>
                tCons l_19 fun v38 l_20 =>
                tInt .i64 v38 fun v39 =>
                tCons l_20 fun v40 l_21 =>
                tBool v40 fun v41 =>
                tNil l_21 (
                  callG prog 26 [(.agg [(.bool v28), (.int .i64 v30), (.bool v32)]), (.agg [(.bool v37), (.int .i64 v39), (.bool v41)])] h_5 fun v42 h_7 =>
                  tAgg v42 fun l_22 =>
                  tCons l_22 fun v43 l_23 =>
                  tBool v43 fun v44 =>
                  tCons l_23 fun v45 l_24 =>
                  tInt .i64 v45 fun v46 =>
                  tCons l_24 fun v47 l_25 =>
                  tBool v47 fun v48 =>
                  tNil l_25 (
                    mapPut h_7 known (.int .i64 v9) (.agg [(.bool v44), (.int .i64 v46), (.bool v48)]) fun h_8 =>
                    s35c2 Ψ (s35l1_G (s35l1 Ψ n2)) t1 id_1 known t34 t35 t36 h_8)))) (
              ifT (v23 == 4) (
                ld1 h_5 (.ptr r1 0 2) fun v49 =>
                tInt .i64 v49 fun v50 =>
                mapGet (.agg [(.bool false), (.int .i64 0), (.bool false)]) h_5 known (.int .i64 v50) fun v51 b2 =>
                tAgg v51 fun l_26 =>
                tCons l_26 fun v52 l_27 =>
                tBool v52 fun v53 =>
                tCons l_27 fun v54 l_28 =>
                tInt .i64 v54 fun v55 =>
                tCons l_28 fun v56 l_29 =>
                tBool v56 fun v57 =>
                tNil l_29 (
                  ld1 h_5 (.ptr r1 0 3) fun v58 =>
                  tInt .i64 v58 fun v59 =>
                  mapGet (.agg [(.bool false), (.int .i64 0), (.bool false)]) h_5 known (.int .i64 v59) fun v60 b3 =>
                  tAgg v60 fun l_30 =>
                  tCons l_30 fun v61 l_31 =>
                  tBool v61 fun v62 =>
                  tCons l_31 fun v63 l_32 =>
                  tInt .i64 v63 fun v64 =>
                  tCons l_32 fun v65 l_33 =>
                  tBool v65 fun v66 =>
                  tNil l_33 (
                    callG prog 29 [(.agg [(.bool v53), (.int .i64 v55), (.bool v57)]), (.agg [(.bool v62), (.int .i64 v64), (.bool v66)])] h_5 fun v67 h_9 =>
                    tAgg v67 fun l_34 =>
                    tCons l_34 fun v68 l_35 =>
                    tBool v68 fun v69 =>
                    tCons l_35 fun v70 l_36 =>
                    tInt .i64 v70 fun v71 =>
                    tCons l_36 fun v72 l_37 =>
                    tBool v72 fun v73 =>
                    tNil l_37 (
                      mapPut h_9 known (.int .i64 v9) (.agg [(.bool v69), (.int .i64 v71), (.bool v73)]) fun h_10 =>
                      s35c2 Ψ (s35l1_G (s35l1 Ψ n2)) t1 id_1 known t34 t35 t36 h_10)))) (
                ifT (v23 == 5) (
                  ld1 h_5 (.ptr r1 0 2) fun v74 =>
                  tInt .i64 v74 fun v75 =>
                  mapGet (.agg [(.bool false), (.int .i64 0), (.bool false)]) h_5 known (.int .i64 v75) fun v76 b4 =>
                  tAgg v76 fun l_38 =>
                  tCons l_38 fun v77 l_39 =>
                  tBool v77 fun v78 =>
                  tCons l_39 fun v79 l_40 =>
                  tInt .i64 v79 fun v80 =>
                  tCons l_40 fun v81 l_41 =>
                  tBool v81 fun v82 =>
                  tNil l_41 (
                    ld1 h_5 (.ptr r1 0 3) fun v83 =>
                    tInt .i64 v83 fun v84 =>
                    mapGet (.agg [(.bool false), (.int .i64 0), (.bool false)]) h_5 known (.int .i64 v84) fun v85 b5 =>
                    tAgg v85 fun l_42 =>
                    tCons l_42 fun v86 l_43 =>
                    tBool v86 fun v87 =>
                    tCons l_43 fun v88 l_44 =>
                    tInt .i64 v88 fun v89 =>
                    tCons l_44 fun v90 l_45 =>
                    tBool v90 fun v91 =>
                    tNil l_45 (
                      callG prog 31 [(.agg [(.bool v78), (.int .i64 v80), (.bool v82)]), (.agg [(.bool v87), (.int .i64 v89), (.bool v91)])] h_5 fun v92 h_11 =>
                      tAgg v92 fun l_46 =>
                      tCons l_46 fun v93 l_47 =>
                      tBool v93 fun v94 =>
                      tCons l_47 fun v95 l_48 =>
                      tInt .i64 v95 fun v96 =>
                      tCons l_48 fun v97 l_49 =>
                      tBool v97 fun v98 =>
                      tNil l_49 (
                        mapPut h_11 known (.int .i64 v9) (.agg [(.bool v94), (.int .i64 v96), (.bool v98)]) fun h_12 =>
                        s35c2 Ψ (s35l1_G (s35l1 Ψ n2)) t1 id_1 known t34 t35 t36 h_12)))) (
                  s35c2 Ψ (s35l1_G (s35l1 Ψ n2)) t1 id_1 known t34 t35 t36 h_5))))))) (
      mapGet (.agg [(.bool false), (.int .i64 0), (.bool false)]) h known (.int .i64 id_1) fun v99 b6 =>
      tAgg v99 fun l_50 =>
      tCons l_50 fun v100 l_51 =>
      tBool v100 fun v101 =>
      tCons l_51 fun v102 l_52 =>
      tInt .i64 v102 fun v103 =>
      tCons l_52 fun v104 l_53 =>
      tBool v104 fun v105 =>
      tNil l_53 (
        callG prog 44 [(.agg [(.bool v101), (.int .i64 v103), (.bool v105)])] h fun v106 h_13 =>
        tInt .i64 v106 fun v107 =>
        retG (.tuple [(.int .i64 v107), (.int .i64 0)]) h_13 Ψ))

def s35 (Ψ : AVal → Heap → Prop) (t : AVal) (id_ : Int) (h : Heap) : Prop :=
  callG prog 56 [t, (.int .i64 id_)] h fun v h_ =>
  tTup v fun l_ =>
  tCons l_ fun v1 l_1 =>
  tCons l_1 fun v2 l_2 =>
  tInt .i64 v2 fun v3 =>
  tNil l_2 (
    ifT (v3 != 0) (
      retG (.tuple [(.int .i64 0), (.int .i64 v3)]) h_ Ψ) (
      lenN v1 fun n =>
      ifT (decide (1 < n)) (
        retG (.tuple [(.int .i64 0), (.int .i64 220)]) h_ Ψ) (
        newMap h_ fun r h_1 =>
        callG prog 57 [t, (.int .i64 id_)] h_1 fun v4 h_2 =>
        tTup v4 fun l_3 =>
        tCons l_3 fun v5 l_4 =>
        tCons l_4 fun v6 l_5 =>
        tInt .i64 v6 fun v7 =>
        tNil l_5 (
          lenN v5 fun n1 =>
          s35l1_E (s35l1 Ψ) t id_ (.mapr r) v5 n1 0 h_2))))

def s35_A (Ψ : AVal → Heap → Prop) : Ann :=
  .seq (rA 2)
  (.seq (rA 8)
  (.seq (.seq (rA 2)
  (.cond (.seq (rA 3)
  (.leaf))
  (.leaf)))
  (.seq (.seq (rA 3)
  (.cond (.seq (rA 2)
  (.leaf))
  (.leaf)))
  (.seq (rA 2)
  (.seq (rA 8)
  (.seq (.seq (rA 3)
  (.block (.loop [(0, .any), (1, .int .i64), (8, .any), (34, .any), (35, .int .i64), (36, .int .i64)] (fun n l h => s35l1_R (s35l1 Ψ n) l h) (fun L1 =>
  .seq (rA 1)
  (.seq (.cond (.leaf)
  (.leaf))
  (.cut [(0, .any), (1, .int .i64), (8, .any), (34, .any), (35, .int .i64), (36, .int .i64)] (fun l h => J.cons l fun x0 l => J.cons l fun v l => J.int .i64 v fun x1 => J.cons l fun x2 l => J.cons l fun x3 l => J.cons l fun v l => J.int .i64 v fun x4 => J.cons l fun v l => J.int .i64 v fun x5 => J.nil l (s35c2 Ψ (fun y0 y1 y2 y3 y4 y5 h => L1 [y0, (.int .i64 y1), y2, y3, (.int .i64 y4), (.int .i64 y5)] h) x0 x1 x2 x3 x4 x5 h)) (.block (.seq (rA 3)
  (.seq (rA 9)
  (.seq (rA 2)
  (.block (.seq (rA 2)
  (.cond (rA 4)
  (.seq (rA 2)
  (.cond (rA 12)
  (.seq (rA 2)
  (.cond (rA 12)
  (.seq (rA 2)
  (.cond (rA 12)
  (.leaf))))))))))))))
  (rA 2)))))))
  (.seq (rA 6)
  (.leaf))))))))

theorem s35_ok {Ψ : AVal → Heap → Prop} {t : AVal} {id_ : Int} {h : Heap} (H : s35 Ψ t id_ h) : ACalls prog 35 [t, (.int .i64 id_)] h Ψ :=
  calls_of_evF func35 (by kernel_rfl) (by kernel_rfl) (by kernel_rfl)
    (Eq.mpr (by as_aux_lemma => kernel_rfl : oblF prog f35 (s35_A Ψ) Ψ = (True ∧ True ∧ (True ∧ (True ∧ True) ∧ True) ∧ (True ∧ (True ∧ True) ∧ True) ∧ True ∧ True ∧ (True ∧ (∀ (h : Heap) (x0 : AVal) (x1 : Int) (x2 x3 : AVal) (x4 x5 : Int), ON (s35l1 Ψ 0 x0 x1 x2 x3 x4 x5 h)) ∧ ∀ n1 : Nat, (∀ (h : Heap) (x0 : AVal) (x1 : Int) (x2 x3 : AVal) (x4 x5 : Int), OI (s35l1 Ψ (n1 + 1) x0 x1 x2 x3 x4 x5 h)) ∧ (True ∧ (True ∧ True) ∧ (True ∧ True ∧ True ∧ True ∧ True ∧ True ∧ True ∧ True ∧ True ∧ True ∧ True ∧ True) ∧ (∀ (h : Heap) (x0 : AVal) (x1 : Int) (x2 x3 : AVal) (x4 x5 : Int), OI (s35c2 Ψ (s35l1_G (s35l1 Ψ n1)) x0 x1 x2 x3 x4 x5 h)) ∧ (True))) ∧ True ∧ True)) ⟨trivial, ⟨trivial, ⟨⟨trivial, ⟨⟨trivial, trivial⟩, trivial⟩⟩, ⟨⟨trivial, ⟨⟨trivial, trivial⟩, trivial⟩⟩, ⟨trivial, ⟨trivial, ⟨⟨trivial, ⟨fun _ _ _ _ _ _ _ H => H, fun _ => ⟨fun _ _ _ _ _ _ _ H => H, ⟨trivial, ⟨⟨trivial, trivial⟩, ⟨⟨trivial, ⟨trivial, ⟨trivial, ⟨trivial, ⟨trivial, ⟨trivial, ⟨trivial, ⟨trivial, ⟨trivial, ⟨trivial, ⟨trivial, trivial⟩⟩⟩⟩⟩⟩⟩⟩⟩⟩⟩, fun _ _ _ _ _ _ _ H => H, trivial⟩⟩⟩⟩⟩⟩, ⟨trivial, trivial⟩⟩⟩⟩⟩⟩⟩⟩)
    (Eq.mpr (by as_aux_lemma => kernel_rfl : evF prog f35 (s35_A Ψ) Ψ [t, (.int .i64 id_)] h = s35 Ψ t id_ h) H)

/- 41 dictum/nishimura.Equal -/
def s41c1 (Ψ : AVal → Heap → Prop) (t1 : AVal) (a1 b1 x y : Int) (t43 : Bool) (h : Heap) : Prop :=
  ifT t43 (
    retG (.tuple [(.bool (x == y)), (.int .i64 0)]) h Ψ) (
    callG prog 56 [t1, (.int .i64 a1)] h fun v10 h_2 =>
    tTup v10 fun l_6 =>
    tCons l_6 fun v11 l_7 =>
    tCons l_7 fun v12 l_8 =>
    tInt .i64 v12 fun v13 =>
    tNil l_8 (
      callG prog 56 [t1, (.int .i64 b1)] h_2 fun v14 h_3 =>
      tTup v14 fun l_9 =>
      tCons l_9 fun v15 l_10 =>
      tCons l_10 fun v16 l_11 =>
      tInt .i64 v16 fun v17 =>
      tNil l_11 (
        callG prog 63 [v11, v15] h_3 fun v18 h_4 =>
        tBool v18 fun v19 =>
        retG (.tuple [(.bool v19), (.int .i64 0)]) h_4 Ψ)))

def s41 (Ψ : AVal → Heap → Prop) (t : AVal) (a : Int) (b : Int) (h : Heap) : Prop :=
  callG prog 35 [t, (.int .i64 a)] h fun v h_ =>
  tTup v fun l_ =>
  tCons l_ fun v1 l_1 =>
  tInt .i64 v1 fun v2 =>
  tCons l_1 fun v3 l_2 =>
  tInt .i64 v3 fun v4 =>
  tNil l_2 (
    ifT (v4 != 0) (
      retG (.tuple [(.bool false), (.int .i64 v4)]) h_ Ψ) (
      callG prog 35 [t, (.int .i64 b)] h_ fun v5 h_1 =>
      tTup v5 fun l_3 =>
      tCons l_3 fun v6 l_4 =>
      tInt .i64 v6 fun v7 =>
      tCons l_4 fun v8 l_5 =>
      tInt .i64 v8 fun v9 =>
      tNil l_5 (
        ifT (v9 != 0) (
          retG (.tuple [(.bool false), (.int .i64 v9)]) h_1 Ψ) (
          ifT (v2 != v7) (
            s41c1 Ψ t a b v2 v7 true h_1) (
            ifT (v2 == 0) (
              s41c1 Ψ t a b v2 v7 true h_1) (
              s41c1 Ψ t a b v2 v7 (v2 == (-1)) h_1))))))

def s41_A (Ψ : AVal → Heap → Prop) : Ann :=
  .seq (rA 2)
  (.seq (rA 8)
  (.seq (.seq (rA 2)
  (.cond (.seq (rA 3)
  (.leaf))
  (.leaf)))
  (.seq (rA 8)
  (.seq (.seq (rA 2)
  (.cond (.seq (rA 3)
  (.leaf))
  (.leaf)))
  (.seq (.cut [(0, .any), (1, .int .i64), (2, .int .i64), (8, .int .i64), (10, .int .i64), (43, .bool)] (fun l h => J.cons l fun x0 l => J.cons l fun v l => J.int .i64 v fun x1 => J.cons l fun v l => J.int .i64 v fun x2 => J.cons l fun v l => J.int .i64 v fun x3 => J.cons l fun v l => J.int .i64 v fun x4 => J.cons l fun v l => J.bool v fun x5 => J.nil l (s41c1 Ψ x0 x1 x2 x3 x4 x5 h)) (.reg [⟨none, [(0, false), (1, false), (2, false), (3, false)]⟩, ⟨some (36, false), [(4, false), (5, false)]⟩, ⟨none, [(6, false), (7, false)]⟩, ⟨some (40, false), [(8, false), (9, false)]⟩, ⟨none, [(10, false)]⟩])
  (.cond (.seq (rA 5)
  (.leaf))
  (.leaf)))
  (.seq (rA 8)
  (.seq (rA 8)
  (.seq (rA 5)
  (.leaf)))))))))

theorem s41_ok {Ψ : AVal → Heap → Prop} {t : AVal} {a : Int} {b : Int} {h : Heap} (H : s41 Ψ t a b h) : ACalls prog 41 [t, (.int .i64 a), (.int .i64 b)] h Ψ :=
  calls_of_evF func41 (by kernel_rfl) (by kernel_rfl) (by kernel_rfl)
    (Eq.mpr (by as_aux_lemma => kernel_rfl : oblF prog f41 (s41_A Ψ) Ψ = (True ∧ True ∧ (True ∧ (True ∧ True) ∧ True) ∧ True ∧ (True ∧ (True ∧ True) ∧ True) ∧ ((True) ∧ (∀ (h : Heap) (x0 : AVal) (x1 x2 x3 x4 : Int) (x5 : Bool), OI (s41c1 Ψ x0 x1 x2 x3 x4 x5 h)) ∧ ((True ∧ True) ∧ True)) ∧ True ∧ True ∧ True ∧ True)) ⟨trivial, ⟨trivial, ⟨⟨trivial, ⟨⟨trivial, trivial⟩, trivial⟩⟩, ⟨trivial, ⟨⟨trivial, ⟨⟨trivial, trivial⟩, trivial⟩⟩, ⟨⟨trivial, fun _ _ _ _ _ _ _ H => H, ⟨⟨trivial, trivial⟩, trivial⟩⟩, ⟨trivial, ⟨trivial, ⟨trivial, trivial⟩⟩⟩⟩⟩⟩⟩⟩⟩)
    (Eq.mpr (by as_aux_lemma => kernel_rfl : evF prog f41 (s41_A Ψ) Ψ [t, (.int .i64 a), (.int .i64 b)] h = s41 Ψ t a b h) H)

/- 52 (*dictum/formula.Table).Copy -/
abbrev s52l1_T := AVal → AVal → Int → Int → Heap → Prop
def s52l1_R (F : s52l1_T) (l : List AVal) (h : Heap) : Prop := J.cons l fun x0 l => J.cons l fun x1 l => J.cons l fun v l => J.int .i64 v fun x2 => J.cons l fun v l => J.int .i64 v fun x3 => J.nil l (F x0 x1 x2 x3 h)
def s52l1_G (F : s52l1_T) (x0 x1 : AVal) (x2 x3 : Int) (h : Heap) : Prop := gJ [.any, .any, .int .i64, .int .i64] [x0, x1, (.int .i64 x2), (.int .i64 x3)] h (s52l1_R F)
def s52l1_E (F : Nat → s52l1_T) (x0 x1 : AVal) (x2 x3 : Int) (h : Heap) : Prop := gJ [.any, .any, .int .i64, .int .i64] [x0, x1, (.int .i64 x2), (.int .i64 x3)] h (fun l h => ∃ n, s52l1_R (F n) l h)
theorem s52l1_go {F : s52l1_T} {x0 x1 : AVal} {x2 x3 : Int} {h : Heap} (H : F x0 x1 x2 x3 h) : s52l1_G F x0 x1 x2 x3 h := gJ_plain rfl H
theorem s52l1_in {F : Nat → s52l1_T} {x0 x1 : AVal} {x2 x3 : Int} {h : Heap} (n : Nat) (H : F n x0 x1 x2 x3 h) : s52l1_E F x0 x1 x2 x3 h := gJ_plain rfl ⟨n, H⟩

def s52l1 (Ψ : AVal → Heap → Prop) : Nat → s52l1_T
  | 0, _, _, _, _, _ => False
  | n1 + 1, c, t13, t14, t15, h =>
    ifT (decide (t15 < t14)) (
      ixS 4 t13 t15 fun p2 =>
      ldN 4 h p2 fun l_ =>
      tCons l_ fun v4 l_1 =>
      tInt .i64 v4 fun v5 =>
      tCons l_1 fun v6 l_2 =>
      tStr v6 fun v7 =>
      tCons l_2 fun v8 l_3 =>
      tInt .i64 v8 fun v9 =>
      tCons l_3 fun v10 l_4 =>
      tInt .i64 v10 fun v11 =>
      tNil l_4 (
        Sym.newRow 4 [(.agg [(.int .i64 0), (.str (ByteArray.mk #[])), (.int .i64 0), (.int .i64 0)])] h fun r h_2 =>
        st false h_2 (.ptr r 0 0) [(.int .i64 v5), (.str v7), (.int .i64 v9), (.int .i64 v11)] fun h_3 =>
        nilCheckA c fun p3 =>
        addOff p3 0 fun p4 =>
        ld1 h_3 p4 fun v12 =>
        ldN 4 h_3 (.ptr r 0 0) fun l_5 =>
        tCons l_5 fun v13 l_6 =>
        tInt .i64 v13 fun v14 =>
        tCons l_6 fun v15 l_7 =>
        tStr v15 fun v16 =>
        tCons l_7 fun v17 l_8 =>
        tInt .i64 v17 fun v18 =>
        tCons l_8 fun v19 l_9 =>
        tInt .i64 v19 fun v20 =>
        tNil l_9 (
          (ld1 h_3 p4 fun v21 =>
          v21 = v12) ∧
          appC 4 40 h_3 v12 (.lsl 4 [(.agg [(.int .i64 v14), (.str v16), (.int .i64 v18), (.int .i64 v20)])]) fun v22 h_4 =>
          nilCheckA c fun p5 =>
          addOff p5 0 fun p6 =>
          chk (sc v22) (
            st true h_4 p6 [v22] fun h_5 =>
            nilCheckA c fun p7 =>
            addOff p7 1 fun p8 =>
            ld1 h_5 p8 fun v23 =>
            ldN 4 h_5 (.ptr r 0 0) fun l_10 =>
            tCons l_10 fun v24 l_11 =>
            tInt .i64 v24 fun v25 =>
            tCons l_11 fun v26 l_12 =>
            tStr v26 fun v27 =>
            tCons l_12 fun v28 l_13 =>
            tInt .i64 v28 fun v29 =>
            tCons l_13 fun v30 l_14 =>
            tInt .i64 v30 fun v31 =>
            tNil l_14 (
              mapPut h_5 v23 (.agg [(.int .i64 v25), (.str v27), (.int .i64 v29), (.int .i64 v31)]) (.int .i64 t15) fun h_6 =>
              rg (t15 + 1) (
                s52l1_G (s52l1 Ψ n1) c t13 t14 (t15 + 1) h_6)))))) (
      retG c h Ψ)

def s52 (Ψ : AVal → Heap → Prop) (t : AVal) (h : Heap) : Prop :=
  callG prog 58 [t] h fun v h_ =>
  tBool v fun v1 =>
  ifT (!v1) (
    retG .nilptr h_ Ψ) (
    callG prog 33 [] h_ fun v2 h_1 =>
    nilCheckA t fun p =>
    addOff p 0 fun p1 =>
    ld1 h_1 p1 fun v3 =>
    lenN v3 fun n =>
    s52l1_E (s52l1 Ψ) v2 v3 n 0 h_1)

def s52_A (Ψ : AVal → Heap → Prop) : Ann :=
  .seq (rA 1)
  (.seq (.seq (rA 3)
  (.cond (.seq (rA 1)
  (.leaf))
  (.leaf)))
  (.seq (rA 2)
  (.seq (.seq (rA 6)
  (.block (.loop [(3, .any), (13, .any), (14, .int .i64), (15, .int .i64)] (fun n l h => s52l1_R (s52l1 Ψ n) l h) (fun L1 =>
  .seq (rA 1)
  (.seq (.cond (.leaf)
  (.leaf))
  (.seq (.block (.seq (rA 6)
  (.seq (.draw [(0, false), (1, false), (2, false), (3, false), (4, false), (5, false), (6, true), (7, false), (8, false), (9, false), (10, false)] [0, 0, 2, 6, 14, 0, 32, 126, 255, 511, 1023])
  (.draw [(0, false), (1, false), (2, false), (3, false), (4, false), (5, false), (6, false)] [0, 1, 3, 7, 0, 0, 63]))))
  (rA 2)))))))
  (.seq (rA 2)
  (.leaf)))))

theorem s52_ok {Ψ : AVal → Heap → Prop} {t : AVal} {h : Heap} (H : s52 Ψ t h) : ACalls prog 52 [t] h Ψ :=
  calls_of_evF func52 (by kernel_rfl) (by kernel_rfl) (by kernel_rfl)
    (Eq.mpr (by as_aux_lemma => kernel_rfl : oblF prog f52 (s52_A Ψ) Ψ = (True ∧ (True ∧ (True ∧ True) ∧ True) ∧ True ∧ (True ∧ (∀ (h : Heap) (x0 x1 : AVal) (x2 x3 : Int), ON (s52l1 Ψ 0 x0 x1 x2 x3 h)) ∧ ∀ n1 : Nat, (∀ (h : Heap) (x0 x1 : AVal) (x2 x3 : Int), OI (s52l1 Ψ (n1 + 1) x0 x1 x2 x3 h)) ∧ (True ∧ (True ∧ True) ∧ (True ∧ True ∧ True) ∧ True)) ∧ True ∧ True)) ⟨trivial, ⟨⟨trivial, ⟨⟨trivial, trivial⟩, trivial⟩⟩, ⟨trivial, ⟨⟨trivial, ⟨fun _ _ _ _ _ H => H, fun _ => ⟨fun _ _ _ _ _ H => H, ⟨trivial, ⟨⟨trivial, trivial⟩, ⟨⟨trivial, ⟨trivial, trivial⟩⟩, trivial⟩⟩⟩⟩⟩⟩, ⟨trivial, trivial⟩⟩⟩⟩⟩)
    (Eq.mpr (by as_aux_lemma => kernel_rfl : evF prog f52 (s52_A Ψ) Ψ [t] h = s52 Ψ t h) H)

/- 56 dictum/measure.Atoms -/
abbrev s56l1_T := AVal → AVal → AVal → Int → Int → Heap → Prop
def s56l1_R (F : s56l1_T) (l : List AVal) (h : Heap) : Prop := J.cons l fun x0 l => J.cons l fun x1 l => J.cons l fun x2 l => J.cons l fun v l => J.int .i64 v fun x3 => J.cons l fun v l => J.int .i64 v fun x4 => J.nil l (F x0 x1 x2 x3 x4 h)
def s56l1_G (F : s56l1_T) (x0 x1 x2 : AVal) (x3 x4 : Int) (h : Heap) : Prop := gJ [.any, .any, .any, .int .i64, .int .i64] [x0, x1, x2, (.int .i64 x3), (.int .i64 x4)] h (s56l1_R F)
def s56l1_E (F : Nat → s56l1_T) (x0 x1 x2 : AVal) (x3 x4 : Int) (h : Heap) : Prop := gJ [.any, .any, .any, .int .i64, .int .i64] [x0, x1, x2, (.int .i64 x3), (.int .i64 x4)] h (fun l h => ∃ n, s56l1_R (F n) l h)
theorem s56l1_go {F : s56l1_T} {x0 x1 x2 : AVal} {x3 x4 : Int} {h : Heap} (H : F x0 x1 x2 x3 x4 h) : s56l1_G F x0 x1 x2 x3 x4 h := gJ_plain rfl H
theorem s56l1_in {F : Nat → s56l1_T} {x0 x1 x2 : AVal} {x3 x4 : Int} {h : Heap} (n : Nat) (H : F n x0 x1 x2 x3 x4 h) : s56l1_E F x0 x1 x2 x3 x4 h := gJ_plain rfl ⟨n, H⟩

def s56c2 (Ψ : AVal → Heap → Prop) (L1 : s56l1_T) (t2 out1 t30_1 : AVal) (t31_1 t32_1 : Int) (h : Heap) : Prop :=
  rg (t32_1 + 1) (
    L1 t2 out1 t30_1 t31_1 (t32_1 + 1) h)

def s56l1 (Ψ : AVal → Heap → Prop) : Nat → s56l1_T
  | 0, _, _, _, _, _, _ => False
  | n1 + 1, t1, out, t30, t31, t32, h =>
    ifT (decide (t32 < t31)) (
      ixS 1 t30 t32 fun p =>
      ld1 h p fun v16 =>
      tInt .i64 v16 fun v17 =>
      callG prog 36 [t1, (.int .i64 v17)] h fun v18 h_4 =>
      tTup v18 fun l_11 =>
      tCons l_11 fun v19 l_12 =>
      tCons l_12 fun v20 l_13 =>
      tBool v20 fun v21 =>
      tNil l_13 (
        tAgg v19 fun l_14 =>
        tCons l_14 fun v22 l_15 =>
        tInt .i64 v22 fun v23 =>
        tCons l_15 fun v24 l_16 =>
        tStr v24 fun v25 =>
        tCons l_16 fun v26 l_17 =>
        tInt .i64 v26 fun v27 =>
        tCons l_17 fun v28 l_18 =>
        tInt .i64 v28 fun v29 =>
        tNil l_18 (
          Sym.newRow 4 [(.agg [(.int .i64 0), (.str (ByteArray.mk #[])), (.int .i64 0), (.int .i64 0)])] h_4 fun r1 h_5 =>
          st false h_5 (.ptr r1 0 0) [(.int .i64 v23), (.str v25), (.int .i64 v27), (.int .i64 v29)] fun h_6 =>
          ld1 h_6 (.ptr r1 0 0) fun v30 =>
          tInt .i64 v30 fun v31 =>
          ifT (v31 == 1) (
            ld1 h_6 (.ptr r1 0 1) fun v32 =>
            tStr v32 fun v33 =>
            appC 1 16 h_6 out (.lsl 1 [(.str v33)]) fun v34 h_7 =>
            s56c2 Ψ (s56l1_G (s56l1 Ψ n1)) t1 v34 t30 t31 t32 h_7) (
            s56c2 Ψ (s56l1_G (s56l1 Ψ n1)) t1 out t30 t31 t32 h_6)))) (
      callG prog 71 [out] h fun v35 h_8 =>
      retG (.tuple [out, (.int .i64 0)]) h_8 Ψ)

def s56 (Ψ : AVal → Heap → Prop) (t : AVal) (id_ : Int) (h : Heap) : Prop :=
  callG prog 70 [t, (.int .i64 id_)] h fun v h_ =>
  tTup v fun l_ =>
  tCons l_ fun v1 l_1 =>
  tCons l_1 fun v2 l_2 =>
  tInt .i64 v2 fun v3 =>
  tNil l_2 (
    tAgg v1 fun l_3 =>
    tCons l_3 fun v4 l_4 =>
    tInt .i64 v4 fun v5 =>
    tCons l_4 fun v6 l_5 =>
    tStr v6 fun v7 =>
    tCons l_5 fun v8 l_6 =>
    tInt .i64 v8 fun v9 =>
    tCons l_6 fun v10 l_7 =>
    tInt .i64 v10 fun v11 =>
    tNil l_7 (
      Sym.newRow 4 [(.agg [(.int .i64 0), (.str (ByteArray.mk #[])), (.int .i64 0), (.int .i64 0)])] h_ fun r h_1 =>
      st false h_1 (.ptr r 0 0) [(.int .i64 v5), (.str v7), (.int .i64 v9), (.int .i64 v11)] fun h_2 =>
      ifT (v3 != 0) (
        retG (.tuple [.nilsl, (.int .i64 v3)]) h_2 Ψ) (
        callG prog 57 [t, (.int .i64 id_)] h_2 fun v12 h_3 =>
        tTup v12 fun l_8 =>
        tCons l_8 fun v13 l_9 =>
        tCons l_9 fun v14 l_10 =>
        tInt .i64 v14 fun v15 =>
        tNil l_10 (
          lenN v13 fun n =>
          s56l1_E (s56l1 Ψ) t .nilsl v13 n 0 h_3))))

def s56_A (Ψ : AVal → Heap → Prop) : Ann :=
  .seq (rA 2)
  (.seq (.seq (rA 9)
  (.seq (rA 2)
  (.cond (.seq (rA 3)
  (.leaf))
  (.leaf))))
  (.seq (rA 1)
  (.seq (rA 8)
  (.seq (.seq (rA 3)
  (.block (.loop [(0, .any), (8, .any), (30, .any), (31, .int .i64), (32, .int .i64)] (fun n l h => s56l1_R (s56l1 Ψ n) l h) (fun L1 =>
  .seq (rA 1)
  (.seq (.cond (.leaf)
  (.leaf))
  (.cut [(0, .any), (8, .any), (30, .any), (31, .int .i64), (32, .int .i64)] (fun l h => J.cons l fun x0 l => J.cons l fun x1 l => J.cons l fun x2 l => J.cons l fun v l => J.int .i64 v fun x3 => J.cons l fun v l => J.int .i64 v fun x4 => J.nil l (s56c2 Ψ (fun y0 y1 y2 y3 y4 h => L1 [y0, y1, y2, (.int .i64 y3), (.int .i64 y4)] h) x0 x1 x2 x3 x4 h)) (.block (.seq (rA 3)
  (.seq (rA 9)
  (.seq (rA 3)
  (.cond (.reg [⟨none, [(0, false), (1, false), (2, false), (3, true), (4, false), (5, false)]⟩])
  (.leaf))))))
  (rA 2)))))))
  (.seq (rA 2)
  (.seq (rA 3)
  (.leaf)))))))

theorem s56_ok {Ψ : AVal → Heap → Prop} {t : AVal} {id_ : Int} {h : Heap} (H : s56 Ψ t id_ h) : ACalls prog 56 [t, (.int .i64 id_)] h Ψ :=
  calls_of_evF func56 (by kernel_rfl) (by kernel_rfl) (by kernel_rfl)
    (Eq.mpr (by as_aux_lemma => kernel_rfl : oblF prog f56 (s56_A Ψ) Ψ = (True ∧ (True ∧ True ∧ (True ∧ True) ∧ True) ∧ True ∧ True ∧ (True ∧ (∀ (h : Heap) (x0 x1 x2 : AVal) (x3 x4 : Int), ON (s56l1 Ψ 0 x0 x1 x2 x3 x4 h)) ∧ ∀ n1 : Nat, (∀ (h : Heap) (x0 x1 x2 : AVal) (x3 x4 : Int), OI (s56l1 Ψ (n1 + 1) x0 x1 x2 x3 x4 h)) ∧ (True ∧ (True ∧ True) ∧ (True ∧ True ∧ True ∧ True ∧ True) ∧ (∀ (h : Heap) (x0 x1 x2 : AVal) (x3 x4 : Int), OI (s56c2 Ψ (s56l1_G (s56l1 Ψ n1)) x0 x1 x2 x3 x4 h)) ∧ (True))) ∧ True ∧ True ∧ True)) ⟨trivial, ⟨⟨trivial, ⟨trivial, ⟨⟨trivial, trivial⟩, trivial⟩⟩⟩, ⟨trivial, ⟨trivial, ⟨⟨trivial, ⟨fun _ _ _ _ _ _ H => H, fun _ => ⟨fun _ _ _ _ _ _ H => H, ⟨trivial, ⟨⟨trivial, trivial⟩, ⟨⟨trivial, ⟨trivial, ⟨trivial, ⟨trivial, trivial⟩⟩⟩⟩, fun _ _ _ _ _ _ H => H, trivial⟩⟩⟩⟩⟩⟩, ⟨trivial, ⟨trivial, trivial⟩⟩⟩⟩⟩⟩⟩)
    (Eq.mpr (by as_aux_lemma => kernel_rfl : evF prog f56 (s56_A Ψ) Ψ [t, (.int .i64 id_)] h = s56 Ψ t id_ h) H)

/- 58 (*dictum/formula.Table).alive -/
def s58 (Ψ : AVal → Heap → Prop) (t : AVal) (h : Heap) : Prop :=
  nilP t fun b =>
  ifT (!b) (
    nilCheckA t fun p =>
    addOff p 1 fun p1 =>
    ld1 h p1 fun v =>
    nilM v fun b1 =>
    retG (.bool (!b1)) h Ψ) (
    retG (.bool false) h Ψ)

def s58_A (Ψ : AVal → Heap → Prop) : Ann :=
  .seq (rA 1)
  (.seq (.reg [⟨none, [(0, false), (1, false), (2, false)]⟩, ⟨some (5, true), [(3, false), (4, false), (5, false), (6, false), (7, false)]⟩, ⟨none, [(8, false), (9, false)]⟩])
  (.leaf))

theorem s58_ok {Ψ : AVal → Heap → Prop} {t : AVal} {h : Heap} (H : s58 Ψ t h) : ACalls prog 58 [t] h Ψ :=
  calls_of_evF func58 (by kernel_rfl) (by kernel_rfl) (by kernel_rfl)
    (Eq.mpr (by as_aux_lemma => kernel_rfl : oblF prog f58 (s58_A Ψ) Ψ = (True ∧ True ∧ True)) ⟨trivial, ⟨trivial, trivial⟩⟩)
    (Eq.mpr (by as_aux_lemma => kernel_rfl : evF prog f58 (s58_A Ψ) Ψ [t] h = s58 Ψ t h) H)

/- 70 dictum/measure.row -/
def s70 (Ψ : AVal → Heap → Prop) (t : AVal) (id_ : Int) (h : Heap) : Prop :=
  Sym.newRow 4 [(.agg [(.int .i64 0), (.str (ByteArray.mk #[])), (.int .i64 0), (.int .i64 0)])] h fun r h_ =>
  callG prog 52 [t] h_ fun v h_1 =>
  nilP v fun b =>
  ifT b (
    st false h_1 (.ptr r 0 0) [(.int .i64 0), (.str (ByteArray.mk #[])), (.int .i64 0), (.int .i64 0)] fun h_2 =>
    ldN 4 h_2 (.ptr r 0 0) fun l_ =>
    tCons l_ fun v1 l_1 =>
    tInt .i64 v1 fun v2 =>
    tCons l_1 fun v3 l_2 =>
    tStr v3 fun v4 =>
    tCons l_2 fun v5 l_3 =>
    tInt .i64 v5 fun v6 =>
    tCons l_3 fun v7 l_4 =>
    tInt .i64 v7 fun v8 =>
    tNil l_4 (
      retG (.tuple [(.agg [(.int .i64 v2), (.str v4), (.int .i64 v6), (.int .i64 v8)]), (.int .i64 1)]) h_2 Ψ)) (
    callG prog 36 [t, (.int .i64 id_)] h_1 fun v9 h_3 =>
    tTup v9 fun l_5 =>
    tCons l_5 fun v10 l_6 =>
    tCons l_6 fun v11 l_7 =>
    tBool v11 fun v12 =>
    tNil l_7 (
      tAgg v10 fun l_8 =>
      tCons l_8 fun v13 l_9 =>
      tInt .i64 v13 fun v14 =>
      tCons l_9 fun v15 l_10 =>
      tStr v15 fun v16 =>
      tCons l_10 fun v17 l_11 =>
      tInt .i64 v17 fun v18 =>
      tCons l_11 fun v19 l_12 =>
      tInt .i64 v19 fun v20 =>
      tNil l_12 (
        Sym.newRow 4 [(.agg [(.int .i64 0), (.str (ByteArray.mk #[])), (.int .i64 0), (.int .i64 0)])] h_3 fun r1 h_4 =>
        st false h_4 (.ptr r1 0 0) [(.int .i64 v14), (.str v16), (.int .i64 v18), (.int .i64 v20)] fun h_5 =>
        ifT (!v12) (
          ldN 4 h_5 (.ptr r1 0 0) fun l_13 =>
          tCons l_13 fun v21 l_14 =>
          tInt .i64 v21 fun v22 =>
          tCons l_14 fun v23 l_15 =>
          tStr v23 fun v24 =>
          tCons l_15 fun v25 l_16 =>
          tInt .i64 v25 fun v26 =>
          tCons l_16 fun v27 l_17 =>
          tInt .i64 v27 fun v28 =>
          tNil l_17 (
            st false h_5 (.ptr r 0 0) [(.int .i64 v22), (.str v24), (.int .i64 v26), (.int .i64 v28)] fun h_6 =>
            ldN 4 h_6 (.ptr r 0 0) fun l_18 =>
            tCons l_18 fun v29 l_19 =>
            tInt .i64 v29 fun v30 =>
            tCons l_19 fun v31 l_20 =>
            tStr v31 fun v32 =>
            tCons l_20 fun v33 l_21 =>
            tInt .i64 v33 fun v34 =>
            tCons l_21 fun v35 l_22 =>
            tInt .i64 v35 fun v36 =>
            tNil l_22 (
              retG (.tuple [(.agg [(.int .i64 v30), (.str v32), (.int .i64 v34), (.int .i64 v36)]), (.int .i64 31)]) h_6 Ψ))) (
          ldN 4 h_5 (.ptr r1 0 0) fun l_23 =>
          tCons l_23 fun v37 l_24 =>
          tInt .i64 v37 fun v38 =>
          tCons l_24 fun v39 l_25 =>
          tStr v39 fun v40 =>
          tCons l_25 fun v41 l_26 =>
          tInt .i64 v41 fun v42 =>
          tCons l_26 fun v43 l_27 =>
          tInt .i64 v43 fun v44 =>
          tNil l_27 (
            st false h_5 (.ptr r 0 0) [(.int .i64 v38), (.str v40), (.int .i64 v42), (.int .i64 v44)] fun h_7 =>
            ldN 4 h_7 (.ptr r 0 0) fun l_28 =>
            tCons l_28 fun v45 l_29 =>
            tInt .i64 v45 fun v46 =>
            tCons l_29 fun v47 l_30 =>
            tStr v47 fun v48 =>
            tCons l_30 fun v49 l_31 =>
            tInt .i64 v49 fun v50 =>
            tCons l_31 fun v51 l_32 =>
            tInt .i64 v51 fun v52 =>
            tNil l_32 (
              retG (.tuple [(.agg [(.int .i64 v46), (.str v48), (.int .i64 v50), (.int .i64 v52)]), (.int .i64 0)]) h_7 Ψ))))))

def s70_A (Ψ : AVal → Heap → Prop) : Ann :=
  .seq (rA 2)
  (.seq (.seq (rA 3)
  (.cond (.seq (rA 3)
  (.leaf))
  (.leaf)))
  (.seq (rA 9)
  (.seq (.seq (rA 2)
  (.cond (.seq (rA 3)
  (.leaf))
  (.leaf)))
  (.seq (rA 3)
  (.leaf)))))

theorem s70_ok {Ψ : AVal → Heap → Prop} {t : AVal} {id_ : Int} {h : Heap} (H : s70 Ψ t id_ h) : ACalls prog 70 [t, (.int .i64 id_)] h Ψ :=
  calls_of_evF func70 (by kernel_rfl) (by kernel_rfl) (by kernel_rfl)
    (Eq.mpr (by as_aux_lemma => kernel_rfl : oblF prog f70 (s70_A Ψ) Ψ = (True ∧ (True ∧ (True ∧ True) ∧ True) ∧ True ∧ (True ∧ (True ∧ True) ∧ True) ∧ True ∧ True)) ⟨trivial, ⟨⟨trivial, ⟨⟨trivial, trivial⟩, trivial⟩⟩, ⟨trivial, ⟨⟨trivial, ⟨⟨trivial, trivial⟩, trivial⟩⟩, ⟨trivial, trivial⟩⟩⟩⟩⟩)
    (Eq.mpr (by as_aux_lemma => kernel_rfl : evF prog f70 (s70_A Ψ) Ψ [t, (.int .i64 id_)] h = s70 Ψ t id_ h) H)

end Go.Proofs.Ytobpfhmjdoekfaa

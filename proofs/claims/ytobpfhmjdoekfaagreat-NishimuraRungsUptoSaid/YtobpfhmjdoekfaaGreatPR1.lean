/- The functions that the proof meets, each as a text that Lean has checked against the program. No condition. -/
import Derived.Test.YtobpfhmjdoekfaaGreatM3
import Derived.Test.YtobpfhmjdoekfaaGreatChecked
namespace Go.Proofs.YtobpfhmjdoekfaaGreat
open Go Go.Sym Go.Proofs.Tryz
set_option maxRecDepth 100000
set_option linter.unusedVariables false

/- 4 dictum/dictumlaw26.NishimuraRungs -/
def s4 (Ψ : AVal → Heap → Prop) (rows : AVal) (a : Int) (b : Int) (h : Heap) : Prop :=
  callG prog 6 [rows] h fun v h_ =>
  tTup v fun l_ =>
  tCons l_ fun v1 l_1 =>
  tCons l_1 fun v2 l_2 =>
  tNil l_2 (
    callG prog 12 [v1, (.int .i64 a)] h_ fun v3 h_1 =>
    tTup v3 fun l_3 =>
    tCons l_3 fun v4 l_4 =>
    tInt .i64 v4 fun v5 =>
    tCons l_4 fun v6 l_5 =>
    tInt .i64 v6 fun v7 =>
    tNil l_5 (
      callG prog 13 [v2, (.int .i64 a)] h_1 fun v8 h_2 =>
      tTup v8 fun l_6 =>
      tCons l_6 fun v9 l_7 =>
      tInt .i64 v9 fun v10 =>
      tCons l_7 fun v11 l_8 =>
      tInt .i64 v11 fun v12 =>
      tNil l_8 (
        callG prog 14 [v1, (.int .i64 a), (.int .i64 b)] h_2 fun v13 h_3 =>
        tTup v13 fun l_9 =>
        tCons l_9 fun v14 l_10 =>
        tBool v14 fun v15 =>
        tCons l_10 fun v16 l_11 =>
        tInt .i64 v16 fun v17 =>
        tNil l_11 (
          callG prog 15 [v2, (.int .i64 a), (.int .i64 b)] h_3 fun v18 h_4 =>
          tTup v18 fun l_12 =>
          tCons l_12 fun v19 l_13 =>
          tBool v19 fun v20 =>
          tCons l_13 fun v21 l_14 =>
          tInt .i64 v21 fun v22 =>
          tNil l_14 (
            ifT (v5 == v10) (
              callG prog 9 [(.int .i64 v7)] h_4 fun v23 h_5 =>
              tInt .i64 v23 fun v24 =>
              ifT (v24 == v12) (
                eqQ prog 4 (.bool v15) (.bool v20) fun b1 =>
                ifT b1 (
                  callG prog 9 [(.int .i64 v17)] h_5 fun v25 h_6 =>
                  tInt .i64 v25 fun v26 =>
                  ifT (v26 == v22) (
                    callG prog 10 [v1, v2] h_6 fun v27 h_7 =>
                    tBool v27 fun v28 =>
                    ifT v28 (
                      callG prog 11 [] h_7 fun v29 h_8 =>
                      tBool v29 fun v30 =>
                      retG (.bool v30) h_8 Ψ) (
                      retG (.bool false) h_7 Ψ)) (
                    retG (.bool false) h_6 Ψ)) (
                  retG (.bool false) h_5 Ψ)) (
                retG (.bool false) h_5 Ψ)) (
              retG (.bool false) h_4 Ψ))))))

def s4_A (Ψ : AVal → Heap → Prop) : Ann :=
  .seq (rA 1)
  (.seq (rA 7)
  (.seq (rA 8)
  (.seq (rA 8)
  (.seq (rA 9)
  (.seq (rA 9)
  (.seq (.reg [⟨none, [(0, false), (1, false), (2, false), (3, false)]⟩, ⟨some (51, true), [(4, false), (5, false), (6, false), (7, false)]⟩, ⟨none, [(8, false), (9, false)]⟩, ⟨some (57, true), [(10, false), (11, false), (12, false)]⟩, ⟨none, [(13, false), (14, false)]⟩, ⟨some (62, true), [(15, false), (16, false), (17, false), (18, false)]⟩, ⟨none, [(19, false), (20, false)]⟩, ⟨some (68, true), [(21, false), (22, false), (23, false)]⟩, ⟨none, [(24, false), (25, false)]⟩, ⟨some (73, true), [(26, false)]⟩, ⟨none, [(27, false), (28, false)]⟩])
  (.leaf)))))))

theorem s4_ok {Ψ : AVal → Heap → Prop} {rows : AVal} {a : Int} {b : Int} {h : Heap} (H : s4 Ψ rows a b h) : ACalls prog 4 [rows, (.int .i64 a), (.int .i64 b)] h Ψ :=
  calls_of_evF func4 (by kernel_rfl) (by kernel_rfl) (by kernel_rfl)
    (Eq.mpr (by as_aux_lemma => kernel_rfl : oblF prog f4 (s4_A Ψ) Ψ = (True ∧ True ∧ True ∧ True ∧ True ∧ True ∧ True ∧ True)) ⟨trivial, ⟨trivial, ⟨trivial, ⟨trivial, ⟨trivial, ⟨trivial, ⟨trivial, trivial⟩⟩⟩⟩⟩⟩⟩)
    (Eq.mpr (by as_aux_lemma => kernel_rfl : evF prog f4 (s4_A Ψ) Ψ [rows, (.int .i64 a), (.int .i64 b)] h = s4 Ψ rows a b h) H)

/- 7 dictum/nishimura.Ladder -/
def s7c1 (Ψ : AVal → Heap → Prop) (t1 : AVal) (atom1 : ByteArray) (k1 : Int) (t19 : Bool) (h : Heap) : Prop :=
  ifT t19 (
    retG (.tuple [(.int .i64 0), (.int .i64 2)]) h Ψ) (
    callG prog 25 [t1] h fun v3 h_2 =>
    tInt .i64 v3 fun v4 =>
    callG prog 26 [t1, (.str atom1), (.int .i64 k1)] h_2 fun v5 h_3 =>
    tTup v5 fun l_ =>
    tCons l_ fun v6 l_1 =>
    tInt .i64 v6 fun v7 =>
    tCons l_1 fun v8 l_2 =>
    tInt .i64 v8 fun v9 =>
    tNil l_2 (
      ifT (v9 != 0) (
        callG prog 27 [t1, (.int .i64 v4)] h_3 fun v10 h_4 =>
        tInt .i64 v10 fun v11 =>
        retG (.tuple [(.int .i64 0), (.int .i64 v9)]) h_4 Ψ) (
        retG (.tuple [(.int .i64 v7), (.int .i64 0)]) h_3 Ψ)))

def s7 (Ψ : AVal → Heap → Prop) (t : AVal) (atom : ByteArray) (k : Int) (h : Heap) : Prop :=
  callG prog 23 [t] h fun v h_ =>
  nilP v fun b =>
  ifT b (
    retG (.tuple [(.int .i64 0), (.int .i64 1)]) h_ Ψ) (
    callG prog 24 [(.str atom)] h_ fun v1 h_1 =>
    tBool v1 fun v2 =>
    ifT (!v2) (
      retG (.tuple [(.int .i64 0), (.int .i64 32)]) h_1 Ψ) (
      ifT (decide (k < (-1))) (
        s7c1 Ψ t atom k true h_1) (
        s7c1 Ψ t atom k (decide (4096 < k)) h_1)))

def s7_A (Ψ : AVal → Heap → Prop) : Ann :=
  .seq (rA 2)
  (.seq (.block (.seq (rA 4)
  (.cond (.seq (rA 2)
  (.leaf))
  (.seq (rA 4)
  (.cond (.seq (rA 2)
  (.leaf))
  (.cut [(0, .any), (1, .str), (2, .int .i64), (19, .bool)] (fun l h => J.cons l fun x0 l => J.cons l fun v l => J.str v fun x1 => J.cons l fun v l => J.int .i64 v fun x2 => J.cons l fun v l => J.bool v fun x3 => J.nil l (s7c1 Ψ x0 x1 x2 x3 h)) (.reg [⟨none, [(0, false), (1, false), (2, false)]⟩, ⟨some (22, false), [(3, false), (4, false)]⟩, ⟨none, [(5, false), (6, false)]⟩])
  (.cond (.seq (rA 2)
  (.leaf))
  (.leaf))))))))
  (.seq (rA 3)
  (.seq (rA 9)
  (.seq (.seq (rA 2)
  (.cond (.seq (rA 3)
  (.seq (rA 3)
  (.leaf)))
  (.leaf)))
  (.seq (rA 3)
  (.leaf))))))

theorem s7_ok {Ψ : AVal → Heap → Prop} {t : AVal} {atom : ByteArray} {k : Int} {h : Heap} (H : s7 Ψ t atom k h) : ACalls prog 7 [t, (.str atom), (.int .i64 k)] h Ψ :=
  calls_of_evF func7 (by kernel_rfl) (by kernel_rfl) (by kernel_rfl)
    (Eq.mpr (by as_aux_lemma => kernel_rfl : oblF prog f7 (s7_A Ψ) Ψ = (True ∧ (True ∧ (True ∧ True) ∧ True ∧ (True ∧ True) ∧ (True) ∧ (∀ (h : Heap) (x0 : AVal) (x1 : ByteArray) (x2 : Int) (x3 : Bool), OI (s7c1 Ψ x0 x1 x2 x3 h)) ∧ ((True ∧ True) ∧ True)) ∧ True ∧ True ∧ (True ∧ (True ∧ True ∧ True) ∧ True) ∧ True ∧ True)) ⟨trivial, ⟨⟨trivial, ⟨⟨trivial, trivial⟩, ⟨trivial, ⟨⟨trivial, trivial⟩, ⟨trivial, fun _ _ _ _ _ H => H, ⟨⟨trivial, trivial⟩, trivial⟩⟩⟩⟩⟩⟩, ⟨trivial, ⟨trivial, ⟨⟨trivial, ⟨⟨trivial, ⟨trivial, trivial⟩⟩, trivial⟩⟩, ⟨trivial, trivial⟩⟩⟩⟩⟩⟩)
    (Eq.mpr (by as_aux_lemma => kernel_rfl : evF prog f7 (s7_A Ψ) Ψ [t, (.str atom), (.int .i64 k)] h = s7 Ψ t atom k h) H)

/- 9 dictum/dictumlaw26.num -/
def s9 (Ψ : AVal → Heap → Prop) (e : Int) (h : Heap) : Prop :=
  retG (.int .i64 e) h Ψ

def s9_A (Ψ : AVal → Heap → Prop) : Ann :=
  .seq (rA 1)
  (.seq (rA 2)
  (.leaf))

theorem s9_ok {Ψ : AVal → Heap → Prop} {e : Int} {h : Heap} (H : s9 Ψ e h) : ACalls prog 9 [(.int .i64 e)] h Ψ :=
  calls_of_evF func9 (by kernel_rfl) (by kernel_rfl) (by kernel_rfl)
    (Eq.mpr (by as_aux_lemma => kernel_rfl : oblF prog f9 (s9_A Ψ) Ψ = (True ∧ True ∧ True)) ⟨trivial, ⟨trivial, trivial⟩⟩)
    (Eq.mpr (by as_aux_lemma => kernel_rfl : evF prog f9 (s9_A Ψ) Ψ [(.int .i64 e)] h = s9 Ψ e h) H)

/- 12 dictum/nishimura.Rung -/
abbrev s12l1_T := AVal → Int → AVal → AVal → Int → Int → Heap → Prop
def s12l1_R (F : s12l1_T) (l : List AVal) (h : Heap) : Prop := J.cons l fun x0 l => J.cons l fun v l => J.int .i64 v fun x1 => J.cons l fun x2 l => J.cons l fun x3 l => J.cons l fun v l => J.int .i64 v fun x4 => J.cons l fun v l => J.int .i64 v fun x5 => J.nil l (F x0 x1 x2 x3 x4 x5 h)
def s12l1_G (F : s12l1_T) (x0 : AVal) (x1 : Int) (x2 x3 : AVal) (x4 x5 : Int) (h : Heap) : Prop := gJ [.any, .int .i64, .any, .any, .int .i64, .int .i64] [x0, (.int .i64 x1), x2, x3, (.int .i64 x4), (.int .i64 x5)] h (s12l1_R F)
def s12l1_E (F : Nat → s12l1_T) (x0 : AVal) (x1 : Int) (x2 x3 : AVal) (x4 x5 : Int) (h : Heap) : Prop := gJ [.any, .int .i64, .any, .any, .int .i64, .int .i64] [x0, (.int .i64 x1), x2, x3, (.int .i64 x4), (.int .i64 x5)] h (fun l h => ∃ n, s12l1_R (F n) l h)
theorem s12l1_go {F : s12l1_T} {x0 : AVal} {x1 : Int} {x2 x3 : AVal} {x4 x5 : Int} {h : Heap} (H : F x0 x1 x2 x3 x4 x5 h) : s12l1_G F x0 x1 x2 x3 x4 x5 h := gJ_plain rfl H
theorem s12l1_in {F : Nat → s12l1_T} {x0 : AVal} {x1 : Int} {x2 x3 : AVal} {x4 x5 : Int} {h : Heap} (n : Nat) (H : F n x0 x1 x2 x3 x4 x5 h) : s12l1_E F x0 x1 x2 x3 x4 x5 h := gJ_plain rfl ⟨n, H⟩

def s12c2 (Ψ : AVal → Heap → Prop) (L1 : s12l1_T) (t2 : AVal) (id_2 : Int) (known1 t34_1 : AVal) (t35_1 t36_1 : Int) (h : Heap) : Prop :=
  rg (t36_1 + 1) (
    L1 t2 id_2 known1 t34_1 t35_1 (t36_1 + 1) h)

def s12l1 (Ψ : AVal → Heap → Prop) : Nat → s12l1_T
  | 0, _, _, _, _, _, _, _ => False
  | n2 + 1, t1, id_1, known, t34, t35, t36, h =>
    ifT (decide (t36 < t35)) (
      ixS 1 t34 t36 fun p =>
      ld1 h p fun v8 =>
      tInt .i64 v8 fun v9 =>
      callG prog 37 [t1, (.int .i64 v9)] h fun v10 h_3 =>
      tTup v10 fun l_6 =>
      tCons l_6 fun v11 l_7 =>
      tCons l_7 fun v12 l_8 =>
      tBool v12 fun v13 =>
      tNil l_8 (
        tAgg v11 fun l_9 =>
        tCons l_9 fun v14 l_10 =>
        tInt .i64 v14 fun v15 =>
        tCons l_10 fun v16 l_11 =>
        tStr v16 fun v17 =>
        tCons l_11 fun v18 l_12 =>
        tInt .i64 v18 fun v19 =>
        tCons l_12 fun v20 l_13 =>
        tInt .i64 v20 fun v21 =>
        tNil l_13 (
          Sym.newRow 4 [(.agg [(.int .i64 0), (.str (ByteArray.mk #[])), (.int .i64 0), (.int .i64 0)])] h_3 fun r1 h_4 =>
          st false h_4 (.ptr r1 0 0) [(.int .i64 v15), (.str v17), (.int .i64 v19), (.int .i64 v21)] fun h_5 =>
          ld1 h_5 (.ptr r1 0 0) fun v22 =>
          tInt .i64 v22 fun v23 =>
          ifT (v23 == 1) (
            mapPut h_5 known (.int .i64 v9) (.agg [(.bool false), (.int .i64 1), (.bool false)]) fun h_6 =>
            s12c2 Ψ (s12l1_G (s12l1 Ψ n2)) t1 id_1 known t34 t35 t36 h_6) (
            ifT (v23 == 3) (
              ld1 h_5 (.ptr r1 0 2) fun v24 =>
              tInt .i64 v24 fun v25 =>
              mapGet (.agg [(.bool false), (.int .i64 0), (.bool false)]) h_5 known (.int .i64 v25) fun v26 b =>
              tAgg v26 fun l_14 =>
              tCons l_14 fun v27 l_15 =>
              tBool v27 fun v28 =>
              tCons l_15 fun v29 l_16 =>
              tInt .i64 v29 fun v30 =>
              tCons l_16 fun v31 l_17 =>
              tBool v31 fun v32 =>
              tNil l_17 (
                ld1 h_5 (.ptr r1 0 3) fun v33 =>
                tInt .i64 v33 fun v34 =>
                mapGet (.agg [(.bool false), (.int .i64 0), (.bool false)]) h_5 known (.int .i64 v34) fun v35 b1 =>
                tAgg v35 fun l_18 =>
                tCons l_18 fun v36 l_19 =>
                tBool v36 fun v37 =>
                tCons l_19 fun v38 l_20 =>
                tInt .i64 v38 fun v39 =>
                tCons l_20 fun v40 l_21 =>
                tBool v40 fun v41 =>
                tNil l_21 (
                  callG prog 41 [(.agg [(.bool v28), (.int .i64 v30), (.bool v32)]), (.agg [(.bool v37), (.int .i64 v39), (.bool v41)])] h_5 fun v42 h_7 =>
                  tAgg v42 fun l_22 =>
                  tCons l_22 fun v43 l_23 =>
                  tBool v43 fun v44 =>
                  tCons l_23 fun v45 l_24 =>
                  tInt .i64 v45 fun v46 =>
                  tCons l_24 fun v47 l_25 =>
                  tBool v47 fun v48 =>
                  tNil l_25 (
                    mapPut h_7 known (.int .i64 v9) (.agg [(.bool v44), (.int .i64 v46), (.bool v48)]) fun h_8 =>
                    s12c2 Ψ (s12l1_G (s12l1 Ψ n2)) t1 id_1 known t34 t35 t36 h_8)))) (
              ifT (v23 == 4) (
                ld1 h_5 (.ptr r1 0 2) fun v49 =>
                tInt .i64 v49 fun v50 =>
                mapGet (.agg [(.bool false), (.int .i64 0), (.bool false)]) h_5 known (.int .i64 v50) fun v51 b2 =>
                tAgg v51 fun l_26 =>
                tCons l_26 fun v52 l_27 =>
                tBool v52 fun v53 =>
                tCons l_27 fun v54 l_28 =>
                tInt .i64 v54 fun v55 =>
                tCons l_28 fun v56 l_29 =>
                tBool v56 fun v57 =>
                tNil l_29 (
                  ld1 h_5 (.ptr r1 0 3) fun v58 =>
                  tInt .i64 v58 fun v59 =>
                  mapGet (.agg [(.bool false), (.int .i64 0), (.bool false)]) h_5 known (.int .i64 v59) fun v60 b3 =>
                  tAgg v60 fun l_30 =>
                  tCons l_30 fun v61 l_31 =>
                  tBool v61 fun v62 =>
                  tCons l_31 fun v63 l_32 =>
                  tInt .i64 v63 fun v64 =>
                  tCons l_32 fun v65 l_33 =>
                  tBool v65 fun v66 =>
                  tNil l_33 (
                    callG prog 42 [(.agg [(.bool v53), (.int .i64 v55), (.bool v57)]), (.agg [(.bool v62), (.int .i64 v64), (.bool v66)])] h_5 fun v67 h_9 =>
                    tAgg v67 fun l_34 =>
                    tCons l_34 fun v68 l_35 =>
                    tBool v68 fun v69 =>
                    tCons l_35 fun v70 l_36 =>
                    tInt .i64 v70 fun v71 =>
                    tCons l_36 fun v72 l_37 =>
                    tBool v72 fun v73 =>
                    tNil l_37 (
                      mapPut h_9 known (.int .i64 v9) (.agg [(.bool v69), (.int .i64 v71), (.bool v73)]) fun h_10 =>
                      s12c2 Ψ (s12l1_G (s12l1 Ψ n2)) t1 id_1 known t34 t35 t36 h_10)))) (
                ifT (v23 == 5) (
                  ld1 h_5 (.ptr r1 0 2) fun v74 =>
                  tInt .i64 v74 fun v75 =>
                  mapGet (.agg [(.bool false), (.int .i64 0), (.bool false)]) h_5 known (.int .i64 v75) fun v76 b4 =>
                  tAgg v76 fun l_38 =>
                  tCons l_38 fun v77 l_39 =>
                  tBool v77 fun v78 =>
                  tCons l_39 fun v79 l_40 =>
                  tInt .i64 v79 fun v80 =>
                  tCons l_40 fun v81 l_41 =>
                  tBool v81 fun v82 =>
                  tNil l_41 (
                    ld1 h_5 (.ptr r1 0 3) fun v83 =>
                    tInt .i64 v83 fun v84 =>
                    mapGet (.agg [(.bool false), (.int .i64 0), (.bool false)]) h_5 known (.int .i64 v84) fun v85 b5 =>
                    tAgg v85 fun l_42 =>
                    tCons l_42 fun v86 l_43 =>
                    tBool v86 fun v87 =>
                    tCons l_43 fun v88 l_44 =>
                    tInt .i64 v88 fun v89 =>
                    tCons l_44 fun v90 l_45 =>
                    tBool v90 fun v91 =>
                    tNil l_45 (
                      callG prog 43 [(.agg [(.bool v78), (.int .i64 v80), (.bool v82)]), (.agg [(.bool v87), (.int .i64 v89), (.bool v91)])] h_5 fun v92 h_11 =>
                      tAgg v92 fun l_46 =>
                      tCons l_46 fun v93 l_47 =>
                      tBool v93 fun v94 =>
                      tCons l_47 fun v95 l_48 =>
                      tInt .i64 v95 fun v96 =>
                      tCons l_48 fun v97 l_49 =>
                      tBool v97 fun v98 =>
                      tNil l_49 (
                        mapPut h_11 known (.int .i64 v9) (.agg [(.bool v94), (.int .i64 v96), (.bool v98)]) fun h_12 =>
                        s12c2 Ψ (s12l1_G (s12l1 Ψ n2)) t1 id_1 known t34 t35 t36 h_12)))) (
                  s12c2 Ψ (s12l1_G (s12l1 Ψ n2)) t1 id_1 known t34 t35 t36 h_5))))))) (
      mapGet (.agg [(.bool false), (.int .i64 0), (.bool false)]) h known (.int .i64 id_1) fun v99 b6 =>
      tAgg v99 fun l_50 =>
      tCons l_50 fun v100 l_51 =>
      tBool v100 fun v101 =>
      tCons l_51 fun v102 l_52 =>
      tInt .i64 v102 fun v103 =>
      tCons l_52 fun v104 l_53 =>
      tBool v104 fun v105 =>
      tNil l_53 (
        callG prog 44 [(.agg [(.bool v101), (.int .i64 v103), (.bool v105)])] h fun v106 h_13 =>
        tInt .i64 v106 fun v107 =>
        retG (.tuple [(.int .i64 v107), (.int .i64 0)]) h_13 Ψ))

def s12 (Ψ : AVal → Heap → Prop) (t : AVal) (id_ : Int) (h : Heap) : Prop :=
  callG prog 39 [t, (.int .i64 id_)] h fun v h_ =>
  tTup v fun l_ =>
  tCons l_ fun v1 l_1 =>
  tCons l_1 fun v2 l_2 =>
  tInt .i64 v2 fun v3 =>
  tNil l_2 (
    ifT (v3 != 0) (
      retG (.tuple [(.int .i64 0), (.int .i64 v3)]) h_ Ψ) (
      lenN v1 fun n =>
      ifT (decide (1 < n)) (
        retG (.tuple [(.int .i64 0), (.int .i64 220)]) h_ Ψ) (
        newMap h_ fun r h_1 =>
        callG prog 40 [t, (.int .i64 id_)] h_1 fun v4 h_2 =>
        tTup v4 fun l_3 =>
        tCons l_3 fun v5 l_4 =>
        tCons l_4 fun v6 l_5 =>
        tInt .i64 v6 fun v7 =>
        tNil l_5 (
          lenN v5 fun n1 =>
          s12l1_E (s12l1 Ψ) t id_ (.mapr r) v5 n1 0 h_2))))

def s12_A (Ψ : AVal → Heap → Prop) : Ann :=
  .seq (rA 2)
  (.seq (rA 8)
  (.seq (.seq (rA 2)
  (.cond (.seq (rA 3)
  (.leaf))
  (.leaf)))
  (.seq (.seq (rA 3)
  (.cond (.seq (rA 2)
  (.leaf))
  (.leaf)))
  (.seq (rA 2)
  (.seq (rA 8)
  (.seq (.seq (rA 3)
  (.block (.loop [(0, .any), (1, .int .i64), (8, .any), (34, .any), (35, .int .i64), (36, .int .i64)] (fun n l h => s12l1_R (s12l1 Ψ n) l h) (fun L1 =>
  .seq (rA 1)
  (.seq (.cond (.leaf)
  (.leaf))
  (.cut [(0, .any), (1, .int .i64), (8, .any), (34, .any), (35, .int .i64), (36, .int .i64)] (fun l h => J.cons l fun x0 l => J.cons l fun v l => J.int .i64 v fun x1 => J.cons l fun x2 l => J.cons l fun x3 l => J.cons l fun v l => J.int .i64 v fun x4 => J.cons l fun v l => J.int .i64 v fun x5 => J.nil l (s12c2 Ψ (fun y0 y1 y2 y3 y4 y5 h => L1 [y0, (.int .i64 y1), y2, y3, (.int .i64 y4), (.int .i64 y5)] h) x0 x1 x2 x3 x4 x5 h)) (.block (.seq (rA 3)
  (.seq (rA 9)
  (.seq (rA 2)
  (.block (.seq (rA 2)
  (.cond (rA 4)
  (.seq (rA 2)
  (.cond (rA 12)
  (.seq (rA 2)
  (.cond (rA 12)
  (.seq (rA 2)
  (.cond (rA 12)
  (.leaf))))))))))))))
  (rA 2)))))))
  (.seq (rA 6)
  (.leaf))))))))

theorem s12_ok {Ψ : AVal → Heap → Prop} {t : AVal} {id_ : Int} {h : Heap} (H : s12 Ψ t id_ h) : ACalls prog 12 [t, (.int .i64 id_)] h Ψ :=
  calls_of_evF func12 (by kernel_rfl) (by kernel_rfl) (by kernel_rfl)
    (Eq.mpr (by as_aux_lemma => kernel_rfl : oblF prog f12 (s12_A Ψ) Ψ = (True ∧ True ∧ (True ∧ (True ∧ True) ∧ True) ∧ (True ∧ (True ∧ True) ∧ True) ∧ True ∧ True ∧ (True ∧ (∀ (h : Heap) (x0 : AVal) (x1 : Int) (x2 x3 : AVal) (x4 x5 : Int), ON (s12l1 Ψ 0 x0 x1 x2 x3 x4 x5 h)) ∧ ∀ n1 : Nat, (∀ (h : Heap) (x0 : AVal) (x1 : Int) (x2 x3 : AVal) (x4 x5 : Int), OI (s12l1 Ψ (n1 + 1) x0 x1 x2 x3 x4 x5 h)) ∧ (True ∧ (True ∧ True) ∧ (True ∧ True ∧ True ∧ True ∧ True ∧ True ∧ True ∧ True ∧ True ∧ True ∧ True ∧ True) ∧ (∀ (h : Heap) (x0 : AVal) (x1 : Int) (x2 x3 : AVal) (x4 x5 : Int), OI (s12c2 Ψ (s12l1_G (s12l1 Ψ n1)) x0 x1 x2 x3 x4 x5 h)) ∧ (True))) ∧ True ∧ True)) ⟨trivial, ⟨trivial, ⟨⟨trivial, ⟨⟨trivial, trivial⟩, trivial⟩⟩, ⟨⟨trivial, ⟨⟨trivial, trivial⟩, trivial⟩⟩, ⟨trivial, ⟨trivial, ⟨⟨trivial, ⟨fun _ _ _ _ _ _ _ H => H, fun _ => ⟨fun _ _ _ _ _ _ _ H => H, ⟨trivial, ⟨⟨trivial, trivial⟩, ⟨⟨trivial, ⟨trivial, ⟨trivial, ⟨trivial, ⟨trivial, ⟨trivial, ⟨trivial, ⟨trivial, ⟨trivial, ⟨trivial, ⟨trivial, trivial⟩⟩⟩⟩⟩⟩⟩⟩⟩⟩⟩, fun _ _ _ _ _ _ _ H => H, trivial⟩⟩⟩⟩⟩⟩, ⟨trivial, trivial⟩⟩⟩⟩⟩⟩⟩⟩)
    (Eq.mpr (by as_aux_lemma => kernel_rfl : evF prog f12 (s12_A Ψ) Ψ [t, (.int .i64 id_)] h = s12 Ψ t id_ h) H)

/- 14 dictum/nishimura.Equal -/
def s14c1 (Ψ : AVal → Heap → Prop) (t1 : AVal) (a1 b1 x y : Int) (t43 : Bool) (h : Heap) : Prop :=
  ifT t43 (
    retG (.tuple [(.bool (x == y)), (.int .i64 0)]) h Ψ) (
    callG prog 39 [t1, (.int .i64 a1)] h fun v10 h_2 =>
    tTup v10 fun l_6 =>
    tCons l_6 fun v11 l_7 =>
    tCons l_7 fun v12 l_8 =>
    tInt .i64 v12 fun v13 =>
    tNil l_8 (
      callG prog 39 [t1, (.int .i64 b1)] h_2 fun v14 h_3 =>
      tTup v14 fun l_9 =>
      tCons l_9 fun v15 l_10 =>
      tCons l_10 fun v16 l_11 =>
      tInt .i64 v16 fun v17 =>
      tNil l_11 (
        callG prog 49 [v11, v15] h_3 fun v18 h_4 =>
        tBool v18 fun v19 =>
        retG (.tuple [(.bool v19), (.int .i64 0)]) h_4 Ψ)))

def s14 (Ψ : AVal → Heap → Prop) (t : AVal) (a : Int) (b : Int) (h : Heap) : Prop :=
  callG prog 12 [t, (.int .i64 a)] h fun v h_ =>
  tTup v fun l_ =>
  tCons l_ fun v1 l_1 =>
  tInt .i64 v1 fun v2 =>
  tCons l_1 fun v3 l_2 =>
  tInt .i64 v3 fun v4 =>
  tNil l_2 (
    ifT (v4 != 0) (
      retG (.tuple [(.bool false), (.int .i64 v4)]) h_ Ψ) (
      callG prog 12 [t, (.int .i64 b)] h_ fun v5 h_1 =>
      tTup v5 fun l_3 =>
      tCons l_3 fun v6 l_4 =>
      tInt .i64 v6 fun v7 =>
      tCons l_4 fun v8 l_5 =>
      tInt .i64 v8 fun v9 =>
      tNil l_5 (
        ifT (v9 != 0) (
          retG (.tuple [(.bool false), (.int .i64 v9)]) h_1 Ψ) (
          ifT (v2 != v7) (
            s14c1 Ψ t a b v2 v7 true h_1) (
            ifT (v2 == 0) (
              s14c1 Ψ t a b v2 v7 true h_1) (
              s14c1 Ψ t a b v2 v7 (v2 == (-1)) h_1))))))

def s14_A (Ψ : AVal → Heap → Prop) : Ann :=
  .seq (rA 2)
  (.seq (rA 8)
  (.seq (.seq (rA 2)
  (.cond (.seq (rA 3)
  (.leaf))
  (.leaf)))
  (.seq (rA 8)
  (.seq (.seq (rA 2)
  (.cond (.seq (rA 3)
  (.leaf))
  (.leaf)))
  (.seq (.cut [(0, .any), (1, .int .i64), (2, .int .i64), (8, .int .i64), (10, .int .i64), (43, .bool)] (fun l h => J.cons l fun x0 l => J.cons l fun v l => J.int .i64 v fun x1 => J.cons l fun v l => J.int .i64 v fun x2 => J.cons l fun v l => J.int .i64 v fun x3 => J.cons l fun v l => J.int .i64 v fun x4 => J.cons l fun v l => J.bool v fun x5 => J.nil l (s14c1 Ψ x0 x1 x2 x3 x4 x5 h)) (.reg [⟨none, [(0, false), (1, false), (2, false), (3, false)]⟩, ⟨some (36, false), [(4, false), (5, false)]⟩, ⟨none, [(6, false), (7, false)]⟩, ⟨some (40, false), [(8, false), (9, false)]⟩, ⟨none, [(10, false)]⟩])
  (.cond (.seq (rA 5)
  (.leaf))
  (.leaf)))
  (.seq (rA 8)
  (.seq (rA 8)
  (.seq (rA 5)
  (.leaf)))))))))

theorem s14_ok {Ψ : AVal → Heap → Prop} {t : AVal} {a : Int} {b : Int} {h : Heap} (H : s14 Ψ t a b h) : ACalls prog 14 [t, (.int .i64 a), (.int .i64 b)] h Ψ :=
  calls_of_evF func14 (by kernel_rfl) (by kernel_rfl) (by kernel_rfl)
    (Eq.mpr (by as_aux_lemma => kernel_rfl : oblF prog f14 (s14_A Ψ) Ψ = (True ∧ True ∧ (True ∧ (True ∧ True) ∧ True) ∧ True ∧ (True ∧ (True ∧ True) ∧ True) ∧ ((True) ∧ (∀ (h : Heap) (x0 : AVal) (x1 x2 x3 x4 : Int) (x5 : Bool), OI (s14c1 Ψ x0 x1 x2 x3 x4 x5 h)) ∧ ((True ∧ True) ∧ True)) ∧ True ∧ True ∧ True ∧ True)) ⟨trivial, ⟨trivial, ⟨⟨trivial, ⟨⟨trivial, trivial⟩, trivial⟩⟩, ⟨trivial, ⟨⟨trivial, ⟨⟨trivial, trivial⟩, trivial⟩⟩, ⟨⟨trivial, fun _ _ _ _ _ _ _ H => H, ⟨⟨trivial, trivial⟩, trivial⟩⟩, ⟨trivial, ⟨trivial, ⟨trivial, trivial⟩⟩⟩⟩⟩⟩⟩⟩⟩)
    (Eq.mpr (by as_aux_lemma => kernel_rfl : evF prog f14 (s14_A Ψ) Ψ [t, (.int .i64 a), (.int .i64 b)] h = s14 Ψ t a b h) H)

/- 17 (*dictum/dictumref03.T).Below -/
abbrev s17l1_T := AVal → Int → AVal → AVal → Int → Heap → Prop
def s17l1_R (F : s17l1_T) (l : List AVal) (h : Heap) : Prop := J.cons l fun x0 l => J.cons l fun v l => J.int .i64 v fun x1 => J.cons l fun x2 l => J.cons l fun x3 l => J.cons l fun v l => J.int .i64 v fun x4 => J.nil l (F x0 x1 x2 x3 x4 h)
def s17l1_G (F : s17l1_T) (x0 : AVal) (x1 : Int) (x2 x3 : AVal) (x4 : Int) (h : Heap) : Prop := gJ [.any, .int .i64, .any, .any, .int .i64] [x0, (.int .i64 x1), x2, x3, (.int .i64 x4)] h (s17l1_R F)
def s17l1_E (F : Nat → s17l1_T) (x0 : AVal) (x1 : Int) (x2 x3 : AVal) (x4 : Int) (h : Heap) : Prop := gJ [.any, .int .i64, .any, .any, .int .i64] [x0, (.int .i64 x1), x2, x3, (.int .i64 x4)] h (fun l h => ∃ n, s17l1_R (F n) l h)
theorem s17l1_go {F : s17l1_T} {x0 : AVal} {x1 : Int} {x2 x3 : AVal} {x4 : Int} {h : Heap} (H : F x0 x1 x2 x3 x4 h) : s17l1_G F x0 x1 x2 x3 x4 h := gJ_plain rfl H
theorem s17l1_in {F : Nat → s17l1_T} {x0 : AVal} {x1 : Int} {x2 x3 : AVal} {x4 : Int} {h : Heap} (n : Nat) (H : F n x0 x1 x2 x3 x4 h) : s17l1_E F x0 x1 x2 x3 x4 h := gJ_plain rfl ⟨n, H⟩

def s17c2 (Ψ : AVal → Heap → Prop) (L1 : s17l1_T) (t2 : AVal) (id_2 : Int) (in_1 out1 : AVal) (i1 : Int) (h : Heap) : Prop :=
  rg (i1 - 1) (
    L1 t2 id_2 in_1 out1 (i1 - 1) h)

def s17c3 (Ψ : AVal → Heap → Prop) (L1 : s17l1_T) (t3 : AVal) (id_3 : Int) (in_2 out2 : AVal) (i2 : Int) (t52 : Bool) (h : Heap) : Prop :=
  ifT t52 (
    nilCheckA t3 fun p4 =>
    addOff p4 0 fun p5 =>
    ld1 h p5 fun v6 =>
    ixS 4 v6 i2 fun p6 =>
    addOff p6 2 fun p7 =>
    ld1 h p7 fun v7 =>
    tInt .i64 v7 fun v8 =>
    ixS 1 in_2 v8 fun p8 =>
    st true h p8 [(.bool true)] fun h_3 =>
    nilCheckA t3 fun p9 =>
    addOff p9 0 fun p10 =>
    ld1 h_3 p10 fun v9 =>
    ixS 4 v9 i2 fun p11 =>
    addOff p11 3 fun p12 =>
    ld1 h_3 p12 fun v10 =>
    tInt .i64 v10 fun v11 =>
    ixS 1 in_2 v11 fun p13 =>
    st true h_3 p13 [(.bool true)] fun h_4 =>
    s17c2 Ψ L1 t3 id_3 in_2 out2 i2 h_4) (
    s17c2 Ψ L1 t3 id_3 in_2 out2 i2 h)

abbrev s17l4_T := Int → AVal → AVal → Int → Heap → Prop
def s17l4_R (F : s17l4_T) (l : List AVal) (h : Heap) : Prop := J.cons l fun v l => J.int .i64 v fun x0 => J.cons l fun x1 l => J.cons l fun x2 l => J.cons l fun v l => J.int .i64 v fun x3 => J.nil l (F x0 x1 x2 x3 h)
def s17l4_G (F : s17l4_T) (x0 : Int) (x1 x2 : AVal) (x3 : Int) (h : Heap) : Prop := gJ [.int .i64, .any, .any, .int .i64] [(.int .i64 x0), x1, x2, (.int .i64 x3)] h (s17l4_R F)
def s17l4_E (F : Nat → s17l4_T) (x0 : Int) (x1 x2 : AVal) (x3 : Int) (h : Heap) : Prop := gJ [.int .i64, .any, .any, .int .i64] [(.int .i64 x0), x1, x2, (.int .i64 x3)] h (fun l h => ∃ n, s17l4_R (F n) l h)
theorem s17l4_go {F : s17l4_T} {x0 : Int} {x1 x2 : AVal} {x3 : Int} {h : Heap} (H : F x0 x1 x2 x3 h) : s17l4_G F x0 x1 x2 x3 h := gJ_plain rfl H
theorem s17l4_in {F : Nat → s17l4_T} {x0 : Int} {x1 x2 : AVal} {x3 : Int} {h : Heap} (n : Nat) (H : F n x0 x1 x2 x3 h) : s17l4_E F x0 x1 x2 x3 h := gJ_plain rfl ⟨n, H⟩

def s17c5 (Ψ : AVal → Heap → Prop) (L4 : s17l4_T) (id_5 : Int) (in_4 out4 : AVal) (i4 : Int) (h : Heap) : Prop :=
  rg (i4 + 1) (
    L4 id_5 in_4 out4 (i4 + 1) h)

def s17l4 (Ψ : AVal → Heap → Prop) : Nat → s17l4_T
  | 0, _, _, _, _, _ => False
  | n2 + 1, id_4, in_3, out3, i3, h =>
    ifT (decide (i3 ≤ id_4)) (
      ixS 1 in_3 i3 fun p22 =>
      ld1 h p22 fun v18 =>
      tBool v18 fun v19 =>
      ifT v19 (
        appC 1 8 h out3 (.lsl 1 [(.int .i64 i3)]) fun v20 h_5 =>
        s17c5 Ψ (s17l4_G (s17l4 Ψ n2)) id_4 in_3 v20 i3 h_5) (
        s17c5 Ψ (s17l4_G (s17l4 Ψ n2)) id_4 in_3 out3 i3 h)) (
      retG (.tuple [out3, (.int .i64 0)]) h Ψ)

def s17l1 (Ψ : AVal → Heap → Prop) : Nat → s17l1_T
  | 0, _, _, _, _, _, _ => False
  | n1 + 1, t1, id_1, in_, out, i, h =>
    ifT (decide (0 ≤ i)) (
      ixS 1 in_ i fun p3 =>
      ld1 h p3 fun v4 =>
      tBool v4 fun v5 =>
      ifT (!v5) (
        s17c2 Ψ (s17l1_G (s17l1 Ψ n1)) t1 id_1 in_ out i h) (
        nilCheckA t1 fun p14 =>
        addOff p14 0 fun p15 =>
        ld1 h p15 fun v12 =>
        ixS 4 v12 i fun p16 =>
        addOff p16 0 fun p17 =>
        ld1 h p17 fun v13 =>
        tInt .i64 v13 fun v14 =>
        ifT (v14 != 1) (
          nilCheckA t1 fun p18 =>
          addOff p18 0 fun p19 =>
          ld1 h p19 fun v15 =>
          ixS 4 v15 i fun p20 =>
          addOff p20 0 fun p21 =>
          ld1 h p21 fun v16 =>
          tInt .i64 v16 fun v17 =>
          s17c3 Ψ (s17l1_G (s17l1 Ψ n1)) t1 id_1 in_ out i (v17 != 2) h) (
          s17c3 Ψ (s17l1_G (s17l1 Ψ n1)) t1 id_1 in_ out i false h))) (
      s17l4_E (s17l4 Ψ) id_1 in_ out 0 h)

def s17 (Ψ : AVal → Heap → Prop) (t : AVal) (id_ : Int) (h : Heap) : Prop :=
  callG prog 50 [t, (.int .i64 id_)] h fun v h_ =>
  tBool v fun v1 =>
  ifT (!v1) (
    retG (.tuple [.nilsl, (.int .i64 31)]) h_ Ψ) (
    nilCheckA t fun p =>
    addOff p 0 fun p1 =>
    ld1 h_ p1 fun v2 =>
    lenN v2 fun n =>
    mkS false 1 1 (.bool false) h_ n n fun v3 h_1 =>
    ixS 1 v3 id_ fun p2 =>
    st true h_1 p2 [(.bool true)] fun h_2 =>
    s17l1_E (s17l1 Ψ) t id_ v3 .nilsl id_ h_2)

def s17_A (Ψ : AVal → Heap → Prop) : Ann :=
  .seq (rA 2)
  (.seq (.seq (rA 4)
  (.cond (.seq (rA 2)
  (.leaf))
  (.leaf)))
  (.seq (rA 7)
  (.seq (rA 4)
  (.seq (rA 1)
  (.seq (.seq (rA 2)
  (.block (.loop [(0, .any), (1, .int .i64), (6, .any), (7, .any), (8, .int .i64)] (fun n l h => s17l1_R (s17l1 Ψ n) l h) (fun L1 =>
  .seq (.seq (rA 2)
  (.cond (.leaf)
  (.leaf)))
  (.cut [(0, .any), (1, .int .i64), (6, .any), (7, .any), (8, .int .i64)] (fun l h => J.cons l fun x0 l => J.cons l fun v l => J.int .i64 v fun x1 => J.cons l fun x2 l => J.cons l fun x3 l => J.cons l fun v l => J.int .i64 v fun x4 => J.nil l (s17c2 Ψ (fun y0 y1 y2 y3 y4 h => L1 [y0, (.int .i64 y1), y2, y3, (.int .i64 y4)] h) x0 x1 x2 x3 x4 h)) (.block (.seq (.seq (rA 5)
  (.cond (.leaf)
  (.leaf)))
  (.cut [(0, .any), (1, .int .i64), (6, .any), (7, .any), (8, .int .i64), (52, .bool)] (fun l h => J.cons l fun x0 l => J.cons l fun v l => J.int .i64 v fun x1 => J.cons l fun x2 l => J.cons l fun x3 l => J.cons l fun v l => J.int .i64 v fun x4 => J.cons l fun v l => J.bool v fun x5 => J.nil l (s17c3 Ψ (fun y0 y1 y2 y3 y4 h => L1 [y0, (.int .i64 y1), y2, y3, (.int .i64 y4)] h) x0 x1 x2 x3 x4 x5 h)) (.reg [⟨none, [(0, false), (1, false), (2, false), (3, false), (4, false), (5, false), (6, false), (7, false), (8, false), (9, false)]⟩, ⟨some (42, true), [(10, false), (11, false), (12, false), (13, false), (14, false), (15, false), (16, false), (17, false), (18, false)]⟩, ⟨none, [(19, false)]⟩])
  (.cond (.seq (rA 11)
  (rA 11))
  (.leaf)))))
  (rA 3))))))
  (.seq (.seq (rA 1)
  (.block (.loop [(1, .int .i64), (6, .any), (7, .any), (9, .int .i64)] (fun n l h => s17l4_R (s17l4 Ψ n) l h) (fun L4 =>
  .seq (.seq (rA 3)
  (.cond (.leaf)
  (.leaf)))
  (.cut [(1, .int .i64), (6, .any), (7, .any), (9, .int .i64)] (fun l h => J.cons l fun v l => J.int .i64 v fun x0 => J.cons l fun x1 l => J.cons l fun x2 l => J.cons l fun v l => J.int .i64 v fun x3 => J.nil l (s17c5 Ψ (fun y0 y1 y2 y3 h => L4 [(.int .i64 y0), y1, y2, (.int .i64 y3)] h) x0 x1 x2 x3 h)) (.block (.seq (rA 4)
  (.cond (.reg [⟨none, [(0, false), (1, false), (2, true), (3, false), (4, false)]⟩])
  (.leaf))))
  (rA 3))))))
  (.seq (rA 3)
  (.leaf))))))))

theorem s17_ok {Ψ : AVal → Heap → Prop} {t : AVal} {id_ : Int} {h : Heap} (H : s17 Ψ t id_ h) : ACalls prog 17 [t, (.int .i64 id_)] h Ψ :=
  calls_of_evF func17 (by kernel_rfl) (by kernel_rfl) (by kernel_rfl)
    (Eq.mpr (by as_aux_lemma => kernel_rfl : oblF prog f17 (s17_A Ψ) Ψ = (True ∧ (True ∧ (True ∧ True) ∧ True) ∧ True ∧ True ∧ True ∧ (True ∧ (∀ (h : Heap) (x0 : AVal) (x1 : Int) (x2 x3 : AVal) (x4 : Int), ON (s17l1 Ψ 0 x0 x1 x2 x3 x4 h)) ∧ ∀ n1 : Nat, (∀ (h : Heap) (x0 : AVal) (x1 : Int) (x2 x3 : AVal) (x4 : Int), OI (s17l1 Ψ (n1 + 1) x0 x1 x2 x3 x4 h)) ∧ ((True ∧ True ∧ True) ∧ ((True ∧ True ∧ True) ∧ (True) ∧ (∀ (h : Heap) (x0 : AVal) (x1 : Int) (x2 x3 : AVal) (x4 : Int) (x5 : Bool), OI (s17c3 Ψ (s17l1_G (s17l1 Ψ n1)) x0 x1 x2 x3 x4 x5 h)) ∧ ((True ∧ True) ∧ True)) ∧ (∀ (h : Heap) (x0 : AVal) (x1 : Int) (x2 x3 : AVal) (x4 : Int), OI (s17c2 Ψ (s17l1_G (s17l1 Ψ n1)) x0 x1 x2 x3 x4 h)) ∧ (True))) ∧ (True ∧ (∀ (h : Heap) (x0 : Int) (x1 x2 : AVal) (x3 : Int), ON (s17l4 Ψ 0 x0 x1 x2 x3 h)) ∧ ∀ n4 : Nat, (∀ (h : Heap) (x0 : Int) (x1 x2 : AVal) (x3 : Int), OI (s17l4 Ψ (n4 + 1) x0 x1 x2 x3 h)) ∧ ((True ∧ True ∧ True) ∧ (True ∧ True ∧ True) ∧ (∀ (h : Heap) (x0 : Int) (x1 x2 : AVal) (x3 : Int), OI (s17c5 Ψ (s17l4_G (s17l4 Ψ n4)) x0 x1 x2 x3 h)) ∧ (True))) ∧ True ∧ True)) ⟨trivial, ⟨⟨trivial, ⟨⟨trivial, trivial⟩, trivial⟩⟩, ⟨trivial, ⟨trivial, ⟨trivial, ⟨⟨trivial, ⟨fun _ _ _ _ _ _ H => H, fun _ => ⟨fun _ _ _ _ _ _ H => H, ⟨⟨trivial, ⟨trivial, trivial⟩⟩, ⟨⟨⟨trivial, ⟨trivial, trivial⟩⟩, ⟨trivial, fun _ _ _ _ _ _ _ H => H, ⟨⟨trivial, trivial⟩, trivial⟩⟩⟩, fun _ _ _ _ _ _ H => H, trivial⟩⟩⟩⟩⟩, ⟨⟨trivial, ⟨fun _ _ _ _ _ H => H, fun _ => ⟨fun _ _ _ _ _ H => H, ⟨⟨trivial, ⟨trivial, trivial⟩⟩, ⟨⟨trivial, ⟨trivial, trivial⟩⟩, fun _ _ _ _ _ H => H, trivial⟩⟩⟩⟩⟩, ⟨trivial, trivial⟩⟩⟩⟩⟩⟩⟩⟩)
    (Eq.mpr (by as_aux_lemma => kernel_rfl : evF prog f17 (s17_A Ψ) Ψ [t, (.int .i64 id_)] h = s17 Ψ t id_ h) H)

/- 21 dictum/dictumlaw03.Both -/
def s21 (Ψ : AVal → Heap → Prop) (rows : AVal) (h : Heap) : Prop :=
  Sym.newRow 4 [] h fun r h_ =>
  appC 4 40 h_ (.sl r 4 0 0) rows (litG true fun v h_1 =>
  callG prog 54 [rows] h_1 fun v1 h_2 =>
  tTup v1 fun l_ =>
  tCons l_ fun v2 l_1 =>
  tCons l_1 fun v3 l_2 =>
  tInt .i64 v3 fun v4 =>
  tNil l_2 (
    ifT (v4 != 0) (
      retG (.tuple [.nilptr, .nilptr, (.bool false)]) h_2 Ψ) (
      callG prog 55 [v] h_2 fun v5 h_3 =>
      tTup v5 fun l_3 =>
      tCons l_3 fun v6 l_4 =>
      tCons l_4 fun v7 l_5 =>
      tInt .i64 v7 fun v8 =>
      tNil l_5 (
        retG (.tuple [v6, v2, (.bool true)]) h_3 Ψ))))

def s21_A (Ψ : AVal → Heap → Prop) : Ann :=
  .seq (rA 3)
  (.seq (.reg [⟨none, [(0, false), (1, false), (2, true), (3, false)]⟩])
  (.seq (rA 7)
  (.seq (.seq (rA 2)
  (.cond (.seq (rA 3)
  (.leaf))
  (.leaf)))
  (.seq (rA 7)
  (.seq (rA 5)
  (.leaf))))))

theorem s21_ok {Ψ : AVal → Heap → Prop} {rows : AVal} {h : Heap} (H : s21 Ψ rows h) : ACalls prog 21 [rows] h Ψ :=
  calls_of_evF func21 (by kernel_rfl) (by kernel_rfl) (by kernel_rfl)
    (Eq.mpr (by as_aux_lemma => kernel_rfl : oblF prog f21 (s21_A Ψ) Ψ = (True ∧ True ∧ True ∧ (True ∧ (True ∧ True) ∧ True) ∧ True ∧ True ∧ True)) ⟨trivial, ⟨trivial, ⟨trivial, ⟨⟨trivial, ⟨⟨trivial, trivial⟩, trivial⟩⟩, ⟨trivial, ⟨trivial, trivial⟩⟩⟩⟩⟩⟩)
    (Eq.mpr (by as_aux_lemma => kernel_rfl : evF prog f21 (s21_A Ψ) Ψ [rows] h = s21 Ψ rows h) H)

/- 23 (*dictum/formula.Table).Copy -/
abbrev s23l1_T := AVal → AVal → Int → Int → Heap → Prop
def s23l1_R (F : s23l1_T) (l : List AVal) (h : Heap) : Prop := J.cons l fun x0 l => J.cons l fun x1 l => J.cons l fun v l => J.int .i64 v fun x2 => J.cons l fun v l => J.int .i64 v fun x3 => J.nil l (F x0 x1 x2 x3 h)
def s23l1_G (F : s23l1_T) (x0 x1 : AVal) (x2 x3 : Int) (h : Heap) : Prop := gJ [.any, .any, .int .i64, .int .i64] [x0, x1, (.int .i64 x2), (.int .i64 x3)] h (s23l1_R F)
def s23l1_E (F : Nat → s23l1_T) (x0 x1 : AVal) (x2 x3 : Int) (h : Heap) : Prop := gJ [.any, .any, .int .i64, .int .i64] [x0, x1, (.int .i64 x2), (.int .i64 x3)] h (fun l h => ∃ n, s23l1_R (F n) l h)
theorem s23l1_go {F : s23l1_T} {x0 x1 : AVal} {x2 x3 : Int} {h : Heap} (H : F x0 x1 x2 x3 h) : s23l1_G F x0 x1 x2 x3 h := gJ_plain rfl H
theorem s23l1_in {F : Nat → s23l1_T} {x0 x1 : AVal} {x2 x3 : Int} {h : Heap} (n : Nat) (H : F n x0 x1 x2 x3 h) : s23l1_E F x0 x1 x2 x3 h := gJ_plain rfl ⟨n, H⟩

def s23l1 (Ψ : AVal → Heap → Prop) : Nat → s23l1_T
  | 0, _, _, _, _, _ => False
  | n1 + 1, c, t13, t14, t15, h =>
    ifT (decide (t15 < t14)) (
      ixS 4 t13 t15 fun p2 =>
      ldN 4 h p2 fun l_ =>
      tCons l_ fun v4 l_1 =>
      tInt .i64 v4 fun v5 =>
      tCons l_1 fun v6 l_2 =>
      tStr v6 fun v7 =>
      tCons l_2 fun v8 l_3 =>
      tInt .i64 v8 fun v9 =>
      tCons l_3 fun v10 l_4 =>
      tInt .i64 v10 fun v11 =>
      tNil l_4 (
        Sym.newRow 4 [(.agg [(.int .i64 0), (.str (ByteArray.mk #[])), (.int .i64 0), (.int .i64 0)])] h fun r h_2 =>
        st false h_2 (.ptr r 0 0) [(.int .i64 v5), (.str v7), (.int .i64 v9), (.int .i64 v11)] fun h_3 =>
        nilCheckA c fun p3 =>
        addOff p3 0 fun p4 =>
        ld1 h_3 p4 fun v12 =>
        ldN 4 h_3 (.ptr r 0 0) fun l_5 =>
        tCons l_5 fun v13 l_6 =>
        tInt .i64 v13 fun v14 =>
        tCons l_6 fun v15 l_7 =>
        tStr v15 fun v16 =>
        tCons l_7 fun v17 l_8 =>
        tInt .i64 v17 fun v18 =>
        tCons l_8 fun v19 l_9 =>
        tInt .i64 v19 fun v20 =>
        tNil l_9 (
          (ld1 h_3 p4 fun v21 =>
          v21 = v12) ∧
          appC 4 40 h_3 v12 (.lsl 4 [(.agg [(.int .i64 v14), (.str v16), (.int .i64 v18), (.int .i64 v20)])]) fun v22 h_4 =>
          nilCheckA c fun p5 =>
          addOff p5 0 fun p6 =>
          chk (sc v22) (
            st true h_4 p6 [v22] fun h_5 =>
            nilCheckA c fun p7 =>
            addOff p7 1 fun p8 =>
            ld1 h_5 p8 fun v23 =>
            ldN 4 h_5 (.ptr r 0 0) fun l_10 =>
            tCons l_10 fun v24 l_11 =>
            tInt .i64 v24 fun v25 =>
            tCons l_11 fun v26 l_12 =>
            tStr v26 fun v27 =>
            tCons l_12 fun v28 l_13 =>
            tInt .i64 v28 fun v29 =>
            tCons l_13 fun v30 l_14 =>
            tInt .i64 v30 fun v31 =>
            tNil l_14 (
              mapPut h_5 v23 (.agg [(.int .i64 v25), (.str v27), (.int .i64 v29), (.int .i64 v31)]) (.int .i64 t15) fun h_6 =>
              rg (t15 + 1) (
                s23l1_G (s23l1 Ψ n1) c t13 t14 (t15 + 1) h_6)))))) (
      retG c h Ψ)

def s23 (Ψ : AVal → Heap → Prop) (t : AVal) (h : Heap) : Prop :=
  callG prog 56 [t] h fun v h_ =>
  tBool v fun v1 =>
  ifT (!v1) (
    retG .nilptr h_ Ψ) (
    callG prog 22 [] h_ fun v2 h_1 =>
    nilCheckA t fun p =>
    addOff p 0 fun p1 =>
    ld1 h_1 p1 fun v3 =>
    lenN v3 fun n =>
    s23l1_E (s23l1 Ψ) v2 v3 n 0 h_1)

def s23_A (Ψ : AVal → Heap → Prop) : Ann :=
  .seq (rA 1)
  (.seq (.seq (rA 3)
  (.cond (.seq (rA 1)
  (.leaf))
  (.leaf)))
  (.seq (rA 2)
  (.seq (.seq (rA 6)
  (.block (.loop [(3, .any), (13, .any), (14, .int .i64), (15, .int .i64)] (fun n l h => s23l1_R (s23l1 Ψ n) l h) (fun L1 =>
  .seq (rA 1)
  (.seq (.cond (.leaf)
  (.leaf))
  (.seq (.block (.seq (rA 6)
  (.seq (.draw [(0, false), (1, false), (2, false), (3, false), (4, false), (5, false), (6, true), (7, false), (8, false), (9, false), (10, false)] [0, 0, 2, 6, 14, 0, 32, 126, 255, 511, 1023])
  (.draw [(0, false), (1, false), (2, false), (3, false), (4, false), (5, false), (6, false)] [0, 1, 3, 7, 0, 0, 63]))))
  (rA 2)))))))
  (.seq (rA 2)
  (.leaf)))))

theorem s23_ok {Ψ : AVal → Heap → Prop} {t : AVal} {h : Heap} (H : s23 Ψ t h) : ACalls prog 23 [t] h Ψ :=
  calls_of_evF func23 (by kernel_rfl) (by kernel_rfl) (by kernel_rfl)
    (Eq.mpr (by as_aux_lemma => kernel_rfl : oblF prog f23 (s23_A Ψ) Ψ = (True ∧ (True ∧ (True ∧ True) ∧ True) ∧ True ∧ (True ∧ (∀ (h : Heap) (x0 x1 : AVal) (x2 x3 : Int), ON (s23l1 Ψ 0 x0 x1 x2 x3 h)) ∧ ∀ n1 : Nat, (∀ (h : Heap) (x0 x1 : AVal) (x2 x3 : Int), OI (s23l1 Ψ (n1 + 1) x0 x1 x2 x3 h)) ∧ (True ∧ (True ∧ True) ∧ (True ∧ True ∧ True) ∧ True)) ∧ True ∧ True)) ⟨trivial, ⟨⟨trivial, ⟨⟨trivial, trivial⟩, trivial⟩⟩, ⟨trivial, ⟨⟨trivial, ⟨fun _ _ _ _ _ H => H, fun _ => ⟨fun _ _ _ _ _ H => H, ⟨trivial, ⟨⟨trivial, trivial⟩, ⟨⟨trivial, ⟨trivial, trivial⟩⟩, trivial⟩⟩⟩⟩⟩⟩, ⟨trivial, trivial⟩⟩⟩⟩⟩)
    (Eq.mpr (by as_aux_lemma => kernel_rfl : evF prog f23 (s23_A Ψ) Ψ [t] h = s23 Ψ t h) H)

/- 25 (*dictum/formula.Table).Len -/
def s25 (Ψ : AVal → Heap → Prop) (t : AVal) (h : Heap) : Prop :=
  callG prog 56 [t] h fun v h_ =>
  tBool v fun v1 =>
  ifT (!v1) (
    retG (.int .i64 0) h_ Ψ) (
    nilCheckA t fun p =>
    addOff p 0 fun p1 =>
    ld1 h_ p1 fun v2 =>
    lenN v2 fun n =>
    retG (.int .i64 n) h_ Ψ)

def s25_A (Ψ : AVal → Heap → Prop) : Ann :=
  .seq (rA 1)
  (.seq (.seq (rA 3)
  (.cond (.seq (rA 1)
  (.leaf))
  (.leaf)))
  (.seq (rA 6)
  (.leaf)))

theorem s25_ok {Ψ : AVal → Heap → Prop} {t : AVal} {h : Heap} (H : s25 Ψ t h) : ACalls prog 25 [t] h Ψ :=
  calls_of_evF func25 (by kernel_rfl) (by kernel_rfl) (by kernel_rfl)
    (Eq.mpr (by as_aux_lemma => kernel_rfl : oblF prog f25 (s25_A Ψ) Ψ = (True ∧ (True ∧ (True ∧ True) ∧ True) ∧ True ∧ True)) ⟨trivial, ⟨⟨trivial, ⟨⟨trivial, trivial⟩, trivial⟩⟩, ⟨trivial, trivial⟩⟩⟩)
    (Eq.mpr (by as_aux_lemma => kernel_rfl : evF prog f25 (s25_A Ψ) Ψ [t] h = s25 Ψ t h) H)

/- 27 (*dictum/formula.Table).Cut -/
abbrev s27l2_T := AVal → Int → AVal → Int → Int → Heap → Prop
def s27l2_R (F : s27l2_T) (l : List AVal) (h : Heap) : Prop := J.cons l fun x0 l => J.cons l fun v l => J.int .i64 v fun x1 => J.cons l fun x2 l => J.cons l fun v l => J.int .i64 v fun x3 => J.cons l fun v l => J.int .i64 v fun x4 => J.nil l (F x0 x1 x2 x3 x4 h)
def s27l2_G (F : s27l2_T) (x0 : AVal) (x1 : Int) (x2 : AVal) (x3 x4 : Int) (h : Heap) : Prop := gJ [.any, .int .i64, .any, .int .i64, .int .i64] [x0, (.int .i64 x1), x2, (.int .i64 x3), (.int .i64 x4)] h (s27l2_R F)
def s27l2_E (F : Nat → s27l2_T) (x0 : AVal) (x1 : Int) (x2 : AVal) (x3 x4 : Int) (h : Heap) : Prop := gJ [.any, .int .i64, .any, .int .i64, .int .i64] [x0, (.int .i64 x1), x2, (.int .i64 x3), (.int .i64 x4)] h (fun l h => ∃ n, s27l2_R (F n) l h)
theorem s27l2_go {F : s27l2_T} {x0 : AVal} {x1 : Int} {x2 : AVal} {x3 x4 : Int} {h : Heap} (H : F x0 x1 x2 x3 x4 h) : s27l2_G F x0 x1 x2 x3 x4 h := gJ_plain rfl H
theorem s27l2_in {F : Nat → s27l2_T} {x0 : AVal} {x1 : Int} {x2 : AVal} {x3 x4 : Int} {h : Heap} (n : Nat) (H : F n x0 x1 x2 x3 x4 h) : s27l2_E F x0 x1 x2 x3 x4 h := gJ_plain rfl ⟨n, H⟩

def s27l2 (Ψ : AVal → Heap → Prop) : Nat → s27l2_T
  | 0, _, _, _, _, _, _ => False
  | n4 + 1, t2, n3, t28, t29, t30, h =>
    ifT (decide (t30 < t29)) (
      ixS 4 t28 t30 fun p2 =>
      ldN 4 h p2 fun l_ =>
      tCons l_ fun v4 l_1 =>
      tInt .i64 v4 fun v5 =>
      tCons l_1 fun v6 l_2 =>
      tStr v6 fun v7 =>
      tCons l_2 fun v8 l_3 =>
      tInt .i64 v8 fun v9 =>
      tCons l_3 fun v10 l_4 =>
      tInt .i64 v10 fun v11 =>
      tNil l_4 (
        Sym.newRow 4 [(.agg [(.int .i64 0), (.str (ByteArray.mk #[])), (.int .i64 0), (.int .i64 0)])] h fun r h_1 =>
        st false h_1 (.ptr r 0 0) [(.int .i64 v5), (.str v7), (.int .i64 v9), (.int .i64 v11)] fun h_2 =>
        nilCheckA t2 fun p3 =>
        addOff p3 1 fun p4 =>
        ld1 h_2 p4 fun v12 =>
        ldN 4 h_2 (.ptr r 0 0) fun l_5 =>
        tCons l_5 fun v13 l_6 =>
        tInt .i64 v13 fun v14 =>
        tCons l_6 fun v15 l_7 =>
        tStr v15 fun v16 =>
        tCons l_7 fun v17 l_8 =>
        tInt .i64 v17 fun v18 =>
        tCons l_8 fun v19 l_9 =>
        tInt .i64 v19 fun v20 =>
        tNil l_9 (
          mapDel h_2 v12 (.agg [(.int .i64 v14), (.str v16), (.int .i64 v18), (.int .i64 v20)]) fun h_3 =>
          rg (t30 + 1) (
            s27l2_G (s27l2 Ψ n4) t2 n3 t28 t29 (t30 + 1) h_3)))) (
      nilCheckA t2 fun p5 =>
      addOff p5 0 fun p6 =>
      ld1 h p6 fun v21 =>
      slX 4 v21 0 (some n3) fun v22 =>
      nilCheckA t2 fun p7 =>
      addOff p7 0 fun p8 =>
      chk (sc v22) (
        st true h p8 [v22] fun h_4 =>
        retG (.int .i64 0) h_4 Ψ))

def s27c1 (Ψ : AVal → Heap → Prop) (t1 : AVal) (n1 : Int) (t11 : Bool) (h : Heap) : Prop :=
  ifT t11 (
    retG (.int .i64 2) h Ψ) (
    nilCheckA t1 fun p =>
    addOff p 0 fun p1 =>
    ld1 h p1 fun v2 =>
    slX 4 v2 n1 none fun v3 =>
    lenN v3 fun n2 =>
    s27l2_E (s27l2 Ψ) t1 n1 v3 n2 0 h)

def s27 (Ψ : AVal → Heap → Prop) (t : AVal) (n : Int) (h : Heap) : Prop :=
  callG prog 56 [t] h fun v h_ =>
  tBool v fun v1 =>
  ifT (!v1) (
    retG (.int .i64 1) h_ Ψ) (
    ifT (decide (n < 0)) (
      s27c1 Ψ t n true h_) (
      nilCheckA t fun p9 =>
      addOff p9 0 fun p10 =>
      ld1 h_ p10 fun v23 =>
      lenN v23 fun n6 =>
      s27c1 Ψ t n (decide (n6 < n)) h_))

def s27_A (Ψ : AVal → Heap → Prop) : Ann :=
  .seq (rA 1)
  (.seq (.block (.seq (rA 4)
  (.cond (.seq (rA 1)
  (.leaf))
  (.cut [(0, .any), (1, .int .i64), (11, .bool)] (fun l h => J.cons l fun x0 l => J.cons l fun v l => J.int .i64 v fun x1 => J.cons l fun v l => J.bool v fun x2 => J.nil l (s27c1 Ψ x0 x1 x2 h)) (.reg [⟨none, [(0, false), (1, false), (2, false)]⟩, ⟨some (14, false), [(3, false), (4, false), (5, false), (6, false), (7, false), (8, false), (9, false)]⟩, ⟨none, [(10, false), (11, false)]⟩])
  (.cond (.seq (rA 1)
  (.leaf))
  (.leaf))))))
  (.seq (.seq (rA 8)
  (.block (.loop [(0, .any), (1, .int .i64), (28, .any), (29, .int .i64), (30, .int .i64)] (fun n l h => s27l2_R (s27l2 Ψ n) l h) (fun L2 =>
  .seq (rA 1)
  (.seq (.cond (.leaf)
  (.leaf))
  (.seq (.block (.seq (rA 4)
  (.draw [(0, false), (1, false), (2, false), (3, false), (4, false), (5, false)] [0, 1, 3, 7, 0, 31])))
  (rA 2)))))))
  (.seq (rA 10)
  (.seq (rA 1)
  (.leaf)))))

theorem s27_ok {Ψ : AVal → Heap → Prop} {t : AVal} {n : Int} {h : Heap} (H : s27 Ψ t n h) : ACalls prog 27 [t, (.int .i64 n)] h Ψ :=
  calls_of_evF func27 (by kernel_rfl) (by kernel_rfl) (by kernel_rfl)
    (Eq.mpr (by as_aux_lemma => kernel_rfl : oblF prog f27 (s27_A Ψ) Ψ = (True ∧ (True ∧ (True ∧ True) ∧ (True) ∧ (∀ (h : Heap) (x0 : AVal) (x1 : Int) (x2 : Bool), OI (s27c1 Ψ x0 x1 x2 h)) ∧ ((True ∧ True) ∧ True)) ∧ (True ∧ (∀ (h : Heap) (x0 : AVal) (x1 : Int) (x2 : AVal) (x3 x4 : Int), ON (s27l2 Ψ 0 x0 x1 x2 x3 x4 h)) ∧ ∀ n2 : Nat, (∀ (h : Heap) (x0 : AVal) (x1 : Int) (x2 : AVal) (x3 x4 : Int), OI (s27l2 Ψ (n2 + 1) x0 x1 x2 x3 x4 h)) ∧ (True ∧ (True ∧ True) ∧ (True ∧ True) ∧ True)) ∧ True ∧ True ∧ True)) ⟨trivial, ⟨⟨trivial, ⟨⟨trivial, trivial⟩, ⟨trivial, fun _ _ _ _ H => H, ⟨⟨trivial, trivial⟩, trivial⟩⟩⟩⟩, ⟨⟨trivial, ⟨fun _ _ _ _ _ _ H => H, fun _ => ⟨fun _ _ _ _ _ _ H => H, ⟨trivial, ⟨⟨trivial, trivial⟩, ⟨⟨trivial, trivial⟩, trivial⟩⟩⟩⟩⟩⟩, ⟨trivial, ⟨trivial, trivial⟩⟩⟩⟩⟩)
    (Eq.mpr (by as_aux_lemma => kernel_rfl : evF prog f27 (s27_A Ψ) Ψ [t, (.int .i64 n)] h = s27 Ψ t n h) H)

/- 29 dictum/dictumref26.is -/
def s29 (Ψ : AVal → Heap → Prop) (k : Int) (h : Heap) : Prop :=
  ifT (decide ((-1) ≤ k)) (
    retG (.bool (decide (k ≤ 4096))) h Ψ) (
    retG (.bool false) h Ψ)

def s29_A (Ψ : AVal → Heap → Prop) : Ann :=
  .seq (rA 1)
  (.seq (.reg [⟨none, [(0, false), (1, false), (2, false)]⟩, ⟨some (5, true), [(3, false), (4, false)]⟩, ⟨none, [(5, false), (6, false)]⟩])
  (.leaf))

theorem s29_ok {Ψ : AVal → Heap → Prop} {k : Int} {h : Heap} (H : s29 Ψ k h) : ACalls prog 29 [(.int .i64 k)] h Ψ :=
  calls_of_evF func29 (by kernel_rfl) (by kernel_rfl) (by kernel_rfl)
    (Eq.mpr (by as_aux_lemma => kernel_rfl : oblF prog f29 (s29_A Ψ) Ψ = (True ∧ True ∧ True)) ⟨trivial, ⟨trivial, trivial⟩⟩)
    (Eq.mpr (by as_aux_lemma => kernel_rfl : evF prog f29 (s29_A Ψ) Ψ [(.int .i64 k)] h = s29 Ψ k h) H)

/- 31 (*dictum/dictumref03.T).Cut -/
def s31c1 (Ψ : AVal → Heap → Prop) (t1 : AVal) (n1 : Int) (t15 : Bool) (h : Heap) : Prop :=
  ifT t15 (
    retG (.int .i64 2) h Ψ) (
    nilCheckA t1 fun p =>
    addOff p 0 fun p1 =>
    ld1 h p1 fun v =>
    slM 4 v 0 n1 n1 fun v1 =>
    nilCheckA t1 fun p2 =>
    addOff p2 0 fun p3 =>
    chk (sc v1) (
      st true h p3 [v1] fun h_ =>
      retG (.int .i64 0) h_ Ψ))

def s31 (Ψ : AVal → Heap → Prop) (t : AVal) (n : Int) (h : Heap) : Prop :=
  ifT (decide (n < 0)) (
    s31c1 Ψ t n true h) (
    nilCheckA t fun p4 =>
    addOff p4 0 fun p5 =>
    ld1 h p5 fun v2 =>
    lenN v2 fun n2 =>
    s31c1 Ψ t n (decide (n2 < n)) h)

def s31_A (Ψ : AVal → Heap → Prop) : Ann :=
  .seq (rA 1)
  (.seq (.cut [(0, .any), (1, .int .i64), (15, .bool)] (fun l h => J.cons l fun x0 l => J.cons l fun v l => J.int .i64 v fun x1 => J.cons l fun v l => J.bool v fun x2 => J.nil l (s31c1 Ψ x0 x1 x2 h)) (.reg [⟨none, [(0, false), (1, false), (2, false)]⟩, ⟨some (7, false), [(3, false), (4, false), (5, false), (6, false), (7, false), (8, false), (9, false)]⟩, ⟨none, [(10, false)]⟩])
  (.cond (.seq (rA 1)
  (.leaf))
  (.leaf)))
  (.seq (rA 11)
  (.seq (rA 1)
  (.leaf))))

theorem s31_ok {Ψ : AVal → Heap → Prop} {t : AVal} {n : Int} {h : Heap} (H : s31 Ψ t n h) : ACalls prog 31 [t, (.int .i64 n)] h Ψ :=
  calls_of_evF func31 (by kernel_rfl) (by kernel_rfl) (by kernel_rfl)
    (Eq.mpr (by as_aux_lemma => kernel_rfl : oblF prog f31 (s31_A Ψ) Ψ = (True ∧ ((True) ∧ (∀ (h : Heap) (x0 : AVal) (x1 : Int) (x2 : Bool), OI (s31c1 Ψ x0 x1 x2 h)) ∧ ((True ∧ True) ∧ True)) ∧ True ∧ True ∧ True)) ⟨trivial, ⟨⟨trivial, fun _ _ _ _ H => H, ⟨⟨trivial, trivial⟩, trivial⟩⟩, ⟨trivial, ⟨trivial, trivial⟩⟩⟩⟩)
    (Eq.mpr (by as_aux_lemma => kernel_rfl : evF prog f31 (s31_A Ψ) Ψ [t, (.int .i64 n)] h = s31 Ψ t n h) H)

/- 33 dictum/nishimura.Imp -/
def s33 (Ψ : AVal → Heap → Prop) (a : Int) (b : Int) (h : Heap) : Prop :=
  callG prog 72 [(.int .i64 a), (.int .i64 b), (.func (.func 43) [] [])] h fun v h_ =>
  tTup v fun l_ =>
  tCons l_ fun v1 l_1 =>
  tInt .i64 v1 fun v2 =>
  tCons l_1 fun v3 l_2 =>
  tInt .i64 v3 fun v4 =>
  tNil l_2 (
    retG (.tuple [(.int .i64 v2), (.int .i64 v4)]) h_ Ψ)

def s33_A (Ψ : AVal → Heap → Prop) : Ann :=
  .seq (rA 2)
  (.seq (rA 7)
  (.leaf))

theorem s33_ok {Ψ : AVal → Heap → Prop} {a : Int} {b : Int} {h : Heap} (H : s33 Ψ a b h) : ACalls prog 33 [(.int .i64 a), (.int .i64 b)] h Ψ :=
  calls_of_evF func33 (by kernel_rfl) (by kernel_rfl) (by kernel_rfl)
    (Eq.mpr (by as_aux_lemma => kernel_rfl : oblF prog f33 (s33_A Ψ) Ψ = (True ∧ True ∧ True)) ⟨trivial, ⟨trivial, trivial⟩⟩)
    (Eq.mpr (by as_aux_lemma => kernel_rfl : evF prog f33 (s33_A Ψ) Ψ [(.int .i64 a), (.int .i64 b)] h = s33 Ψ a b h) H)

/- 35 dictum/nishimura.Meet -/
def s35 (Ψ : AVal → Heap → Prop) (a : Int) (b : Int) (h : Heap) : Prop :=
  callG prog 72 [(.int .i64 a), (.int .i64 b), (.func (.func 41) [] [])] h fun v h_ =>
  tTup v fun l_ =>
  tCons l_ fun v1 l_1 =>
  tInt .i64 v1 fun v2 =>
  tCons l_1 fun v3 l_2 =>
  tInt .i64 v3 fun v4 =>
  tNil l_2 (
    retG (.tuple [(.int .i64 v2), (.int .i64 v4)]) h_ Ψ)

def s35_A (Ψ : AVal → Heap → Prop) : Ann :=
  .seq (rA 2)
  (.seq (rA 7)
  (.leaf))

theorem s35_ok {Ψ : AVal → Heap → Prop} {a : Int} {b : Int} {h : Heap} (H : s35 Ψ a b h) : ACalls prog 35 [(.int .i64 a), (.int .i64 b)] h Ψ :=
  calls_of_evF func35 (by kernel_rfl) (by kernel_rfl) (by kernel_rfl)
    (Eq.mpr (by as_aux_lemma => kernel_rfl : oblF prog f35 (s35_A Ψ) Ψ = (True ∧ True ∧ True)) ⟨trivial, ⟨trivial, trivial⟩⟩)
    (Eq.mpr (by as_aux_lemma => kernel_rfl : evF prog f35 (s35_A Ψ) Ψ [(.int .i64 a), (.int .i64 b)] h = s35 Ψ a b h) H)

/- 37 (*dictum/formula.Table).Node -/
def s37c1 (Ψ : AVal → Heap → Prop) (t1 : AVal) (id_1 : Int) (t4 : AVal) (t14 : Bool) (h : Heap) : Prop :=
  ifT t14 (
    st false h t4 [(.int .i64 0), (.str (ByteArray.mk #[])), (.int .i64 0), (.int .i64 0)] fun h_1 =>
    ldN 4 h_1 t4 fun l_ =>
    tCons l_ fun v l_1 =>
    tInt .i64 v fun v1 =>
    tCons l_1 fun v2 l_2 =>
    tStr v2 fun v3 =>
    tCons l_2 fun v4 l_3 =>
    tInt .i64 v4 fun v5 =>
    tCons l_3 fun v6 l_4 =>
    tInt .i64 v6 fun v7 =>
    tNil l_4 (
      retG (.tuple [(.agg [(.int .i64 v1), (.str v3), (.int .i64 v5), (.int .i64 v7)]), (.bool false)]) h_1 Ψ)) (
    nilCheckA t1 fun p =>
    addOff p 0 fun p1 =>
    ld1 h p1 fun v8 =>
    ixS 4 v8 id_1 fun p2 =>
    ldN 4 h p2 fun l_5 =>
    tCons l_5 fun v9 l_6 =>
    tInt .i64 v9 fun v10 =>
    tCons l_6 fun v11 l_7 =>
    tStr v11 fun v12 =>
    tCons l_7 fun v13 l_8 =>
    tInt .i64 v13 fun v14 =>
    tCons l_8 fun v15 l_9 =>
    tInt .i64 v15 fun v16 =>
    tNil l_9 (
      st false h t4 [(.int .i64 v10), (.str v12), (.int .i64 v14), (.int .i64 v16)] fun h_2 =>
      ldN 4 h_2 t4 fun l_10 =>
      tCons l_10 fun v17 l_11 =>
      tInt .i64 v17 fun v18 =>
      tCons l_11 fun v19 l_12 =>
      tStr v19 fun v20 =>
      tCons l_12 fun v21 l_13 =>
      tInt .i64 v21 fun v22 =>
      tCons l_13 fun v23 l_14 =>
      tInt .i64 v23 fun v24 =>
      tNil l_14 (
        retG (.tuple [(.agg [(.int .i64 v18), (.str v20), (.int .i64 v22), (.int .i64 v24)]), (.bool true)]) h_2 Ψ)))

def s37 (Ψ : AVal → Heap → Prop) (t : AVal) (id_ : Int) (h : Heap) : Prop :=
  Sym.newRow 4 [(.agg [(.int .i64 0), (.str (ByteArray.mk #[])), (.int .i64 0), (.int .i64 0)])] h fun r h_ =>
  callG prog 56 [t] h_ fun v25 h_3 =>
  tBool v25 fun v26 =>
  ifT (!v26) (
    s37c1 Ψ t id_ (.ptr r 0 0) true h_3) (
    callG prog 75 [t, (.int .i64 id_)] h_3 fun v27 h_4 =>
    tBool v27 fun v28 =>
    s37c1 Ψ t id_ (.ptr r 0 0) (!v28) h_4)

def s37_A (Ψ : AVal → Heap → Prop) : Ann :=
  .seq (rA 2)
  (.seq (.cut [(0, .any), (1, .int .i64), (4, .any), (14, .bool)] (fun l h => J.cons l fun x0 l => J.cons l fun v l => J.int .i64 v fun x1 => J.cons l fun x2 l => J.cons l fun v l => J.bool v fun x3 => J.nil l (s37c1 Ψ x0 x1 x2 x3 h)) (.reg [⟨none, [(0, false), (1, false), (2, false), (3, false)]⟩, ⟨some (9, false), [(4, false), (5, false), (6, false), (7, false)]⟩, ⟨none, [(8, false)]⟩])
  (.cond (.seq (rA 3)
  (.leaf))
  (.leaf)))
  (.seq (rA 9)
  (.leaf)))

theorem s37_ok {Ψ : AVal → Heap → Prop} {t : AVal} {id_ : Int} {h : Heap} (H : s37 Ψ t id_ h) : ACalls prog 37 [t, (.int .i64 id_)] h Ψ :=
  calls_of_evF func37 (by kernel_rfl) (by kernel_rfl) (by kernel_rfl)
    (Eq.mpr (by as_aux_lemma => kernel_rfl : oblF prog f37 (s37_A Ψ) Ψ = (True ∧ ((True) ∧ (∀ (h : Heap) (x0 : AVal) (x1 : Int) (x2 : AVal) (x3 : Bool), OI (s37c1 Ψ x0 x1 x2 x3 h)) ∧ ((True ∧ True) ∧ True)) ∧ True ∧ True)) ⟨trivial, ⟨⟨trivial, fun _ _ _ _ _ H => H, ⟨⟨trivial, trivial⟩, trivial⟩⟩, ⟨trivial, trivial⟩⟩⟩)
    (Eq.mpr (by as_aux_lemma => kernel_rfl : evF prog f37 (s37_A Ψ) Ψ [t, (.int .i64 id_)] h = s37 Ψ t id_ h) H)

/- 40 (*dictum/formula.Table).Below -/
abbrev s40l1_T := AVal → AVal → Heap → Prop
def s40l1_R (F : s40l1_T) (l : List AVal) (h : Heap) : Prop := J.cons l fun x0 l => J.cons l fun x1 l => J.nil l (F x0 x1 h)
def s40l1_G (F : s40l1_T) (x0 x1 : AVal) (h : Heap) : Prop := gJ [.any, .any] [x0, x1] h (s40l1_R F)
def s40l1_E (F : Nat → s40l1_T) (x0 x1 : AVal) (h : Heap) : Prop := gJ [.any, .any] [x0, x1] h (fun l h => ∃ n, s40l1_R (F n) l h)
theorem s40l1_go {F : s40l1_T} {x0 x1 : AVal} {h : Heap} (H : F x0 x1 h) : s40l1_G F x0 x1 h := gJ_plain rfl H
theorem s40l1_in {F : Nat → s40l1_T} {x0 x1 : AVal} {h : Heap} (n : Nat) (H : F n x0 x1 h) : s40l1_E F x0 x1 h := gJ_plain rfl ⟨n, H⟩

def s40l1 (Ψ : AVal → Heap → Prop) : Nat → s40l1_T
  | 0, _, _, _ => False
  | n + 1, l_, t25, h =>
    nextM h t25 fun v8 h_9 =>
    extractA v8 0 fun v9 =>
    tBool v9 fun v10 =>
    ifT v10 (
      entryA h_9 t25 fun v11 =>
      extractA v11 0 fun v12 =>
      tInt .i64 v12 fun v13 =>
      appC 1 8 h_9 l_ (.lsl 1 [(.int .i64 v13)]) fun v14 h_10 =>
      s40l1_G (s40l1 Ψ n) v14 t25 h_10) (
      callG prog 81 [l_] h_9 fun v15 h_11 =>
      retG (.tuple [l_, (.int .i64 0)]) h_11 Ψ)

def s40 (Ψ : AVal → Heap → Prop) (t : AVal) (id_ : Int) (h : Heap) : Prop :=
  chk (sc t) (
    callG prog 56 [t] h fun v h_ =>
    tBool v fun v1 =>
    ifT (!v1) (
      retG (.tuple [.nilsl, (.int .i64 1)]) h_ Ψ) (
      callG prog 75 [t, (.int .i64 id_)] h_ fun v2 h_1 =>
      tBool v2 fun v3 =>
      ifT (!v3) (
        retG (.tuple [.nilsl, (.int .i64 31)]) h_1 Ψ) (
        newMap h_1 fun r h_2 =>
        Sym.newRow 1 [.nilmap] h_2 fun r1 h_3 =>
        st true h_3 (.ptr r1 0 0) [(.mapr r)] fun h_4 =>
        Sym.newRow 1 [.nilfunc] h_4 fun r2 h_5 =>
        st true h_5 (.ptr r2 0 0) [(.func (.func 80) [] [(.ptr r1 0 0), (.lptr [t]), (.ptr r2 0 0)])] fun h_6 =>
        ld1 h_6 (.ptr r2 0 0) fun v4 =>
        callV prog v4 [(.int .i64 id_)] h_6 fun v5 h_7 =>
        ld1 h_7 (.ptr r1 0 0) fun v6 =>
        rangeM h_7 v6 fun v7 h_8 =>
        s40l1_E (s40l1 Ψ) .nilsl v7 h_8)))

def s40_A (Ψ : AVal → Heap → Prop) : Ann :=
  .seq (.reg [⟨none, [(0, true), (1, false), (2, false)]⟩])
  (.seq (.block (.seq (rA 4)
  (.cond (.seq (rA 2)
  (.leaf))
  (.seq (rA 5)
  (.cond (.seq (rA 2)
  (.leaf))
  (.leaf))))))
  (.seq (rA 3)
  (.seq (rA 1)
  (.seq (rA 2)
  (.seq (rA 3)
  (.seq (rA 1)
  (.seq (.seq (rA 2)
  (.block (.loop [(8, .any), (25, .any)] (fun n l h => s40l1_R (s40l1 Ψ n) l h) (fun L1 =>
  .seq (rA 2)
  (.seq (.cond (.leaf)
  (.leaf))
  (.block (.seq (rA 3)
  (.reg [⟨none, [(0, false), (1, false), (2, true), (3, false), (4, false)]⟩]))))))))
  (.seq (rA 2)
  (.seq (rA 3)
  (.leaf))))))))))

theorem s40_ok {Ψ : AVal → Heap → Prop} {t : AVal} {id_ : Int} {h : Heap} (H : s40 Ψ t id_ h) : ACalls prog 40 [t, (.int .i64 id_)] h Ψ :=
  calls_of_evF func40 (by kernel_rfl) (by kernel_rfl) (by kernel_rfl)
    (Eq.mpr (by as_aux_lemma => kernel_rfl : oblF prog f40 (s40_A Ψ) Ψ = (True ∧ (True ∧ (True ∧ True) ∧ True ∧ (True ∧ True) ∧ True) ∧ True ∧ True ∧ True ∧ True ∧ True ∧ (True ∧ (∀ (h : Heap) (x0 x1 : AVal), ON (s40l1 Ψ 0 x0 x1 h)) ∧ ∀ n1 : Nat, (∀ (h : Heap) (x0 x1 : AVal), OI (s40l1 Ψ (n1 + 1) x0 x1 h)) ∧ (True ∧ (True ∧ True) ∧ True ∧ True)) ∧ True ∧ True ∧ True)) ⟨trivial, ⟨⟨trivial, ⟨⟨trivial, trivial⟩, ⟨trivial, ⟨⟨trivial, trivial⟩, trivial⟩⟩⟩⟩, ⟨trivial, ⟨trivial, ⟨trivial, ⟨trivial, ⟨trivial, ⟨⟨trivial, ⟨fun _ _ _ H => H, fun _ => ⟨fun _ _ _ H => H, ⟨trivial, ⟨⟨trivial, trivial⟩, ⟨trivial, trivial⟩⟩⟩⟩⟩⟩, ⟨trivial, ⟨trivial, trivial⟩⟩⟩⟩⟩⟩⟩⟩⟩⟩)
    (Eq.mpr (by as_aux_lemma => kernel_rfl : evF prog f40 (s40_A Ψ) Ψ [t, (.int .i64 id_)] h = s40 Ψ t id_ h) H)

/- 42 dictum/nishimura.join -/
def s42 (Ψ : AVal → Heap → Prop) (a_all : Bool) (a_low : Int) (a_gap : Bool) (b_all : Bool) (b_low : Int) (b_gap : Bool) (h : Heap) : Prop :=
  Sym.newRow 3 [(.agg [(.bool false), (.int .i64 0), (.bool false)])] h fun r h_ =>
  callG prog 83 [(.agg [(.bool a_all), (.int .i64 a_low), (.bool a_gap)]), (.agg [(.bool b_all), (.int .i64 b_low), (.bool b_gap)])] h_ fun v h_1 =>
  tInt .i64 v fun v1 =>
  callG prog 82 [(.int .i64 v1), (.func (.func 86) [] [(.lptr [(.bool a_all), (.int .i64 a_low), (.bool a_gap)]), (.lptr [(.bool b_all), (.int .i64 b_low), (.bool b_gap)])])] h_1 fun v2 h_2 =>
  tAgg v2 fun l_ =>
  tCons l_ fun v3 l_1 =>
  tBool v3 fun v4 =>
  tCons l_1 fun v5 l_2 =>
  tInt .i64 v5 fun v6 =>
  tCons l_2 fun v7 l_3 =>
  tBool v7 fun v8 =>
  tNil l_3 (
    st false h_2 (.ptr r 0 0) [(.bool v4), (.int .i64 v6), (.bool v8)] fun h_3 =>
    ldN 3 h_3 (.ptr r 0 0) fun l_4 =>
    tCons l_4 fun v9 l_5 =>
    tBool v9 fun v10 =>
    tCons l_5 fun v11 l_6 =>
    tInt .i64 v11 fun v12 =>
    tCons l_6 fun v13 l_7 =>
    tBool v13 fun v14 =>
    tNil l_7 (
      retG (.agg [(.bool v10), (.int .i64 v12), (.bool v14)]) h_3 Ψ))

def s42_A (Ψ : AVal → Heap → Prop) : Ann :=
  .seq (.reg [⟨none, [(0, true), (1, true), (2, false)]⟩])
  (.seq (rA 6)
  (.leaf))

theorem s42_ok {Ψ : AVal → Heap → Prop} {a_all : Bool} {a_low : Int} {a_gap : Bool} {b_all : Bool} {b_low : Int} {b_gap : Bool} {h : Heap} (H : s42 Ψ a_all a_low a_gap b_all b_low b_gap h) : ACalls prog 42 [(.agg [(.bool a_all), (.int .i64 a_low), (.bool a_gap)]), (.agg [(.bool b_all), (.int .i64 b_low), (.bool b_gap)])] h Ψ :=
  calls_of_evF func42 (by kernel_rfl) (by kernel_rfl) (by kernel_rfl)
    (Eq.mpr (by as_aux_lemma => kernel_rfl : oblF prog f42 (s42_A Ψ) Ψ = (True ∧ True ∧ True)) ⟨trivial, ⟨trivial, trivial⟩⟩)
    (Eq.mpr (by as_aux_lemma => kernel_rfl : evF prog f42 (s42_A Ψ) Ψ [(.agg [(.bool a_all), (.int .i64 a_low), (.bool a_gap)]), (.agg [(.bool b_all), (.int .i64 b_low), (.bool b_gap)])] h = s42 Ψ a_all a_low a_gap b_all b_low b_gap h) H)

/- 44 (dictum/nishimura.rung).number -/
def s44 (Ψ : AVal → Heap → Prop) (r_all : Bool) (r_low : Int) (r_gap : Bool) (h : Heap) : Prop :=
  ifT r_all (
    retG (.int .i64 (-1)) h Ψ) (
    ifT r_gap (
      rg (2 * r_low) (
        rg ((2 * r_low) + 2) (
          retG (.int .i64 ((2 * r_low) + 2)) h Ψ))) (
      ifT (r_low == 0) (
        retG (.int .i64 0) h Ψ) (
        rg (2 * r_low) (
          rg ((2 * r_low) - 1) (
            retG (.int .i64 ((2 * r_low) - 1)) h Ψ)))))

def s44_A (Ψ : AVal → Heap → Prop) : Ann :=
  .seq (.reg [⟨none, [(0, true), (1, false)]⟩])
  (.seq (.block (.seq (rA 3)
  (.cond (.seq (rA 1)
  (.leaf))
  (.seq (rA 3)
  (.cond (.seq (rA 5)
  (.leaf))
  (.seq (rA 4)
  (.cond (.seq (rA 1)
  (.leaf))
  (.leaf))))))))
  (.seq (rA 5)
  (.leaf)))

theorem s44_ok {Ψ : AVal → Heap → Prop} {r_all : Bool} {r_low : Int} {r_gap : Bool} {h : Heap} (H : s44 Ψ r_all r_low r_gap h) : ACalls prog 44 [(.agg [(.bool r_all), (.int .i64 r_low), (.bool r_gap)])] h Ψ :=
  calls_of_evF func44 (by kernel_rfl) (by kernel_rfl) (by kernel_rfl)
    (Eq.mpr (by as_aux_lemma => kernel_rfl : oblF prog f44 (s44_A Ψ) Ψ = (True ∧ (True ∧ (True ∧ True) ∧ True ∧ (True ∧ True) ∧ True ∧ (True ∧ True) ∧ True) ∧ True ∧ True)) ⟨trivial, ⟨⟨trivial, ⟨⟨trivial, trivial⟩, ⟨trivial, ⟨⟨trivial, trivial⟩, ⟨trivial, ⟨⟨trivial, trivial⟩, trivial⟩⟩⟩⟩⟩⟩, ⟨trivial, trivial⟩⟩⟩)
    (Eq.mpr (by as_aux_lemma => kernel_rfl : evF prog f44 (s44_A Ψ) Ψ [(.agg [(.bool r_all), (.int .i64 r_low), (.bool r_gap)])] h = s44 Ψ r_all r_low r_gap h) H)

/- 46 dictum/dictumref26.meet -/
abbrev s46l1_T := Int → Int → AVal → Int → Heap → Prop
def s46l1_R (F : s46l1_T) (l : List AVal) (h : Heap) : Prop := J.cons l fun v l => J.int .i64 v fun x0 => J.cons l fun v l => J.int .i64 v fun x1 => J.cons l fun x2 l => J.cons l fun v l => J.int .i64 v fun x3 => J.nil l (F x0 x1 x2 x3 h)
def s46l1_G (F : s46l1_T) (x0 x1 : Int) (x2 : AVal) (x3 : Int) (h : Heap) : Prop := gJ [.int .i64, .int .i64, .any, .int .i64] [(.int .i64 x0), (.int .i64 x1), x2, (.int .i64 x3)] h (s46l1_R F)
def s46l1_E (F : Nat → s46l1_T) (x0 x1 : Int) (x2 : AVal) (x3 : Int) (h : Heap) : Prop := gJ [.int .i64, .int .i64, .any, .int .i64] [(.int .i64 x0), (.int .i64 x1), x2, (.int .i64 x3)] h (fun l h => ∃ n, s46l1_R (F n) l h)
theorem s46l1_go {F : s46l1_T} {x0 x1 : Int} {x2 : AVal} {x3 : Int} {h : Heap} (H : F x0 x1 x2 x3 h) : s46l1_G F x0 x1 x2 x3 h := gJ_plain rfl H
theorem s46l1_in {F : Nat → s46l1_T} {x0 x1 : Int} {x2 : AVal} {x3 : Int} {h : Heap} (n : Nat) (H : F n x0 x1 x2 x3 h) : s46l1_E F x0 x1 x2 x3 h := gJ_plain rfl ⟨n, H⟩

def s46c2 (Ψ : AVal → Heap → Prop) (L1 : s46l1_T) (a2 b2 : Int) (in_1 : AVal) (w1 : Int) (h : Heap) : Prop :=
  rg (w1 + 1) (
    L1 a2 b2 in_1 (w1 + 1) h)

def s46l1 (Ψ : AVal → Heap → Prop) : Nat → s46l1_T
  | 0, _, _, _, _, _ => False
  | n + 1, a1, b1, in_, w, h =>
    lenN in_ fun n1 =>
    ifT (decide (w < n1)) (
      callG prog 20 [(.int .i64 a1), (.int .i64 w)] h fun v3 h_2 =>
      tBool v3 fun v4 =>
      ifT v4 (
        callG prog 20 [(.int .i64 b1), (.int .i64 w)] h_2 fun v5 h_3 =>
        tBool v5 fun v6 =>
        ixS 1 in_ w fun p =>
        st true h_3 p [(.bool v6)] fun h_4 =>
        s46c2 Ψ (s46l1_G (s46l1 Ψ n)) a1 b1 in_ w h_4) (
        ixS 1 in_ w fun p1 =>
        st true h_2 p1 [(.bool false)] fun h_5 =>
        s46c2 Ψ (s46l1_G (s46l1 Ψ n)) a1 b1 in_ w h_5)) (
      callG prog 91 [in_] h fun v7 h_6 =>
      tTup v7 fun l_ =>
      tCons l_ fun v8 l_1 =>
      tInt .i64 v8 fun v9 =>
      tCons l_1 fun v10 l_2 =>
      tBool v10 fun v11 =>
      tNil l_2 (
        retG (.int .i64 v9) h_6 Ψ))

def s46 (Ψ : AVal → Heap → Prop) (a : Int) (b : Int) (h : Heap) : Prop :=
  callG prog 90 [(.int .i64 a), (.int .i64 b)] h fun v h_ =>
  tInt .i64 v fun v1 =>
  mkS false 1 1 (.bool false) h_ v1 v1 fun v2 h_1 =>
  s46l1_E (s46l1 Ψ) a b v2 0 h_1

def s46_A (Ψ : AVal → Heap → Prop) : Ann :=
  .seq (rA 1)
  (.seq (rA 5)
  (.seq (.seq (rA 1)
  (.block (.loop [(0, .int .i64), (1, .int .i64), (5, .any), (6, .int .i64)] (fun n l h => s46l1_R (s46l1 Ψ n) l h) (fun L1 =>
  .seq (.seq (rA 4)
  (.cond (.leaf)
  (.leaf)))
  (.cut [(0, .int .i64), (1, .int .i64), (5, .any), (6, .int .i64)] (fun l h => J.cons l fun v l => J.int .i64 v fun x0 => J.cons l fun v l => J.int .i64 v fun x1 => J.cons l fun x2 l => J.cons l fun v l => J.int .i64 v fun x3 => J.nil l (s46c2 Ψ (fun y0 y1 y2 y3 h => L1 [(.int .i64 y0), (.int .i64 y1), y2, (.int .i64 y3)] h) x0 x1 x2 x3 h)) (.block (.reg [⟨none, [(0, false), (1, false), (2, false), (3, false), (4, false), (5, false)]⟩, ⟨some (24, true), [(6, false), (7, false), (8, false)]⟩, ⟨none, [(9, false), (10, false), (11, false)]⟩]))
  (rA 3))))))
  (.seq (rA 7)
  (.seq (rA 2)
  (.leaf)))))

theorem s46_ok {Ψ : AVal → Heap → Prop} {a : Int} {b : Int} {h : Heap} (H : s46 Ψ a b h) : ACalls prog 46 [(.int .i64 a), (.int .i64 b)] h Ψ :=
  calls_of_evF func46 (by kernel_rfl) (by kernel_rfl) (by kernel_rfl)
    (Eq.mpr (by as_aux_lemma => kernel_rfl : oblF prog f46 (s46_A Ψ) Ψ = (True ∧ True ∧ (True ∧ (∀ (h : Heap) (x0 x1 : Int) (x2 : AVal) (x3 : Int), ON (s46l1 Ψ 0 x0 x1 x2 x3 h)) ∧ ∀ n1 : Nat, (∀ (h : Heap) (x0 x1 : Int) (x2 : AVal) (x3 : Int), OI (s46l1 Ψ (n1 + 1) x0 x1 x2 x3 h)) ∧ ((True ∧ True ∧ True) ∧ (True) ∧ (∀ (h : Heap) (x0 x1 : Int) (x2 : AVal) (x3 : Int), OI (s46c2 Ψ (s46l1_G (s46l1 Ψ n1)) x0 x1 x2 x3 h)) ∧ (True))) ∧ True ∧ True ∧ True)) ⟨trivial, ⟨trivial, ⟨⟨trivial, ⟨fun _ _ _ _ _ H => H, fun _ => ⟨fun _ _ _ _ _ H => H, ⟨⟨trivial, ⟨trivial, trivial⟩⟩, ⟨trivial, fun _ _ _ _ _ H => H, trivial⟩⟩⟩⟩⟩, ⟨trivial, ⟨trivial, trivial⟩⟩⟩⟩⟩)
    (Eq.mpr (by as_aux_lemma => kernel_rfl : evF prog f46 (s46_A Ψ) Ψ [(.int .i64 a), (.int .i64 b)] h = s46 Ψ a b h) H)

/- 48 dictum/dictumref26.imp -/
abbrev s48l1_T := Int → Int → AVal → Int → Heap → Prop
def s48l1_R (F : s48l1_T) (l : List AVal) (h : Heap) : Prop := J.cons l fun v l => J.int .i64 v fun x0 => J.cons l fun v l => J.int .i64 v fun x1 => J.cons l fun x2 l => J.cons l fun v l => J.int .i64 v fun x3 => J.nil l (F x0 x1 x2 x3 h)
def s48l1_G (F : s48l1_T) (x0 x1 : Int) (x2 : AVal) (x3 : Int) (h : Heap) : Prop := gJ [.int .i64, .int .i64, .any, .int .i64] [(.int .i64 x0), (.int .i64 x1), x2, (.int .i64 x3)] h (s48l1_R F)
def s48l1_E (F : Nat → s48l1_T) (x0 x1 : Int) (x2 : AVal) (x3 : Int) (h : Heap) : Prop := gJ [.int .i64, .int .i64, .any, .int .i64] [(.int .i64 x0), (.int .i64 x1), x2, (.int .i64 x3)] h (fun l h => ∃ n, s48l1_R (F n) l h)
theorem s48l1_go {F : s48l1_T} {x0 x1 : Int} {x2 : AVal} {x3 : Int} {h : Heap} (H : F x0 x1 x2 x3 h) : s48l1_G F x0 x1 x2 x3 h := gJ_plain rfl H
theorem s48l1_in {F : Nat → s48l1_T} {x0 x1 : Int} {x2 : AVal} {x3 : Int} {h : Heap} (n : Nat) (H : F n x0 x1 x2 x3 h) : s48l1_E F x0 x1 x2 x3 h := gJ_plain rfl ⟨n, H⟩

abbrev s48l3_T := Int → Int → AVal → Int → Int → Heap → Prop
def s48l3_R (F : s48l3_T) (l : List AVal) (h : Heap) : Prop := J.cons l fun v l => J.int .i64 v fun x0 => J.cons l fun v l => J.int .i64 v fun x1 => J.cons l fun x2 l => J.cons l fun v l => J.int .i64 v fun x3 => J.cons l fun v l => J.int .i64 v fun x4 => J.nil l (F x0 x1 x2 x3 x4 h)
def s48l3_G (F : s48l3_T) (x0 x1 : Int) (x2 : AVal) (x3 x4 : Int) (h : Heap) : Prop := gJ [.int .i64, .int .i64, .any, .int .i64, .int .i64] [(.int .i64 x0), (.int .i64 x1), x2, (.int .i64 x3), (.int .i64 x4)] h (s48l3_R F)
def s48l3_E (F : Nat → s48l3_T) (x0 x1 : Int) (x2 : AVal) (x3 x4 : Int) (h : Heap) : Prop := gJ [.int .i64, .int .i64, .any, .int .i64, .int .i64] [(.int .i64 x0), (.int .i64 x1), x2, (.int .i64 x3), (.int .i64 x4)] h (fun l h => ∃ n, s48l3_R (F n) l h)
theorem s48l3_go {F : s48l3_T} {x0 x1 : Int} {x2 : AVal} {x3 x4 : Int} {h : Heap} (H : F x0 x1 x2 x3 x4 h) : s48l3_G F x0 x1 x2 x3 x4 h := gJ_plain rfl H
theorem s48l3_in {F : Nat → s48l3_T} {x0 x1 : Int} {x2 : AVal} {x3 x4 : Int} {h : Heap} (n : Nat) (H : F n x0 x1 x2 x3 x4 h) : s48l3_E F x0 x1 x2 x3 x4 h := gJ_plain rfl ⟨n, H⟩

def s48c4 (Ψ : AVal → Heap → Prop) (L1 : s48l1_T) (L3 : s48l3_T) (a4 b4 : Int) (in_3 : AVal) (w3 v6 : Int) (h : Heap) : Prop :=
  rg (v6 + 1) (
    L3 a4 b4 in_3 w3 (v6 + 1) h)

def s48l3 (Ψ : AVal → Heap → Prop) (L1 : s48l1_T) : Nat → s48l3_T
  | 0, _, _, _, _, _, _ => False
  | n2 + 1, a3, b3, in_2, w2, v5, h =>
    rg (w2 - 2) (
      ifT (decide (v5 ≤ (w2 - 2))) (
        ixS 1 in_2 w2 fun p =>
        ld1 h p fun v7 =>
        tBool v7 fun v8 =>
        ifT v8 (
          callG prog 20 [(.int .i64 a3), (.int .i64 v5)] h fun v9 h_3 =>
          tBool v9 fun v10 =>
          ifT (!v10) (
            ixS 1 in_2 w2 fun p2 =>
            st true h_3 p2 [(.bool true)] fun h_6 =>
            s48c4 Ψ L1 (s48l3_G (s48l3 Ψ L1 n2)) a3 b3 in_2 w2 v5 h_6) (
            callG prog 20 [(.int .i64 b3), (.int .i64 v5)] h_3 fun v11 h_4 =>
            tBool v11 fun v12 =>
            ixS 1 in_2 w2 fun p1 =>
            st true h_4 p1 [(.bool v12)] fun h_5 =>
            s48c4 Ψ L1 (s48l3_G (s48l3 Ψ L1 n2)) a3 b3 in_2 w2 v5 h_5)) (
          ixS 1 in_2 w2 fun p3 =>
          st true h p3 [(.bool false)] fun h_7 =>
          s48c4 Ψ L1 (s48l3_G (s48l3 Ψ L1 n2)) a3 b3 in_2 w2 v5 h_7)) (
        rg (w2 + 1) (
          L1 a3 b3 in_2 (w2 + 1) h)))

def s48c2 (Ψ : AVal → Heap → Prop) (L1 : s48l1_T) (a2 b2 : Int) (in_1 : AVal) (w1 : Int) (h : Heap) : Prop :=
  s48l3_E (s48l3 Ψ L1) a2 b2 in_1 w1 0 h

def s48l1 (Ψ : AVal → Heap → Prop) : Nat → s48l1_T
  | 0, _, _, _, _, _ => False
  | n + 1, a1, b1, in_, w, h =>
    lenN in_ fun n1 =>
    ifT (decide (w < n1)) (
      callG prog 20 [(.int .i64 a1), (.int .i64 w)] h fun v13 h_8 =>
      tBool v13 fun v14 =>
      ifT (!v14) (
        ixS 1 in_ w fun p5 =>
        st true h_8 p5 [(.bool true)] fun h_11 =>
        s48c2 Ψ (s48l1_G (s48l1 Ψ n)) a1 b1 in_ w h_11) (
        callG prog 20 [(.int .i64 b1), (.int .i64 w)] h_8 fun v15 h_9 =>
        tBool v15 fun v16 =>
        ixS 1 in_ w fun p4 =>
        st true h_9 p4 [(.bool v16)] fun h_10 =>
        s48c2 Ψ (s48l1_G (s48l1 Ψ n)) a1 b1 in_ w h_10)) (
      callG prog 91 [in_] h fun v17 h_12 =>
      tTup v17 fun l_ =>
      tCons l_ fun v18 l_1 =>
      tInt .i64 v18 fun v19 =>
      tCons l_1 fun v20 l_2 =>
      tBool v20 fun v21 =>
      tNil l_2 (
        retG (.int .i64 v19) h_12 Ψ))

def s48 (Ψ : AVal → Heap → Prop) (a : Int) (b : Int) (h : Heap) : Prop :=
  callG prog 92 [(.int .i64 a), (.int .i64 b)] h fun v h_ =>
  tBool v fun v1 =>
  ifT v1 (
    retG (.int .i64 (-1)) h_ Ψ) (
    callG prog 90 [(.int .i64 a), (.int .i64 b)] h_ fun v2 h_1 =>
    tInt .i64 v2 fun v3 =>
    mkS false 1 1 (.bool false) h_1 v3 v3 fun v4 h_2 =>
    s48l1_E (s48l1 Ψ) a b v4 0 h_2)

def s48_A (Ψ : AVal → Heap → Prop) : Ann :=
  .seq (rA 1)
  (.seq (.seq (rA 3)
  (.cond (.seq (rA 1)
  (.leaf))
  (.leaf)))
  (.seq (rA 5)
  (.seq (.seq (rA 1)
  (.block (.loop [(0, .int .i64), (1, .int .i64), (5, .any), (6, .int .i64)] (fun n l h => s48l1_R (s48l1 Ψ n) l h) (fun L1 =>
  .seq (.seq (rA 4)
  (.cond (.leaf)
  (.leaf)))
  (.seq (.block (.cut [(0, .int .i64), (1, .int .i64), (5, .any), (6, .int .i64)] (fun l h => J.cons l fun v l => J.int .i64 v fun x0 => J.cons l fun v l => J.int .i64 v fun x1 => J.cons l fun x2 l => J.cons l fun v l => J.int .i64 v fun x3 => J.nil l (s48c2 Ψ (fun y0 y1 y2 y3 h => L1 [(.int .i64 y0), (.int .i64 y1), y2, (.int .i64 y3)] h) x0 x1 x2 x3 h)) (.reg [⟨none, [(0, false), (1, false), (2, false), (3, false), (4, false), (5, false), (6, false)]⟩, ⟨some (29, false), [(7, false), (8, false), (9, false)]⟩, ⟨none, [(10, false), (11, false), (12, false)]⟩])
  (.seq (rA 1)
  (.block (.loop [(0, .int .i64), (1, .int .i64), (5, .any), (6, .int .i64), (7, .int .i64)] (fun n l h => s48l3_R (s48l3 Ψ (fun y0 y1 y2 y3 h => L1 [(.int .i64 y0), (.int .i64 y1), y2, (.int .i64 y3)] h) n) l h) (fun L3 =>
  .seq (.seq (rA 4)
  (.cond (.leaf)
  (.leaf)))
  (.cut [(0, .int .i64), (1, .int .i64), (5, .any), (6, .int .i64), (7, .int .i64)] (fun l h => J.cons l fun v l => J.int .i64 v fun x0 => J.cons l fun v l => J.int .i64 v fun x1 => J.cons l fun x2 l => J.cons l fun v l => J.int .i64 v fun x3 => J.cons l fun v l => J.int .i64 v fun x4 => J.nil l (s48c4 Ψ (fun y0 y1 y2 y3 h => L1 [(.int .i64 y0), (.int .i64 y1), y2, (.int .i64 y3)] h) (fun y0 y1 y2 y3 y4 h => L3 [(.int .i64 y0), (.int .i64 y1), y2, (.int .i64 y3), (.int .i64 y4)] h) x0 x1 x2 x3 x4 h)) (.block (.reg [⟨none, [(0, false), (1, false), (2, false), (3, false), (4, false), (5, false), (6, false)]⟩, ⟨some (47, true), [(7, false), (8, false), (9, false), (10, false), (11, false)]⟩, ⟨some (52, false), [(12, false), (13, false), (14, false)]⟩, ⟨some (47, true), [(15, false)]⟩, ⟨none, [(16, false), (17, false), (18, false)]⟩]))
  (rA 3))))))))
  (rA 3))))))
  (.seq (rA 7)
  (.seq (rA 2)
  (.leaf))))))

theorem s48_ok {Ψ : AVal → Heap → Prop} {a : Int} {b : Int} {h : Heap} (H : s48 Ψ a b h) : ACalls prog 48 [(.int .i64 a), (.int .i64 b)] h Ψ :=
  calls_of_evF func48 (by kernel_rfl) (by kernel_rfl) (by kernel_rfl)
    (Eq.mpr (by as_aux_lemma => kernel_rfl : oblF prog f48 (s48_A Ψ) Ψ = (True ∧ (True ∧ (True ∧ True) ∧ True) ∧ True ∧ (True ∧ (∀ (h : Heap) (x0 x1 : Int) (x2 : AVal) (x3 : Int), ON (s48l1 Ψ 0 x0 x1 x2 x3 h)) ∧ ∀ n1 : Nat, (∀ (h : Heap) (x0 x1 : Int) (x2 : AVal) (x3 : Int), OI (s48l1 Ψ (n1 + 1) x0 x1 x2 x3 h)) ∧ ((True ∧ True ∧ True) ∧ ((True) ∧ (∀ (h : Heap) (x0 x1 : Int) (x2 : AVal) (x3 : Int), OI (s48c2 Ψ (s48l1_G (s48l1 Ψ n1)) x0 x1 x2 x3 h)) ∧ (True ∧ (∀ (h : Heap) (x0 x1 : Int) (x2 : AVal) (x3 x4 : Int), ON (s48l3 Ψ (s48l1_G (s48l1 Ψ n1)) 0 x0 x1 x2 x3 x4 h)) ∧ ∀ n3 : Nat, (∀ (h : Heap) (x0 x1 : Int) (x2 : AVal) (x3 x4 : Int), OI (s48l3 Ψ (s48l1_G (s48l1 Ψ n1)) (n3 + 1) x0 x1 x2 x3 x4 h)) ∧ ((True ∧ True ∧ True) ∧ (True) ∧ (∀ (h : Heap) (x0 x1 : Int) (x2 : AVal) (x3 x4 : Int), OI (s48c4 Ψ (s48l1_G (s48l1 Ψ n1)) (s48l3_G (s48l3 Ψ (s48l1_G (s48l1 Ψ n1)) n3)) x0 x1 x2 x3 x4 h)) ∧ (True)))) ∧ True)) ∧ True ∧ True ∧ True)) ⟨trivial, ⟨⟨trivial, ⟨⟨trivial, trivial⟩, trivial⟩⟩, ⟨trivial, ⟨⟨trivial, ⟨fun _ _ _ _ _ H => H, fun _ => ⟨fun _ _ _ _ _ H => H, ⟨⟨trivial, ⟨trivial, trivial⟩⟩, ⟨⟨trivial, fun _ _ _ _ _ H => H, ⟨trivial, ⟨fun _ _ _ _ _ _ H => H, fun _ => ⟨fun _ _ _ _ _ _ H => H, ⟨⟨trivial, ⟨trivial, trivial⟩⟩, ⟨trivial, fun _ _ _ _ _ _ H => H, trivial⟩⟩⟩⟩⟩⟩, trivial⟩⟩⟩⟩⟩, ⟨trivial, ⟨trivial, trivial⟩⟩⟩⟩⟩⟩)
    (Eq.mpr (by as_aux_lemma => kernel_rfl : evF prog f48 (s48_A Ψ) Ψ [(.int .i64 a), (.int .i64 b)] h = s48 Ψ a b h) H)

/- 50 (*dictum/dictumref03.T).Has -/
def s50 (Ψ : AVal → Heap → Prop) (t : AVal) (id_ : Int) (h : Heap) : Prop :=
  ifT (decide (0 ≤ id_)) (
    nilCheckA t fun p =>
    addOff p 0 fun p1 =>
    ld1 h p1 fun v =>
    lenN v fun n =>
    retG (.bool (decide (id_ < n))) h Ψ) (
    retG (.bool false) h Ψ)

def s50_A (Ψ : AVal → Heap → Prop) : Ann :=
  .seq (rA 1)
  (.seq (.reg [⟨none, [(0, false), (1, false), (2, false)]⟩, ⟨some (7, true), [(3, false), (4, false), (5, false), (6, false), (7, false), (8, false), (9, false)]⟩, ⟨none, [(10, false), (11, false)]⟩])
  (.leaf))

theorem s50_ok {Ψ : AVal → Heap → Prop} {t : AVal} {id_ : Int} {h : Heap} (H : s50 Ψ t id_ h) : ACalls prog 50 [t, (.int .i64 id_)] h Ψ :=
  calls_of_evF func50 (by kernel_rfl) (by kernel_rfl) (by kernel_rfl)
    (Eq.mpr (by as_aux_lemma => kernel_rfl : oblF prog f50 (s50_A Ψ) Ψ = (True ∧ True ∧ True)) ⟨trivial, ⟨trivial, trivial⟩⟩)
    (Eq.mpr (by as_aux_lemma => kernel_rfl : evF prog f50 (s50_A Ψ) Ψ [t, (.int .i64 id_)] h = s50 Ψ t id_ h) H)

/- 55 dictum/formula.From -/
abbrev s55l1_T := AVal → AVal → Int → Int → Heap → Prop
def s55l1_R (F : s55l1_T) (l : List AVal) (h : Heap) : Prop := J.cons l fun x0 l => J.cons l fun x1 l => J.cons l fun v l => J.int .i64 v fun x2 => J.cons l fun v l => J.int .i64 v fun x3 => J.nil l (F x0 x1 x2 x3 h)
def s55l1_G (F : s55l1_T) (x0 x1 : AVal) (x2 x3 : Int) (h : Heap) : Prop := gJ [.any, .any, .int .i64, .int .i64] [x0, x1, (.int .i64 x2), (.int .i64 x3)] h (s55l1_R F)
def s55l1_E (F : Nat → s55l1_T) (x0 x1 : AVal) (x2 x3 : Int) (h : Heap) : Prop := gJ [.any, .any, .int .i64, .int .i64] [x0, x1, (.int .i64 x2), (.int .i64 x3)] h (fun l h => ∃ n, s55l1_R (F n) l h)
theorem s55l1_go {F : s55l1_T} {x0 x1 : AVal} {x2 x3 : Int} {h : Heap} (H : F x0 x1 x2 x3 h) : s55l1_G F x0 x1 x2 x3 h := gJ_plain rfl H
theorem s55l1_in {F : Nat → s55l1_T} {x0 x1 : AVal} {x2 x3 : Int} {h : Heap} (n : Nat) (H : F n x0 x1 x2 x3 h) : s55l1_E F x0 x1 x2 x3 h := gJ_plain rfl ⟨n, H⟩

def s55c2 (Ψ : AVal → Heap → Prop) (L1 : s55l1_T) (t1 : AVal) (e : Int) (t10_1 : AVal) (t11_1 t12_1 : Int) (h : Heap) : Prop :=
  ifT (e != 0) (
    retG (.tuple [.nilptr, (.int .i64 e)]) h Ψ) (
    rg (t12_1 + 1) (
      L1 t1 t10_1 t11_1 (t12_1 + 1) h))

def s55c3 (Ψ : AVal → Heap → Prop) (L1 : s55l1_T) (t2 : AVal) (e1 : Int) (t10_2 : AVal) (t11_2 t12_2 : Int) (t29 : Bool) (h : Heap) : Prop :=
  ifT t29 (
    s55c2 Ψ L1 t2 31 t10_2 t11_2 t12_2 h) (
    s55c2 Ψ L1 t2 e1 t10_2 t11_2 t12_2 h)

def s55l1 (Ψ : AVal → Heap → Prop) : Nat → s55l1_T
  | 0, _, _, _, _, _ => False
  | n1 + 1, t, t10, t11, t12, h =>
    ifT (decide (t12 < t11)) (
      ixS 4 t10 t12 fun p =>
      ldN 4 h p fun l_ =>
      tCons l_ fun v1 l_1 =>
      tInt .i64 v1 fun v2 =>
      tCons l_1 fun v3 l_2 =>
      tStr v3 fun v4 =>
      tCons l_2 fun v5 l_3 =>
      tInt .i64 v5 fun v6 =>
      tCons l_3 fun v7 l_4 =>
      tInt .i64 v7 fun v8 =>
      tNil l_4 (
        Sym.newRow 4 [(.agg [(.int .i64 0), (.str (ByteArray.mk #[])), (.int .i64 0), (.int .i64 0)])] h fun r h_1 =>
        st false h_1 (.ptr r 0 0) [(.int .i64 v2), (.str v4), (.int .i64 v6), (.int .i64 v8)] fun h_2 =>
        ldN 4 h_2 (.ptr r 0 0) fun l_5 =>
        tCons l_5 fun v9 l_6 =>
        tInt .i64 v9 fun v10 =>
        tCons l_6 fun v11 l_7 =>
        tStr v11 fun v12 =>
        tCons l_7 fun v13 l_8 =>
        tInt .i64 v13 fun v14 =>
        tCons l_8 fun v15 l_9 =>
        tInt .i64 v15 fun v16 =>
        tNil l_9 (
          callG prog 99 [t, (.agg [(.int .i64 v10), (.str v12), (.int .i64 v14), (.int .i64 v16)])] h_2 fun v17 h_3 =>
          tTup v17 fun l_10 =>
          tCons l_10 fun v18 l_11 =>
          tInt .i64 v18 fun v19 =>
          tCons l_11 fun v20 l_12 =>
          tInt .i64 v20 fun v21 =>
          tNil l_12 (
            ifT (v21 == 0) (
              s55c3 Ψ (s55l1_G (s55l1 Ψ n1)) t v21 t10 t11 t12 (v19 != t12) h_3) (
              s55c3 Ψ (s55l1_G (s55l1 Ψ n1)) t v21 t10 t11 t12 false h_3))))) (
      retG (.tuple [t, (.int .i64 0)]) h Ψ)

def s55 (Ψ : AVal → Heap → Prop) (rows : AVal) (h : Heap) : Prop :=
  callG prog 22 [] h fun v h_ =>
  lenN rows fun n =>
  s55l1_E (s55l1 Ψ) v rows n 0 h_

def s55_A (Ψ : AVal → Heap → Prop) : Ann :=
  .seq (rA 2)
  (.seq (rA 2)
  (.seq (.seq (rA 3)
  (.block (.loop [(4, .any), (10, .any), (11, .int .i64), (12, .int .i64)] (fun n l h => s55l1_R (s55l1 Ψ n) l h) (fun L1 =>
  .seq (rA 1)
  (.seq (.cond (.leaf)
  (.leaf))
  (.seq (.block (.seq (rA 6)
  (.seq (rA 8)
  (.cut [(4, .any), (8, .int .i64), (10, .any), (11, .int .i64), (12, .int .i64)] (fun l h => J.cons l fun x0 l => J.cons l fun v l => J.int .i64 v fun x1 => J.cons l fun x2 l => J.cons l fun v l => J.int .i64 v fun x3 => J.cons l fun v l => J.int .i64 v fun x4 => J.nil l (s55c2 Ψ (fun y0 y1 y2 y3 h => L1 [y0, y1, (.int .i64 y2), (.int .i64 y3)] h) x0 x1 x2 x3 x4 h)) (.cut [(4, .any), (8, .int .i64), (10, .any), (11, .int .i64), (12, .int .i64), (29, .bool)] (fun l h => J.cons l fun x0 l => J.cons l fun v l => J.int .i64 v fun x1 => J.cons l fun x2 l => J.cons l fun v l => J.int .i64 v fun x3 => J.cons l fun v l => J.int .i64 v fun x4 => J.cons l fun v l => J.bool v fun x5 => J.nil l (s55c3 Ψ (fun y0 y1 y2 y3 h => L1 [y0, y1, (.int .i64 y2), (.int .i64 y3)] h) x0 x1 x2 x3 x4 x5 h)) (.reg [⟨none, [(0, false), (1, false), (2, false)]⟩, ⟨some (25, true), [(3, false), (4, false), (5, false)]⟩, ⟨none, [(6, false)]⟩])
  (.cond (rA 1)
  (.leaf)))
  (.seq (rA 2)
  (.cond (.seq (rA 3)
  (.leaf))
  (.leaf)))))))
  (rA 2)))))))
  (.seq (rA 3)
  (.leaf))))

theorem s55_ok {Ψ : AVal → Heap → Prop} {rows : AVal} {h : Heap} (H : s55 Ψ rows h) : ACalls prog 55 [rows] h Ψ :=
  calls_of_evF func55 (by kernel_rfl) (by kernel_rfl) (by kernel_rfl)
    (Eq.mpr (by as_aux_lemma => kernel_rfl : oblF prog f55 (s55_A Ψ) Ψ = (True ∧ True ∧ (True ∧ (∀ (h : Heap) (x0 x1 : AVal) (x2 x3 : Int), ON (s55l1 Ψ 0 x0 x1 x2 x3 h)) ∧ ∀ n1 : Nat, (∀ (h : Heap) (x0 x1 : AVal) (x2 x3 : Int), OI (s55l1 Ψ (n1 + 1) x0 x1 x2 x3 h)) ∧ (True ∧ (True ∧ True) ∧ (True ∧ True ∧ ((True) ∧ (∀ (h : Heap) (x0 : AVal) (x1 : Int) (x2 : AVal) (x3 x4 : Int) (x5 : Bool), OI (s55c3 Ψ (s55l1_G (s55l1 Ψ n1)) x0 x1 x2 x3 x4 x5 h)) ∧ (True ∧ True)) ∧ (∀ (h : Heap) (x0 : AVal) (x1 : Int) (x2 : AVal) (x3 x4 : Int), OI (s55c2 Ψ (s55l1_G (s55l1 Ψ n1)) x0 x1 x2 x3 x4 h)) ∧ (True ∧ (True ∧ True) ∧ True)) ∧ True)) ∧ True ∧ True)) ⟨trivial, ⟨trivial, ⟨⟨trivial, ⟨fun _ _ _ _ _ H => H, fun _ => ⟨fun _ _ _ _ _ H => H, ⟨trivial, ⟨⟨trivial, trivial⟩, ⟨⟨trivial, ⟨trivial, ⟨⟨trivial, fun _ _ _ _ _ _ _ H => H, ⟨trivial, trivial⟩⟩, fun _ _ _ _ _ _ H => H, ⟨trivial, ⟨⟨trivial, trivial⟩, trivial⟩⟩⟩⟩⟩, trivial⟩⟩⟩⟩⟩⟩, ⟨trivial, trivial⟩⟩⟩⟩)
    (Eq.mpr (by as_aux_lemma => kernel_rfl : evF prog f55 (s55_A Ψ) Ψ [rows] h = s55 Ψ rows h) H)

/- 57 dictum/formula.reserved -/
def s57c1 (Ψ : AVal → Heap → Prop) (t4 : Bool) (h : Heap) : Prop :=
  ifT t4 (
    retG (.bool true) h Ψ) (
    retG (.bool false) h Ψ)

def s57 (Ψ : AVal → Heap → Prop) (s : ByteArray) (h : Heap) : Prop :=
  ifT (strEq s (ByteArray.mk #[97, 98, 111, 114, 116])) (
    s57c1 Ψ (strEq s (ByteArray.mk #[97, 98, 111, 114, 116])) h) (
    ifT (strEq s (ByteArray.mk #[99, 97, 115, 101])) (
      s57c1 Ψ (strEq s (ByteArray.mk #[99, 97, 115, 101])) h) (
      ifT (strEq s (ByteArray.mk #[102, 97, 108, 115, 101])) (
        s57c1 Ψ (strEq s (ByteArray.mk #[102, 97, 108, 115, 101])) h) (
        ifT (strEq s (ByteArray.mk #[102, 115, 116])) (
          s57c1 Ψ (strEq s (ByteArray.mk #[102, 115, 116])) h) (
          ifT (strEq s (ByteArray.mk #[102, 117, 110])) (
            s57c1 Ψ (strEq s (ByteArray.mk #[102, 117, 110])) h) (
            ifT (strEq s (ByteArray.mk #[105, 110])) (
              s57c1 Ψ (strEq s (ByteArray.mk #[105, 110])) h) (
              ifT (strEq s (ByteArray.mk #[105, 110, 108])) (
                s57c1 Ψ (strEq s (ByteArray.mk #[105, 110, 108])) h) (
                ifT (strEq s (ByteArray.mk #[105, 110, 114])) (
                  s57c1 Ψ (strEq s (ByteArray.mk #[105, 110, 114])) h) (
                  ifT (strEq s (ByteArray.mk #[108, 101, 116])) (
                    s57c1 Ψ (strEq s (ByteArray.mk #[108, 101, 116])) h) (
                    ifT (strEq s (ByteArray.mk #[111, 102])) (
                      s57c1 Ψ (strEq s (ByteArray.mk #[111, 102])) h) (
                      ifT (strEq s (ByteArray.mk #[115, 110, 100])) (
                        s57c1 Ψ (strEq s (ByteArray.mk #[115, 110, 100])) h) (
                        s57c1 Ψ (strEq s (ByteArray.mk #[116, 114, 117, 101])) h)))))))))))

def s57_A (Ψ : AVal → Heap → Prop) : Ann :=
  .seq (rA 1)
  (.seq (.seq (rA 1)
  (.block (.cut [(4, .bool)] (fun l h => J.cons l fun v l => J.bool v fun x0 => J.nil l (s57c1 Ψ x0 h)) (.seq (rA 2)
  (.cond (.leaf)
  (.seq (rA 2)
  (.cond (.leaf)
  (.seq (rA 2)
  (.cond (.leaf)
  (.seq (rA 2)
  (.cond (.leaf)
  (.seq (rA 2)
  (.cond (.leaf)
  (.seq (rA 2)
  (.cond (.leaf)
  (.seq (rA 2)
  (.cond (.leaf)
  (.seq (rA 2)
  (.cond (.leaf)
  (.seq (rA 2)
  (.cond (.leaf)
  (.seq (rA 2)
  (.cond (.leaf)
  (.seq (rA 2)
  (.cond (.leaf)
  (rA 2)))))))))))))))))))))))
  (.cond (.seq (rA 1)
  (.leaf))
  (.leaf)))))
  (.seq (rA 1)
  (.leaf)))

theorem s57_ok {Ψ : AVal → Heap → Prop} {s : ByteArray} {h : Heap} (H : s57 Ψ s h) : ACalls prog 57 [(.str s)] h Ψ :=
  calls_of_evF func57 (by kernel_rfl) (by kernel_rfl) (by kernel_rfl)
    (Eq.mpr (by as_aux_lemma => kernel_rfl : oblF prog f57 (s57_A Ψ) Ψ = (True ∧ (True ∧ (True ∧ True ∧ True ∧ True ∧ True ∧ True ∧ True ∧ True ∧ True ∧ True ∧ True ∧ True ∧ True ∧ True ∧ True ∧ True ∧ True ∧ True ∧ True ∧ True ∧ True ∧ True ∧ True) ∧ (∀ (h : Heap) (x0 : Bool), OI (s57c1 Ψ x0 h)) ∧ ((True ∧ True) ∧ True)) ∧ True ∧ True)) ⟨trivial, ⟨⟨trivial, ⟨⟨trivial, ⟨trivial, ⟨trivial, ⟨trivial, ⟨trivial, ⟨trivial, ⟨trivial, ⟨trivial, ⟨trivial, ⟨trivial, ⟨trivial, ⟨trivial, ⟨trivial, ⟨trivial, ⟨trivial, ⟨trivial, ⟨trivial, ⟨trivial, ⟨trivial, ⟨trivial, ⟨trivial, ⟨trivial, trivial⟩⟩⟩⟩⟩⟩⟩⟩⟩⟩⟩⟩⟩⟩⟩⟩⟩⟩⟩⟩⟩⟩, fun _ _ H => H, ⟨⟨trivial, trivial⟩, trivial⟩⟩⟩, ⟨trivial, trivial⟩⟩⟩)
    (Eq.mpr (by as_aux_lemma => kernel_rfl : evF prog f57 (s57_A Ψ) Ψ [(.str s)] h = s57 Ψ s h) H)

/- 59 (*dictum/formula.Table).Imp -/
def s59 (Ψ : AVal → Heap → Prop) (t : AVal) (a : Int) (b : Int) (h : Heap) : Prop :=
  callG prog 99 [t, (.agg [(.int .i64 5), (.str (ByteArray.mk #[])), (.int .i64 a), (.int .i64 b)])] h fun v h_ =>
  tTup v fun l_ =>
  tCons l_ fun v1 l_1 =>
  tInt .i64 v1 fun v2 =>
  tCons l_1 fun v3 l_2 =>
  tInt .i64 v3 fun v4 =>
  tNil l_2 (
    retG (.tuple [(.int .i64 v2), (.int .i64 v4)]) h_ Ψ)

def s59_A (Ψ : AVal → Heap → Prop) : Ann :=
  .seq (rA 2)
  (.seq (rA 9)
  (.leaf))

theorem s59_ok {Ψ : AVal → Heap → Prop} {t : AVal} {a : Int} {b : Int} {h : Heap} (H : s59 Ψ t a b h) : ACalls prog 59 [t, (.int .i64 a), (.int .i64 b)] h Ψ :=
  calls_of_evF func59 (by kernel_rfl) (by kernel_rfl) (by kernel_rfl)
    (Eq.mpr (by as_aux_lemma => kernel_rfl : oblF prog f59 (s59_A Ψ) Ψ = (True ∧ True ∧ True)) ⟨trivial, ⟨trivial, trivial⟩⟩)
    (Eq.mpr (by as_aux_lemma => kernel_rfl : evF prog f59 (s59_A Ψ) Ψ [t, (.int .i64 a), (.int .i64 b)] h = s59 Ψ t a b h) H)

/- 61 (*dictum/formula.Table).Not -/
def s61 (Ψ : AVal → Heap → Prop) (t : AVal) (a : Int) (h : Heap) : Prop :=
  callG prog 56 [t] h fun v h_ =>
  tBool v fun v1 =>
  ifT (!v1) (
    retG (.tuple [(.int .i64 0), (.int .i64 1)]) h_ Ψ) (
    callG prog 75 [t, (.int .i64 a)] h_ fun v2 h_1 =>
    tBool v2 fun v3 =>
    ifT (!v3) (
      retG (.tuple [(.int .i64 0), (.int .i64 31)]) h_1 Ψ) (
      callG prog 58 [t] h_1 fun v4 h_2 =>
      tTup v4 fun l_ =>
      tCons l_ fun v5 l_1 =>
      tInt .i64 v5 fun v6 =>
      tCons l_1 fun v7 l_2 =>
      tInt .i64 v7 fun v8 =>
      tNil l_2 (
        ifT (v8 != 0) (
          retG (.tuple [(.int .i64 0), (.int .i64 v8)]) h_2 Ψ) (
          callG prog 59 [t, (.int .i64 a), (.int .i64 v6)] h_2 fun v9 h_3 =>
          tTup v9 fun l_3 =>
          tCons l_3 fun v10 l_4 =>
          tInt .i64 v10 fun v11 =>
          tCons l_4 fun v12 l_5 =>
          tInt .i64 v12 fun v13 =>
          tNil l_5 (
            retG (.tuple [(.int .i64 v11), (.int .i64 v13)]) h_3 Ψ)))))

def s61_A (Ψ : AVal → Heap → Prop) : Ann :=
  .seq (rA 2)
  (.seq (.block (.seq (rA 4)
  (.cond (.seq (rA 2)
  (.leaf))
  (.seq (rA 5)
  (.cond (.seq (rA 2)
  (.leaf))
  (.leaf))))))
  (.seq (rA 7)
  (.seq (.seq (rA 2)
  (.cond (.seq (rA 3)
  (.leaf))
  (.leaf)))
  (.seq (rA 8)
  (.leaf)))))

theorem s61_ok {Ψ : AVal → Heap → Prop} {t : AVal} {a : Int} {h : Heap} (H : s61 Ψ t a h) : ACalls prog 61 [t, (.int .i64 a)] h Ψ :=
  calls_of_evF func61 (by kernel_rfl) (by kernel_rfl) (by kernel_rfl)
    (Eq.mpr (by as_aux_lemma => kernel_rfl : oblF prog f61 (s61_A Ψ) Ψ = (True ∧ (True ∧ (True ∧ True) ∧ True ∧ (True ∧ True) ∧ True) ∧ True ∧ (True ∧ (True ∧ True) ∧ True) ∧ True ∧ True)) ⟨trivial, ⟨⟨trivial, ⟨⟨trivial, trivial⟩, ⟨trivial, ⟨⟨trivial, trivial⟩, trivial⟩⟩⟩⟩, ⟨trivial, ⟨⟨trivial, ⟨⟨trivial, trivial⟩, trivial⟩⟩, ⟨trivial, trivial⟩⟩⟩⟩⟩)
    (Eq.mpr (by as_aux_lemma => kernel_rfl : evF prog f61 (s61_A Ψ) Ψ [t, (.int .i64 a)] h = s61 Ψ t a h) H)

/- 63 dictum/dictumref03.letter -/
def s63 (Ψ : AVal → Heap → Prop) (c : Int) (h : Heap) : Prop :=
  ifT (decide (97 ≤ c)) (
    ifT (decide (c ≤ 122)) (
      retG (.bool true) h Ψ) (
      ifT (decide (65 ≤ c)) (
        retG (.bool (decide (c ≤ 90))) h Ψ) (
        retG (.bool false) h Ψ))) (
    ifT (decide (65 ≤ c)) (
      retG (.bool (decide (c ≤ 90))) h Ψ) (
      retG (.bool false) h Ψ))

def s63_A (Ψ : AVal → Heap → Prop) : Ann :=
  .seq (rA 1)
  (.seq (.reg [⟨none, [(0, false), (1, false), (2, false)]⟩, ⟨some (5, true), [(3, false), (4, false)]⟩, ⟨none, [(5, false), (6, false)]⟩, ⟨some (9, false), [(7, false), (8, false), (9, false)]⟩, ⟨some (12, true), [(10, false), (11, false)]⟩, ⟨some (9, false), [(12, false)]⟩, ⟨none, [(13, false), (14, false)]⟩])
  (.leaf))

theorem s63_ok {Ψ : AVal → Heap → Prop} {c : Int} {h : Heap} (H : s63 Ψ c h) : ACalls prog 63 [(.int .u8 c)] h Ψ :=
  calls_of_evF func63 (by kernel_rfl) (by kernel_rfl) (by kernel_rfl)
    (Eq.mpr (by as_aux_lemma => kernel_rfl : oblF prog f63 (s63_A Ψ) Ψ = (True ∧ True ∧ True)) ⟨trivial, ⟨trivial, trivial⟩⟩)
    (Eq.mpr (by as_aux_lemma => kernel_rfl : evF prog f63 (s63_A Ψ) Ψ [(.int .u8 c)] h = s63 Ψ c h) H)

/- 65 (*dictum/dictumref03.T).Bot -/
def s65 (Ψ : AVal → Heap → Prop) (t : AVal) (h : Heap) : Prop :=
  callG prog 98 [t, (.agg [(.int .i64 2), (.str (ByteArray.mk #[])), (.int .i64 0), (.int .i64 0)])] h fun v h_ =>
  tTup v fun l_ =>
  tCons l_ fun v1 l_1 =>
  tInt .i64 v1 fun v2 =>
  tCons l_1 fun v3 l_2 =>
  tInt .i64 v3 fun v4 =>
  tNil l_2 (
    retG (.tuple [(.int .i64 v2), (.int .i64 v4)]) h_ Ψ)

def s65_A (Ψ : AVal → Heap → Prop) : Ann :=
  .seq (rA 2)
  (.seq (rA 7)
  (.leaf))

theorem s65_ok {Ψ : AVal → Heap → Prop} {t : AVal} {h : Heap} (H : s65 Ψ t h) : ACalls prog 65 [t] h Ψ :=
  calls_of_evF func65 (by kernel_rfl) (by kernel_rfl) (by kernel_rfl)
    (Eq.mpr (by as_aux_lemma => kernel_rfl : oblF prog f65 (s65_A Ψ) Ψ = (True ∧ True ∧ True)) ⟨trivial, ⟨trivial, trivial⟩⟩)
    (Eq.mpr (by as_aux_lemma => kernel_rfl : evF prog f65 (s65_A Ψ) Ψ [t] h = s65 Ψ t h) H)

/- 67 (*dictum/dictumref03.T).Atom -/
def s67 (Ψ : AVal → Heap → Prop) (t : AVal) (name : ByteArray) (h : Heap) : Prop :=
  callG prog 98 [t, (.agg [(.int .i64 1), (.str name), (.int .i64 0), (.int .i64 0)])] h fun v h_ =>
  tTup v fun l_ =>
  tCons l_ fun v1 l_1 =>
  tInt .i64 v1 fun v2 =>
  tCons l_1 fun v3 l_2 =>
  tInt .i64 v3 fun v4 =>
  tNil l_2 (
    retG (.tuple [(.int .i64 v2), (.int .i64 v4)]) h_ Ψ)

def s67_A (Ψ : AVal → Heap → Prop) : Ann :=
  .seq (rA 2)
  (.seq (rA 8)
  (.leaf))

theorem s67_ok {Ψ : AVal → Heap → Prop} {t : AVal} {name : ByteArray} {h : Heap} (H : s67 Ψ t name h) : ACalls prog 67 [t, (.str name)] h Ψ :=
  calls_of_evF func67 (by kernel_rfl) (by kernel_rfl) (by kernel_rfl)
    (Eq.mpr (by as_aux_lemma => kernel_rfl : oblF prog f67 (s67_A Ψ) Ψ = (True ∧ True ∧ True)) ⟨trivial, ⟨trivial, trivial⟩⟩)
    (Eq.mpr (by as_aux_lemma => kernel_rfl : evF prog f67 (s67_A Ψ) Ψ [t, (.str name)] h = s67 Ψ t name h) H)

/- 69 (*dictum/dictumref03.T).Two -/
def s69 (Ψ : AVal → Heap → Prop) (t : AVal) (k : Int) (a : Int) (b : Int) (h : Heap) : Prop :=
  callG prog 98 [t, (.agg [(.int .i64 k), (.str (ByteArray.mk #[])), (.int .i64 a), (.int .i64 b)])] h fun v h_ =>
  tTup v fun l_ =>
  tCons l_ fun v1 l_1 =>
  tInt .i64 v1 fun v2 =>
  tCons l_1 fun v3 l_2 =>
  tInt .i64 v3 fun v4 =>
  tNil l_2 (
    retG (.tuple [(.int .i64 v2), (.int .i64 v4)]) h_ Ψ)

def s69_A (Ψ : AVal → Heap → Prop) : Ann :=
  .seq (rA 2)
  (.seq (rA 10)
  (.leaf))

theorem s69_ok {Ψ : AVal → Heap → Prop} {t : AVal} {k : Int} {a : Int} {b : Int} {h : Heap} (H : s69 Ψ t k a b h) : ACalls prog 69 [t, (.int .i64 k), (.int .i64 a), (.int .i64 b)] h Ψ :=
  calls_of_evF func69 (by kernel_rfl) (by kernel_rfl) (by kernel_rfl)
    (Eq.mpr (by as_aux_lemma => kernel_rfl : oblF prog f69 (s69_A Ψ) Ψ = (True ∧ True ∧ True)) ⟨trivial, ⟨trivial, trivial⟩⟩)
    (Eq.mpr (by as_aux_lemma => kernel_rfl : evF prog f69 (s69_A Ψ) Ψ [t, (.int .i64 k), (.int .i64 a), (.int .i64 b)] h = s69 Ψ t k a b h) H)

/- 71 (*dictum/formula.Table).Rows -/
def s71 (Ψ : AVal → Heap → Prop) (t : AVal) (h : Heap) : Prop :=
  callG prog 56 [t] h fun v h_ =>
  tBool v fun v1 =>
  ifT (!v1) (
    retG .nilsl h_ Ψ) (
    nilCheckA t fun p =>
    addOff p 0 fun p1 =>
    ld1 h_ p1 fun v2 =>
    callG prog 100 [v2] h_ fun v3 h_1 =>
    retG v3 h_1 Ψ)

def s71_A (Ψ : AVal → Heap → Prop) : Ann :=
  .seq (rA 1)
  (.seq (.seq (rA 3)
  (.cond (.seq (rA 1)
  (.leaf))
  (.leaf)))
  (.seq (rA 6)
  (.leaf)))

theorem s71_ok {Ψ : AVal → Heap → Prop} {t : AVal} {h : Heap} (H : s71 Ψ t h) : ACalls prog 71 [t] h Ψ :=
  calls_of_evF func71 (by kernel_rfl) (by kernel_rfl) (by kernel_rfl)
    (Eq.mpr (by as_aux_lemma => kernel_rfl : oblF prog f71 (s71_A Ψ) Ψ = (True ∧ (True ∧ (True ∧ True) ∧ True) ∧ True ∧ True)) ⟨trivial, ⟨⟨trivial, ⟨⟨trivial, trivial⟩, trivial⟩⟩, ⟨trivial, trivial⟩⟩⟩)
    (Eq.mpr (by as_aux_lemma => kernel_rfl : evF prog f71 (s71_A Ψ) Ψ [t] h = s71 Ψ t h) H)

/- 73 dictum/nishimura.of -/
def s73c1 (Ψ : AVal → Heap → Prop) (k1 : Int) (t2 : AVal) (t8 : Bool) (h : Heap) : Prop :=
  ifT t8 (
    st false h t2 [(.bool false), (.int .i64 0), (.bool false)] fun h_2 =>
    ldN 3 h_2 t2 fun l_4 =>
    tCons l_4 fun v6 l_5 =>
    tBool v6 fun v7 =>
    tCons l_5 fun v8 l_6 =>
    tInt .i64 v8 fun v9 =>
    tCons l_6 fun v10 l_7 =>
    tBool v10 fun v11 =>
    tNil l_7 (
      retG (.tuple [(.agg [(.bool v7), (.int .i64 v9), (.bool v11)]), (.bool false)]) h_2 Ψ)) (
    ifT (k1 == 0) (
      st false h t2 [(.bool false), (.int .i64 0), (.bool false)] fun h_3 =>
      ldN 3 h_3 t2 fun l_8 =>
      tCons l_8 fun v12 l_9 =>
      tBool v12 fun v13 =>
      tCons l_9 fun v14 l_10 =>
      tInt .i64 v14 fun v15 =>
      tCons l_10 fun v16 l_11 =>
      tBool v16 fun v17 =>
      tNil l_11 (
        retG (.tuple [(.agg [(.bool v13), (.int .i64 v15), (.bool v17)]), (.bool true)]) h_3 Ψ)) (
      2 ≠ (0 : Int) ∧
      ifT ((Int.tmod k1 2) == 1) (
        rg (k1 + 1) (
          2 ≠ (0 : Int) ∧
          rg (Int.tdiv (k1 + 1) 2) (
            st false h t2 [(.bool false), (.int .i64 (Int.tdiv (k1 + 1) 2)), (.bool false)] fun h_4 =>
            ldN 3 h_4 t2 fun l_12 =>
            tCons l_12 fun v18 l_13 =>
            tBool v18 fun v19 =>
            tCons l_13 fun v20 l_14 =>
            tInt .i64 v20 fun v21 =>
            tCons l_14 fun v22 l_15 =>
            tBool v22 fun v23 =>
            tNil l_15 (
              retG (.tuple [(.agg [(.bool v19), (.int .i64 v21), (.bool v23)]), (.bool true)]) h_4 Ψ)))) (
        2 ≠ (0 : Int) ∧
        rg (Int.tdiv k1 2) (
          rg ((Int.tdiv k1 2) - 1) (
            st false h t2 [(.bool false), (.int .i64 ((Int.tdiv k1 2) - 1)), (.bool true)] fun h_5 =>
            ldN 3 h_5 t2 fun l_16 =>
            tCons l_16 fun v24 l_17 =>
            tBool v24 fun v25 =>
            tCons l_17 fun v26 l_18 =>
            tInt .i64 v26 fun v27 =>
            tCons l_18 fun v28 l_19 =>
            tBool v28 fun v29 =>
            tNil l_19 (
              retG (.tuple [(.agg [(.bool v25), (.int .i64 v27), (.bool v29)]), (.bool true)]) h_5 Ψ))))))

def s73 (Ψ : AVal → Heap → Prop) (k : Int) (h : Heap) : Prop :=
  Sym.newRow 3 [(.agg [(.bool false), (.int .i64 0), (.bool false)])] h fun r h_ =>
  ifT (k == (-1)) (
    st false h_ (.ptr r 0 0) [(.bool true), (.int .i64 0), (.bool false)] fun h_1 =>
    ldN 3 h_1 (.ptr r 0 0) fun l_ =>
    tCons l_ fun v l_1 =>
    tBool v fun v1 =>
    tCons l_1 fun v2 l_2 =>
    tInt .i64 v2 fun v3 =>
    tCons l_2 fun v4 l_3 =>
    tBool v4 fun v5 =>
    tNil l_3 (
      retG (.tuple [(.agg [(.bool v1), (.int .i64 v3), (.bool v5)]), (.bool true)]) h_1 Ψ)) (
    ifT (decide (k < 0)) (
      s73c1 Ψ k (.ptr r 0 0) true h_) (
      s73c1 Ψ k (.ptr r 0 0) (decide (4096 < k)) h_))

def s73_A (Ψ : AVal → Heap → Prop) : Ann :=
  .seq (rA 2)
  (.seq (.block (.seq (rA 3)
  (.cond (.seq (rA 3)
  (.leaf))
  (.cut [(0, .int .i64), (2, .any), (8, .bool)] (fun l h => J.cons l fun v l => J.int .i64 v fun x0 => J.cons l fun x1 l => J.cons l fun v l => J.bool v fun x2 => J.nil l (s73c1 Ψ x0 x1 x2 h)) (.reg [⟨none, [(0, false), (1, false), (2, false)]⟩, ⟨some (11, false), [(3, false), (4, false)]⟩, ⟨none, [(5, false), (6, false)]⟩])
  (.cond (.seq (rA 3)
  (.leaf))
  (.seq (rA 3)
  (.cond (.seq (rA 3)
  (.leaf))
  (.seq (rA 4)
  (.cond (.seq (rA 6)
  (.leaf))
  (.leaf))))))))))
  (.seq (rA 6)
  (.leaf)))

theorem s73_ok {Ψ : AVal → Heap → Prop} {k : Int} {h : Heap} (H : s73 Ψ k h) : ACalls prog 73 [(.int .i64 k)] h Ψ :=
  calls_of_evF func73 (by kernel_rfl) (by kernel_rfl) (by kernel_rfl)
    (Eq.mpr (by as_aux_lemma => kernel_rfl : oblF prog f73 (s73_A Ψ) Ψ = (True ∧ (True ∧ (True ∧ True) ∧ (True) ∧ (∀ (h : Heap) (x0 : Int) (x1 : AVal) (x2 : Bool), OI (s73c1 Ψ x0 x1 x2 h)) ∧ ((True ∧ True) ∧ True ∧ (True ∧ True) ∧ True ∧ (True ∧ True) ∧ True)) ∧ True ∧ True)) ⟨trivial, ⟨⟨trivial, ⟨⟨trivial, trivial⟩, ⟨trivial, fun _ _ _ _ H => H, ⟨⟨trivial, trivial⟩, ⟨trivial, ⟨⟨trivial, trivial⟩, ⟨trivial, ⟨⟨trivial, trivial⟩, trivial⟩⟩⟩⟩⟩⟩⟩⟩, ⟨trivial, trivial⟩⟩⟩)
    (Eq.mpr (by as_aux_lemma => kernel_rfl : evF prog f73 (s73_A Ψ) Ψ [(.int .i64 k)] h = s73 Ψ k h) H)

/- 75 (*dictum/formula.Table).has -/
def s75 (Ψ : AVal → Heap → Prop) (t : AVal) (id_ : Int) (h : Heap) : Prop :=
  ifT (decide (0 ≤ id_)) (
    nilCheckA t fun p =>
    addOff p 0 fun p1 =>
    ld1 h p1 fun v =>
    lenN v fun n =>
    retG (.bool (decide (id_ < n))) h Ψ) (
    retG (.bool false) h Ψ)

def s75_A (Ψ : AVal → Heap → Prop) : Ann :=
  .seq (rA 1)
  (.seq (.reg [⟨none, [(0, false), (1, false), (2, false)]⟩, ⟨some (7, true), [(3, false), (4, false), (5, false), (6, false), (7, false), (8, false), (9, false)]⟩, ⟨none, [(10, false), (11, false)]⟩])
  (.leaf))

theorem s75_ok {Ψ : AVal → Heap → Prop} {t : AVal} {id_ : Int} {h : Heap} (H : s75 Ψ t id_ h) : ACalls prog 75 [t, (.int .i64 id_)] h Ψ :=
  calls_of_evF func75 (by kernel_rfl) (by kernel_rfl) (by kernel_rfl)
    (Eq.mpr (by as_aux_lemma => kernel_rfl : oblF prog f75 (s75_A Ψ) Ψ = (True ∧ True ∧ True)) ⟨trivial, ⟨trivial, trivial⟩⟩)
    (Eq.mpr (by as_aux_lemma => kernel_rfl : evF prog f75 (s75_A Ψ) Ψ [t, (.int .i64 id_)] h = s75 Ψ t id_ h) H)

/- 77 dictum/dictumref17.Names -/
abbrev s77l1_T := AVal → AVal → Int → Heap → Prop
def s77l1_R (F : s77l1_T) (l : List AVal) (h : Heap) : Prop := J.cons l fun x0 l => J.cons l fun x1 l => J.cons l fun v l => J.int .i64 v fun x2 => J.nil l (F x0 x1 x2 h)
def s77l1_G (F : s77l1_T) (x0 x1 : AVal) (x2 : Int) (h : Heap) : Prop := gJ [.any, .any, .int .i64] [x0, x1, (.int .i64 x2)] h (s77l1_R F)
def s77l1_E (F : Nat → s77l1_T) (x0 x1 : AVal) (x2 : Int) (h : Heap) : Prop := gJ [.any, .any, .int .i64] [x0, x1, (.int .i64 x2)] h (fun l h => ∃ n, s77l1_R (F n) l h)
theorem s77l1_go {F : s77l1_T} {x0 x1 : AVal} {x2 : Int} {h : Heap} (H : F x0 x1 x2 h) : s77l1_G F x0 x1 x2 h := gJ_plain rfl H
theorem s77l1_in {F : Nat → s77l1_T} {x0 x1 : AVal} {x2 : Int} {h : Heap} (n : Nat) (H : F n x0 x1 x2 h) : s77l1_E F x0 x1 x2 h := gJ_plain rfl ⟨n, H⟩

def s77l1 (Ψ : AVal → Heap → Prop) : Nat → s77l1_T
  | 0, _, _, _, _ => False
  | n2 + 1, a1, b1, i, h =>
    lenN a1 fun n3 =>
    ifT (decide (i < n3)) (
      ixS 1 a1 i fun p =>
      ld1 h p fun v =>
      tStr v fun v1 =>
      ixS 1 b1 i fun p1 =>
      ld1 h p1 fun v2 =>
      tStr v2 fun v3 =>
      ifT (!strEq v1 v3) (
        retG (.bool false) h Ψ) (
        rg (i + 1) (
          s77l1_G (s77l1 Ψ n2) a1 b1 (i + 1) h))) (
      retG (.bool true) h Ψ)

def s77 (Ψ : AVal → Heap → Prop) (a : AVal) (b : AVal) (h : Heap) : Prop :=
  lenN a fun n =>
  lenN b fun n1 =>
  ifT (n != n1) (
    retG (.bool false) h Ψ) (
    s77l1_E (s77l1 Ψ) a b 0 h)

def s77_A (Ψ : AVal → Heap → Prop) : Ann :=
  .seq (rA 1)
  (.seq (.seq (rA 5)
  (.cond (.seq (rA 1)
  (.leaf))
  (.leaf)))
  (.seq (.seq (rA 1)
  (.block (.loop [(0, .any), (1, .any), (5, .int .i64)] (fun n l h => s77l1_R (s77l1 Ψ n) l h) (fun L1 =>
  .seq (.seq (rA 4)
  (.cond (.leaf)
  (.leaf)))
  (.seq (.block (.seq (.draw [(0, false), (1, false), (2, false), (3, false), (4, false), (5, false), (6, false), (7, false), (8, false)] [0, 0, 3, 7, 0, 0, 48, 112, 255])
  (.cond (.seq (rA 1)
  (.leaf))
  (.leaf))))
  (rA 3))))))
  (.seq (rA 1)
  (.leaf))))

theorem s77_ok {Ψ : AVal → Heap → Prop} {a : AVal} {b : AVal} {h : Heap} (H : s77 Ψ a b h) : ACalls prog 77 [a, b] h Ψ :=
  calls_of_evF func77 (by kernel_rfl) (by kernel_rfl) (by kernel_rfl)
    (Eq.mpr (by as_aux_lemma => kernel_rfl : oblF prog f77 (s77_A Ψ) Ψ = (True ∧ (True ∧ (True ∧ True) ∧ True) ∧ (True ∧ (∀ (h : Heap) (x0 x1 : AVal) (x2 : Int), ON (s77l1 Ψ 0 x0 x1 x2 h)) ∧ ∀ n1 : Nat, (∀ (h : Heap) (x0 x1 : AVal) (x2 : Int), OI (s77l1 Ψ (n1 + 1) x0 x1 x2 h)) ∧ ((True ∧ True ∧ True) ∧ (True ∧ (True ∧ True) ∧ True) ∧ True)) ∧ True ∧ True)) ⟨trivial, ⟨⟨trivial, ⟨⟨trivial, trivial⟩, trivial⟩⟩, ⟨⟨trivial, ⟨fun _ _ _ _ H => H, fun _ => ⟨fun _ _ _ _ H => H, ⟨⟨trivial, ⟨trivial, trivial⟩⟩, ⟨⟨trivial, ⟨⟨trivial, trivial⟩, trivial⟩⟩, trivial⟩⟩⟩⟩⟩, ⟨trivial, trivial⟩⟩⟩⟩)
    (Eq.mpr (by as_aux_lemma => kernel_rfl : evF prog f77 (s77_A Ψ) Ψ [a, b] h = s77 Ψ a b h) H)

/- 79 slices.Sort[[]string,string] -/
def s79 (Ψ : AVal → Heap → Prop) (x : AVal) (h : Heap) : Prop :=
  lenN x fun n =>
  callG prog 102 [(.int .u64 (IntKind.u64.wrap n))] h fun v h_ =>
  tInt .i64 v fun v1 =>
  callG prog 101 [x, (.int .i64 0), (.int .i64 n), (.int .i64 v1)] h_ fun v2 h_1 =>
  retG (.tuple []) h_1 Ψ

def s79_A (Ψ : AVal → Heap → Prop) : Ann :=
  .seq (rA 3)
  (rA 6)

theorem s79_ok {Ψ : AVal → Heap → Prop} {x : AVal} {h : Heap} (H : s79 Ψ x h) : ACalls prog 79 [x] h Ψ :=
  calls_of_evF func79 (by kernel_rfl) (by kernel_rfl) (by kernel_rfl)
    (Eq.mpr (by as_aux_lemma => kernel_rfl : oblF prog f79 (s79_A Ψ) Ψ = (True ∧ True)) ⟨trivial, trivial⟩)
    (Eq.mpr (by as_aux_lemma => kernel_rfl : evF prog f79 (s79_A Ψ) Ψ [x] h = s79 Ψ x h) H)

/- 82 dictum/nishimura.set -/
abbrev s82l1_T := AVal → AVal → Int → Int → Heap → Prop
def s82l1_R (F : s82l1_T) (l : List AVal) (h : Heap) : Prop := J.cons l fun x0 l => J.cons l fun x1 l => J.cons l fun v l => J.int .i64 v fun x2 => J.cons l fun v l => J.int .i64 v fun x3 => J.nil l (F x0 x1 x2 x3 h)
def s82l1_G (F : s82l1_T) (x0 x1 : AVal) (x2 x3 : Int) (h : Heap) : Prop := gJ [.any, .any, .int .i64, .int .i64] [x0, x1, (.int .i64 x2), (.int .i64 x3)] h (s82l1_R F)
def s82l1_E (F : Nat → s82l1_T) (x0 x1 : AVal) (x2 x3 : Int) (h : Heap) : Prop := gJ [.any, .any, .int .i64, .int .i64] [x0, x1, (.int .i64 x2), (.int .i64 x3)] h (fun l h => ∃ n, s82l1_R (F n) l h)
theorem s82l1_go {F : s82l1_T} {x0 x1 : AVal} {x2 x3 : Int} {h : Heap} (H : F x0 x1 x2 x3 h) : s82l1_G F x0 x1 x2 x3 h := gJ_plain rfl H
theorem s82l1_in {F : Nat → s82l1_T} {x0 x1 : AVal} {x2 x3 : Int} {h : Heap} (n : Nat) (H : F n x0 x1 x2 x3 h) : s82l1_E F x0 x1 x2 x3 h := gJ_plain rfl ⟨n, H⟩

def s82l1 (Ψ : AVal → Heap → Prop) : Nat → s82l1_T
  | 0, _, _, _, _, _ => False
  | n + 1, in_1, t4, t6, t7, h =>
    ifT (decide (t7 < t6)) (
      callV prog in_1 [(.int .i64 t7)] h fun v h_1 =>
      tBool v fun v1 =>
      ifT (!v1) (
        rg (t7 + 1) (
          callV prog in_1 [(.int .i64 (t7 + 1))] h_1 fun v2 h_2 =>
          tBool v2 fun v3 =>
          st false h_2 t4 [(.bool false), (.int .i64 t7), (.bool v3)] fun h_3 =>
          ldN 3 h_3 t4 fun l_ =>
          tCons l_ fun v4 l_1 =>
          tBool v4 fun v5 =>
          tCons l_1 fun v6 l_2 =>
          tInt .i64 v6 fun v7 =>
          tCons l_2 fun v8 l_3 =>
          tBool v8 fun v9 =>
          tNil l_3 (
            retG (.agg [(.bool v5), (.int .i64 v7), (.bool v9)]) h_3 Ψ))) (
        rg (t7 + 1) (
          s82l1_G (s82l1 Ψ n) in_1 t4 t6 (t7 + 1) h_1))) (
      st false h t4 [(.bool true), (.int .i64 0), (.bool false)] fun h_4 =>
      ldN 3 h_4 t4 fun l_4 =>
      tCons l_4 fun v10 l_5 =>
      tBool v10 fun v11 =>
      tCons l_5 fun v12 l_6 =>
      tInt .i64 v12 fun v13 =>
      tCons l_6 fun v14 l_7 =>
      tBool v14 fun v15 =>
      tNil l_7 (
        retG (.agg [(.bool v11), (.int .i64 v13), (.bool v15)]) h_4 Ψ))

def s82 (Ψ : AVal → Heap → Prop) (far : Int) (in_ : AVal) (h : Heap) : Prop :=
  Sym.newRow 3 [(.agg [(.bool false), (.int .i64 0), (.bool false)])] h fun r h_ =>
  s82l1_E (s82l1 Ψ) in_ (.ptr r 0 0) far 0 h_

def s82_A (Ψ : AVal → Heap → Prop) : Ann :=
  .seq (rA 1)
  (.seq (.seq (rA 2)
  (.block (.loop [(1, .any), (4, .any), (6, .int .i64), (7, .int .i64)] (fun n l h => s82l1_R (s82l1 Ψ n) l h) (fun L1 =>
  .seq (rA 1)
  (.seq (.cond (.leaf)
  (.leaf))
  (.seq (.block (.seq (rA 2)
  (.seq (rA 4)
  (.cond (.seq (rA 7)
  (.leaf))
  (.leaf)))))
  (rA 2)))))))
  (.seq (rA 2)
  (.leaf)))

theorem s82_ok {Ψ : AVal → Heap → Prop} {far : Int} {in_ : AVal} {h : Heap} (H : s82 Ψ far in_ h) : ACalls prog 82 [(.int .i64 far), in_] h Ψ :=
  calls_of_evF func82 (by kernel_rfl) (by kernel_rfl) (by kernel_rfl)
    (Eq.mpr (by as_aux_lemma => kernel_rfl : oblF prog f82 (s82_A Ψ) Ψ = (True ∧ (True ∧ (∀ (h : Heap) (x0 x1 : AVal) (x2 x3 : Int), ON (s82l1 Ψ 0 x0 x1 x2 x3 h)) ∧ ∀ n1 : Nat, (∀ (h : Heap) (x0 x1 : AVal) (x2 x3 : Int), OI (s82l1 Ψ (n1 + 1) x0 x1 x2 x3 h)) ∧ (True ∧ (True ∧ True) ∧ (True ∧ True ∧ (True ∧ True) ∧ True) ∧ True)) ∧ True ∧ True)) ⟨trivial, ⟨⟨trivial, ⟨fun _ _ _ _ _ H => H, fun _ => ⟨fun _ _ _ _ _ H => H, ⟨trivial, ⟨⟨trivial, trivial⟩, ⟨⟨trivial, ⟨trivial, ⟨⟨trivial, trivial⟩, trivial⟩⟩⟩, trivial⟩⟩⟩⟩⟩⟩, ⟨trivial, trivial⟩⟩⟩)
    (Eq.mpr (by as_aux_lemma => kernel_rfl : evF prog f82 (s82_A Ψ) Ψ [(.int .i64 far), in_] h = s82 Ψ far in_ h) H)

/- 84 dictum/nishimura.meet$1 -/
def s84 (Ψ : AVal → Heap → Prop) (w : Int) (c0 : AVal) (c1 : AVal) (h : Heap) : Prop :=
  ldN 3 h c0 fun l_ =>
  tCons l_ fun v l_1 =>
  tBool v fun v1 =>
  tCons l_1 fun v2 l_2 =>
  tInt .i64 v2 fun v3 =>
  tCons l_2 fun v4 l_3 =>
  tBool v4 fun v5 =>
  tNil l_3 (
    callG prog 85 [(.agg [(.bool v1), (.int .i64 v3), (.bool v5)]), (.int .i64 w)] h fun v6 h_ =>
    tBool v6 fun v7 =>
    ifT v7 (
      ldN 3 h_ c1 fun l_4 =>
      tCons l_4 fun v8 l_5 =>
      tBool v8 fun v9 =>
      tCons l_5 fun v10 l_6 =>
      tInt .i64 v10 fun v11 =>
      tCons l_6 fun v12 l_7 =>
      tBool v12 fun v13 =>
      tNil l_7 (
        callG prog 85 [(.agg [(.bool v9), (.int .i64 v11), (.bool v13)]), (.int .i64 w)] h_ fun v14 h_1 =>
        tBool v14 fun v15 =>
        retG (.bool v15) h_1 Ψ)) (
      retG (.bool false) h_ Ψ))

def s84_A (Ψ : AVal → Heap → Prop) : Ann :=
  .seq (rA 1)
  (.seq (.reg [⟨none, [(0, false), (1, false), (2, false), (3, false)]⟩, ⟨some (8, true), [(4, false), (5, false), (6, false)]⟩, ⟨none, [(7, false), (8, false)]⟩])
  (.leaf))

theorem s84_ok {Ψ : AVal → Heap → Prop} {w : Int} {c0 : AVal} {c1 : AVal} {h : Heap} (H : s84 Ψ w c0 c1 h) : ACalls prog 84 [(.int .i64 w), c0, c1] h Ψ :=
  calls_of_evF func84 (by kernel_rfl) (by kernel_rfl) (by kernel_rfl)
    (Eq.mpr (by as_aux_lemma => kernel_rfl : oblF prog f84 (s84_A Ψ) Ψ = (True ∧ True ∧ True)) ⟨trivial, ⟨trivial, trivial⟩⟩)
    (Eq.mpr (by as_aux_lemma => kernel_rfl : evF prog f84 (s84_A Ψ) Ψ [(.int .i64 w), c0, c1] h = s84 Ψ w c0 c1 h) H)

/- 86 dictum/nishimura.join$1 -/
def s86 (Ψ : AVal → Heap → Prop) (w : Int) (c0 : AVal) (c1 : AVal) (h : Heap) : Prop :=
  ldN 3 h c0 fun l_ =>
  tCons l_ fun v l_1 =>
  tBool v fun v1 =>
  tCons l_1 fun v2 l_2 =>
  tInt .i64 v2 fun v3 =>
  tCons l_2 fun v4 l_3 =>
  tBool v4 fun v5 =>
  tNil l_3 (
    callG prog 85 [(.agg [(.bool v1), (.int .i64 v3), (.bool v5)]), (.int .i64 w)] h fun v6 h_ =>
    tBool v6 fun v7 =>
    ifT v7 (
      retG (.bool true) h_ Ψ) (
      ldN 3 h_ c1 fun l_4 =>
      tCons l_4 fun v8 l_5 =>
      tBool v8 fun v9 =>
      tCons l_5 fun v10 l_6 =>
      tInt .i64 v10 fun v11 =>
      tCons l_6 fun v12 l_7 =>
      tBool v12 fun v13 =>
      tNil l_7 (
        callG prog 85 [(.agg [(.bool v9), (.int .i64 v11), (.bool v13)]), (.int .i64 w)] h_ fun v14 h_1 =>
        tBool v14 fun v15 =>
        retG (.bool v15) h_1 Ψ)))

def s86_A (Ψ : AVal → Heap → Prop) : Ann :=
  .seq (rA 1)
  (.seq (.reg [⟨none, [(0, false), (1, false), (2, false), (3, false)]⟩, ⟨some (8, false), [(4, false), (5, false), (6, false)]⟩, ⟨none, [(7, false), (8, false)]⟩])
  (.leaf))

theorem s86_ok {Ψ : AVal → Heap → Prop} {w : Int} {c0 : AVal} {c1 : AVal} {h : Heap} (H : s86 Ψ w c0 c1 h) : ACalls prog 86 [(.int .i64 w), c0, c1] h Ψ :=
  calls_of_evF func86 (by kernel_rfl) (by kernel_rfl) (by kernel_rfl)
    (Eq.mpr (by as_aux_lemma => kernel_rfl : oblF prog f86 (s86_A Ψ) Ψ = (True ∧ True ∧ True)) ⟨trivial, ⟨trivial, trivial⟩⟩)
    (Eq.mpr (by as_aux_lemma => kernel_rfl : evF prog f86 (s86_A Ψ) Ψ [(.int .i64 w), c0, c1] h = s86 Ψ w c0 c1 h) H)

/- 88 dictum/dictumref06.Occurs -/
abbrev s88l2_T := AVal → Int → Int → AVal → AVal → Int → Heap → Prop
def s88l2_R (F : s88l2_T) (l : List AVal) (h : Heap) : Prop := J.cons l fun x0 l => J.cons l fun v l => J.int .i64 v fun x1 => J.cons l fun v l => J.int .i64 v fun x2 => J.cons l fun x3 l => J.cons l fun x4 l => J.cons l fun v l => J.int .i64 v fun x5 => J.nil l (F x0 x1 x2 x3 x4 x5 h)
def s88l2_G (F : s88l2_T) (x0 : AVal) (x1 x2 : Int) (x3 x4 : AVal) (x5 : Int) (h : Heap) : Prop := gJ [.any, .int .i64, .int .i64, .any, .any, .int .i64] [x0, (.int .i64 x1), (.int .i64 x2), x3, x4, (.int .i64 x5)] h (s88l2_R F)
def s88l2_E (F : Nat → s88l2_T) (x0 : AVal) (x1 x2 : Int) (x3 x4 : AVal) (x5 : Int) (h : Heap) : Prop := gJ [.any, .int .i64, .int .i64, .any, .any, .int .i64] [x0, (.int .i64 x1), (.int .i64 x2), x3, x4, (.int .i64 x5)] h (fun l h => ∃ n, s88l2_R (F n) l h)
theorem s88l2_go {F : s88l2_T} {x0 : AVal} {x1 x2 : Int} {x3 x4 : AVal} {x5 : Int} {h : Heap} (H : F x0 x1 x2 x3 x4 x5 h) : s88l2_G F x0 x1 x2 x3 x4 x5 h := gJ_plain rfl H
theorem s88l2_in {F : Nat → s88l2_T} {x0 : AVal} {x1 x2 : Int} {x3 x4 : AVal} {x5 : Int} {h : Heap} (n : Nat) (H : F n x0 x1 x2 x3 x4 x5 h) : s88l2_E F x0 x1 x2 x3 x4 x5 h := gJ_plain rfl ⟨n, H⟩

def s88c3 (Ψ : AVal → Heap → Prop) (L2 : s88l2_T) (t3 : AVal) (part3 id_3 : Int) (pos1 neg1 : AVal) (i1 : Int) (h : Heap) : Prop :=
  rg (i1 - 1) (
    L2 t3 part3 id_3 pos1 neg1 (i1 - 1) h)

def s88c5 (Ψ : AVal → Heap → Prop) (L2 : s88l2_T) (t5 : AVal) (part5 id_5 : Int) (pos3 neg3 : AVal) (i3 : Int) (n4 : AVal) (p10 q : Int) (h : Heap) : Prop :=
  addOff n4 3 fun p11 =>
  ld1 h p11 fun v17 =>
  tInt .i64 v17 fun v18 =>
  addOff n4 3 fun p12 =>
  ld1 h p12 fun v19 =>
  tInt .i64 v19 fun v20 =>
  ixS 1 pos3 v20 fun p13 =>
  ld1 h p13 fun v21 =>
  tInt .i64 v21 fun v22 =>
  callG prog 106 [(.int .i64 v22), (.int .i64 p10)] h fun v23 h_5 =>
  tInt .i64 v23 fun v24 =>
  (ld1 h_5 p11 fun v25 =>
  v25 = (.int .i64 v18)) ∧
  ixS 1 pos3 v18 fun p14 =>
  st true h_5 p14 [(.int .i64 v24)] fun h_6 =>
  addOff n4 3 fun p15 =>
  ld1 h_6 p15 fun v26 =>
  tInt .i64 v26 fun v27 =>
  addOff n4 3 fun p16 =>
  ld1 h_6 p16 fun v28 =>
  tInt .i64 v28 fun v29 =>
  ixS 1 neg3 v29 fun p17 =>
  ld1 h_6 p17 fun v30 =>
  tInt .i64 v30 fun v31 =>
  callG prog 106 [(.int .i64 v31), (.int .i64 q)] h_6 fun v32 h_7 =>
  tInt .i64 v32 fun v33 =>
  (ld1 h_7 p15 fun v34 =>
  v34 = (.int .i64 v27)) ∧
  ixS 1 neg3 v27 fun p18 =>
  st true h_7 p18 [(.int .i64 v33)] fun h_8 =>
  s88c3 Ψ L2 t5 part5 id_5 pos3 neg3 i3 h_8

def s88c4 (Ψ : AVal → Heap → Prop) (L2 : s88l2_T) (t4 : AVal) (part4 id_4 : Int) (pos2 neg2 : AVal) (i2 : Int) (n3 : AVal) (t67 : Bool) (h : Heap) : Prop :=
  ifT t67 (
    s88c3 Ψ L2 t4 part4 id_4 pos2 neg2 i2 h) (
    ixS 1 pos2 i2 fun p8 =>
    ld1 h p8 fun v13 =>
    tInt .i64 v13 fun v14 =>
    ixS 1 neg2 i2 fun p9 =>
    ld1 h p9 fun v15 =>
    tInt .i64 v15 fun v16 =>
    addOff n3 0 fun p19 =>
    ld1 h p19 fun v35 =>
    tInt .i64 v35 fun v36 =>
    ifT (v36 == 5) (
      addOff n3 2 fun p20 =>
      ld1 h p20 fun v37 =>
      tInt .i64 v37 fun v38 =>
      addOff n3 2 fun p21 =>
      ld1 h p21 fun v39 =>
      tInt .i64 v39 fun v40 =>
      ixS 1 pos2 v40 fun p22 =>
      ld1 h p22 fun v41 =>
      tInt .i64 v41 fun v42 =>
      callG prog 106 [(.int .i64 v42), (.int .i64 v16)] h fun v43 h_9 =>
      tInt .i64 v43 fun v44 =>
      (ld1 h_9 p20 fun v45 =>
      v45 = (.int .i64 v38)) ∧
      ixS 1 pos2 v38 fun p23 =>
      st true h_9 p23 [(.int .i64 v44)] fun h_10 =>
      addOff n3 2 fun p24 =>
      ld1 h_10 p24 fun v46 =>
      tInt .i64 v46 fun v47 =>
      addOff n3 2 fun p25 =>
      ld1 h_10 p25 fun v48 =>
      tInt .i64 v48 fun v49 =>
      ixS 1 neg2 v49 fun p26 =>
      ld1 h_10 p26 fun v50 =>
      tInt .i64 v50 fun v51 =>
      callG prog 106 [(.int .i64 v51), (.int .i64 v14)] h_10 fun v52 h_11 =>
      tInt .i64 v52 fun v53 =>
      (ld1 h_11 p24 fun v54 =>
      v54 = (.int .i64 v47)) ∧
      ixS 1 neg2 v47 fun p27 =>
      st true h_11 p27 [(.int .i64 v53)] fun h_12 =>
      s88c5 Ψ L2 t4 part4 id_4 pos2 neg2 i2 n3 v14 v16 h_12) (
      addOff n3 2 fun p28 =>
      ld1 h p28 fun v55 =>
      tInt .i64 v55 fun v56 =>
      addOff n3 2 fun p29 =>
      ld1 h p29 fun v57 =>
      tInt .i64 v57 fun v58 =>
      ixS 1 pos2 v58 fun p30 =>
      ld1 h p30 fun v59 =>
      tInt .i64 v59 fun v60 =>
      callG prog 106 [(.int .i64 v60), (.int .i64 v14)] h fun v61 h_13 =>
      tInt .i64 v61 fun v62 =>
      (ld1 h_13 p28 fun v63 =>
      v63 = (.int .i64 v56)) ∧
      ixS 1 pos2 v56 fun p31 =>
      st true h_13 p31 [(.int .i64 v62)] fun h_14 =>
      addOff n3 2 fun p32 =>
      ld1 h_14 p32 fun v64 =>
      tInt .i64 v64 fun v65 =>
      addOff n3 2 fun p33 =>
      ld1 h_14 p33 fun v66 =>
      tInt .i64 v66 fun v67 =>
      ixS 1 neg2 v67 fun p34 =>
      ld1 h_14 p34 fun v68 =>
      tInt .i64 v68 fun v69 =>
      callG prog 106 [(.int .i64 v69), (.int .i64 v16)] h_14 fun v70 h_15 =>
      tInt .i64 v70 fun v71 =>
      (ld1 h_15 p32 fun v72 =>
      v72 = (.int .i64 v65)) ∧
      ixS 1 neg2 v65 fun p35 =>
      st true h_15 p35 [(.int .i64 v71)] fun h_16 =>
      s88c5 Ψ L2 t4 part4 id_4 pos2 neg2 i2 n3 v14 v16 h_16))

def s88l2 (Ψ : AVal → Heap → Prop) : Nat → s88l2_T
  | 0, _, _, _, _, _, _, _ => False
  | n2 + 1, t2, part2, id_2, pos, neg, i, h =>
    ifT (decide (part2 < i)) (
      nilCheckA t2 fun p5 =>
      addOff p5 0 fun p6 =>
      ld1 h p6 fun v4 =>
      ixS 4 v4 i fun p7 =>
      ldN 4 h p7 fun l_ =>
      tCons l_ fun v5 l_1 =>
      tInt .i64 v5 fun v6 =>
      tCons l_1 fun v7 l_2 =>
      tStr v7 fun v8 =>
      tCons l_2 fun v9 l_3 =>
      tInt .i64 v9 fun v10 =>
      tCons l_3 fun v11 l_4 =>
      tInt .i64 v11 fun v12 =>
      tNil l_4 (
        Sym.newRow 4 [(.agg [(.int .i64 0), (.str (ByteArray.mk #[])), (.int .i64 0), (.int .i64 0)])] h fun r h_3 =>
        st false h_3 (.ptr r 0 0) [(.int .i64 v6), (.str v8), (.int .i64 v10), (.int .i64 v12)] fun h_4 =>
        ldN 4 h_4 (.ptr r 0 0) fun l_5 =>
        tCons l_5 fun v73 l_6 =>
        tInt .i64 v73 fun v74 =>
        tCons l_6 fun v75 l_7 =>
        tStr v75 fun v76 =>
        tCons l_7 fun v77 l_8 =>
        tInt .i64 v77 fun v78 =>
        tCons l_8 fun v79 l_9 =>
        tInt .i64 v79 fun v80 =>
        tNil l_9 (
          callG prog 105 [(.agg [(.int .i64 v74), (.str v76), (.int .i64 v78), (.int .i64 v80)])] h_4 fun v81 h_17 =>
          tBool v81 fun v82 =>
          ifT (!v82) (
            s88c4 Ψ (s88l2_G (s88l2 Ψ n2)) t2 part2 id_2 pos neg i (.ptr r 0 0) true h_17) (
            ixS 1 pos i fun p36 =>
            ld1 h_17 p36 fun v83 =>
            tInt .i64 v83 fun v84 =>
            ixS 1 neg i fun p37 =>
            ld1 h_17 p37 fun v85 =>
            tInt .i64 v85 fun v86 =>
            rg (v84 + v86) (
              s88c4 Ψ (s88l2_G (s88l2 Ψ n2)) t2 part2 id_2 pos neg i (.ptr r 0 0) ((v84 + v86) == 0) h_17))))) (
      ifT (decide (id_2 < part2)) (
        retG (.tuple [(.int .i64 0), (.int .i64 0), (.int .i64 0)]) h Ψ) (
        ixS 1 pos part2 fun p38 =>
        ld1 h p38 fun v87 =>
        tInt .i64 v87 fun v88 =>
        ixS 1 neg part2 fun p39 =>
        ld1 h p39 fun v89 =>
        tInt .i64 v89 fun v90 =>
        retG (.tuple [(.int .i64 v88), (.int .i64 v90), (.int .i64 0)]) h Ψ))

def s88c1 (Ψ : AVal → Heap → Prop) (t1 : AVal) (part1 id_1 : Int) (t24 : Bool) (h : Heap) : Prop :=
  ifT t24 (
    retG (.tuple [(.int .i64 0), (.int .i64 0), (.int .i64 31)]) h Ψ) (
    nilCheckA t1 fun p =>
    addOff p 0 fun p1 =>
    ld1 h p1 fun v =>
    lenN v fun n =>
    mkS false 1 8 (.int .i64 0) h n n fun v1 h_ =>
    nilCheckA t1 fun p2 =>
    addOff p2 0 fun p3 =>
    ld1 h_ p3 fun v2 =>
    lenN v2 fun n1 =>
    mkS false 1 8 (.int .i64 0) h_ n1 n1 fun v3 h_1 =>
    ixS 1 v1 id_1 fun p4 =>
    st true h_1 p4 [(.int .i64 1)] fun h_2 =>
    s88l2_E (s88l2 Ψ) t1 part1 id_1 v1 v3 id_1 h_2)

def s88 (Ψ : AVal → Heap → Prop) (t : AVal) (part : Int) (id_ : Int) (h : Heap) : Prop :=
  callG prog 50 [t, (.int .i64 part)] h fun v91 h_18 =>
  tBool v91 fun v92 =>
  ifT (!v92) (
    s88c1 Ψ t part id_ true h_18) (
    callG prog 50 [t, (.int .i64 id_)] h_18 fun v93 h_19 =>
    tBool v93 fun v94 =>
    s88c1 Ψ t part id_ (!v94) h_19)

def s88_A (Ψ : AVal → Heap → Prop) : Ann :=
  .seq (rA 3)
  (.seq (.cut [(0, .any), (1, .int .i64), (2, .int .i64), (24, .bool)] (fun l h => J.cons l fun x0 l => J.cons l fun v l => J.int .i64 v fun x1 => J.cons l fun v l => J.int .i64 v fun x2 => J.cons l fun v l => J.bool v fun x3 => J.nil l (s88c1 Ψ x0 x1 x2 x3 h)) (.reg [⟨none, [(0, false), (1, false), (2, false), (3, false), (4, false)]⟩, ⟨some (19, false), [(5, false), (6, false), (7, false), (8, false)]⟩, ⟨none, [(9, false)]⟩])
  (.cond (.seq (rA 3)
  (.leaf))
  (.leaf)))
  (.seq (rA 7)
  (.seq (rA 7)
  (.seq (rA 4)
  (.seq (.seq (rA 2)
  (.block (.loop [(0, .any), (1, .int .i64), (2, .int .i64), (9, .any), (10, .any), (11, .int .i64)] (fun n l h => s88l2_R (s88l2 Ψ n) l h) (fun L2 =>
  .seq (.seq (rA 3)
  (.cond (.leaf)
  (.leaf)))
  (.cut [(0, .any), (1, .int .i64), (2, .int .i64), (9, .any), (10, .any), (11, .int .i64)] (fun l h => J.cons l fun x0 l => J.cons l fun v l => J.int .i64 v fun x1 => J.cons l fun v l => J.int .i64 v fun x2 => J.cons l fun x3 l => J.cons l fun x4 l => J.cons l fun v l => J.int .i64 v fun x5 => J.nil l (s88c3 Ψ (fun y0 y1 y2 y3 y4 y5 h => L2 [y0, (.int .i64 y1), (.int .i64 y2), y3, y4, (.int .i64 y5)] h) x0 x1 x2 x3 x4 x5 h)) (.block (.seq (rA 9)
  (.seq (.cut [(0, .any), (1, .int .i64), (2, .int .i64), (9, .any), (10, .any), (11, .int .i64), (12, .any), (67, .bool)] (fun l h => J.cons l fun x0 l => J.cons l fun v l => J.int .i64 v fun x1 => J.cons l fun v l => J.int .i64 v fun x2 => J.cons l fun x3 l => J.cons l fun x4 l => J.cons l fun v l => J.int .i64 v fun x5 => J.cons l fun x6 l => J.cons l fun v l => J.bool v fun x7 => J.nil l (s88c4 Ψ (fun y0 y1 y2 y3 y4 y5 h => L2 [y0, (.int .i64 y1), (.int .i64 y2), y3, y4, (.int .i64 y5)] h) x0 x1 x2 x3 x4 x5 x6 x7 h)) (.draw [(0, false), (1, false), (2, false), (3, false), (4, false), (5, false), (6, false), (7, false), (8, false), (9, false), (10, false), (11, false), (12, false), (13, false), (14, false)] [0, 1, 3, 7, 15, 15, 63, 127, 15, 15, 783, 1807, 4095, 8191, 16383])
  (.cond (.leaf)
  (.leaf)))
  (.seq (.draw [(0, false), (1, false), (2, false), (3, false), (4, false), (5, false), (6, false), (7, false), (8, false), (9, false)] [0, 0, 3, 7, 0, 0, 48, 112, 15, 511])
  (.cut [(0, .any), (1, .int .i64), (2, .int .i64), (9, .any), (10, .any), (11, .int .i64), (12, .any), (13, .int .i64), (14, .int .i64)] (fun l h => J.cons l fun x0 l => J.cons l fun v l => J.int .i64 v fun x1 => J.cons l fun v l => J.int .i64 v fun x2 => J.cons l fun x3 l => J.cons l fun x4 l => J.cons l fun v l => J.int .i64 v fun x5 => J.cons l fun x6 l => J.cons l fun v l => J.int .i64 v fun x7 => J.cons l fun v l => J.int .i64 v fun x8 => J.nil l (s88c5 Ψ (fun y0 y1 y2 y3 y4 y5 h => L2 [y0, (.int .i64 y1), (.int .i64 y2), y3, y4, (.int .i64 y5)] h) x0 x1 x2 x3 x4 x5 x6 x7 x8 h)) (.seq (rA 3)
  (.cond (.seq (.draw [(0, false), (1, false), (2, false), (3, false), (4, false), (5, false), (6, false), (7, false), (8, false), (9, false), (10, false), (11, false)] [0, 0, 2, 0, 0, 16, 56, 120, 0, 504, 1023, 2047])
  (.draw [(0, false), (1, false), (2, false), (3, false), (4, false), (5, false), (6, false), (7, false), (8, false), (9, false), (10, false), (11, false)] [0, 0, 2, 0, 0, 16, 56, 120, 0, 504, 1023, 2047]))
  (.seq (.draw [(0, false), (1, false), (2, false), (3, false), (4, false), (5, false), (6, false), (7, false), (8, false), (9, false), (10, false), (11, false)] [0, 0, 2, 0, 0, 16, 56, 120, 0, 504, 1023, 2047])
  (.draw [(0, false), (1, false), (2, false), (3, false), (4, false), (5, false), (6, false), (7, false), (8, false), (9, false), (10, false), (11, false)] [0, 0, 2, 0, 0, 16, 56, 120, 0, 504, 1023, 2047]))))
  (.seq (.draw [(0, false), (1, false), (2, false), (3, false), (4, false), (5, false), (6, false), (7, false), (8, false), (9, false), (10, false), (11, false)] [0, 0, 2, 0, 0, 16, 56, 120, 0, 504, 1023, 2047])
  (.draw [(0, false), (1, false), (2, false), (3, false), (4, false), (5, false), (6, false), (7, false), (8, false), (9, false), (10, false), (11, false)] [0, 0, 2, 0, 0, 16, 56, 120, 0, 504, 1023, 2047])))))))
  (rA 3))))))
  (.seq (.seq (rA 3)
  (.cond (.seq (rA 3)
  (.leaf))
  (.leaf)))
  (.seq (.draw [(0, false), (1, false), (2, false), (3, false), (4, false), (5, false), (6, false), (7, false), (8, false), (9, false), (10, false)] [0, 0, 3, 7, 0, 0, 48, 112, 15, 511, 1023])
  (.leaf))))))))

theorem s88_ok {Ψ : AVal → Heap → Prop} {t : AVal} {part : Int} {id_ : Int} {h : Heap} (H : s88 Ψ t part id_ h) : ACalls prog 88 [t, (.int .i64 part), (.int .i64 id_)] h Ψ :=
  calls_of_evF func88 (by kernel_rfl) (by kernel_rfl) (by kernel_rfl)
    (Eq.mpr (by as_aux_lemma => kernel_rfl : oblF prog f88 (s88_A Ψ) Ψ = (True ∧ ((True) ∧ (∀ (h : Heap) (x0 : AVal) (x1 x2 : Int) (x3 : Bool), OI (s88c1 Ψ x0 x1 x2 x3 h)) ∧ ((True ∧ True) ∧ True)) ∧ True ∧ True ∧ True ∧ (True ∧ (∀ (h : Heap) (x0 : AVal) (x1 x2 : Int) (x3 x4 : AVal) (x5 : Int), ON (s88l2 Ψ 0 x0 x1 x2 x3 x4 x5 h)) ∧ ∀ n2 : Nat, (∀ (h : Heap) (x0 : AVal) (x1 x2 : Int) (x3 x4 : AVal) (x5 : Int), OI (s88l2 Ψ (n2 + 1) x0 x1 x2 x3 x4 x5 h)) ∧ ((True ∧ True ∧ True) ∧ (True ∧ ((True) ∧ (∀ (h : Heap) (x0 : AVal) (x1 x2 : Int) (x3 x4 : AVal) (x5 : Int) (x6 : AVal) (x7 : Bool), OI (s88c4 Ψ (s88l2_G (s88l2 Ψ n2)) x0 x1 x2 x3 x4 x5 x6 x7 h)) ∧ (True ∧ True)) ∧ True ∧ (True ∧ (True ∧ True) ∧ True ∧ True) ∧ (∀ (h : Heap) (x0 : AVal) (x1 x2 : Int) (x3 x4 : AVal) (x5 : Int) (x6 : AVal) (x7 x8 : Int), OI (s88c5 Ψ (s88l2_G (s88l2 Ψ n2)) x0 x1 x2 x3 x4 x5 x6 x7 x8 h)) ∧ (True ∧ True)) ∧ (∀ (h : Heap) (x0 : AVal) (x1 x2 : Int) (x3 x4 : AVal) (x5 : Int), OI (s88c3 Ψ (s88l2_G (s88l2 Ψ n2)) x0 x1 x2 x3 x4 x5 h)) ∧ (True))) ∧ (True ∧ (True ∧ True) ∧ True) ∧ True ∧ True)) ⟨trivial, ⟨⟨trivial, fun _ _ _ _ _ H => H, ⟨⟨trivial, trivial⟩, trivial⟩⟩, ⟨trivial, ⟨trivial, ⟨trivial, ⟨⟨trivial, ⟨fun _ _ _ _ _ _ _ H => H, fun _ => ⟨fun _ _ _ _ _ _ _ H => H, ⟨⟨trivial, ⟨trivial, trivial⟩⟩, ⟨⟨trivial, ⟨⟨trivial, fun _ _ _ _ _ _ _ _ _ H => H, ⟨trivial, trivial⟩⟩, ⟨trivial, ⟨⟨trivial, ⟨⟨trivial, trivial⟩, ⟨trivial, trivial⟩⟩⟩, fun _ _ _ _ _ _ _ _ _ _ H => H, ⟨trivial, trivial⟩⟩⟩⟩⟩, fun _ _ _ _ _ _ _ H => H, trivial⟩⟩⟩⟩⟩, ⟨⟨trivial, ⟨⟨trivial, trivial⟩, trivial⟩⟩, ⟨trivial, trivial⟩⟩⟩⟩⟩⟩⟩⟩)
    (Eq.mpr (by as_aux_lemma => kernel_rfl : evF prog f88 (s88_A Ψ) Ψ [t, (.int .i64 part), (.int .i64 id_)] h = s88 Ψ t part id_ h) H)

/- 90 dictum/dictumref26.worlds -/
def s90 (Ψ : AVal → Heap → Prop) (a : Int) (b : Int) (h : Heap) : Prop :=
  2 ≠ (0 : Int) ∧
  rg (Int.tdiv (max a b) 2) (
    rg ((Int.tdiv (max a b) 2) + 5) (
      retG (.int .i64 ((Int.tdiv (max a b) 2) + 5)) h Ψ))

def s90_A (Ψ : AVal → Heap → Prop) : Ann :=
  .seq (rA 1)
  (.seq (rA 6)
  (.leaf))

theorem s90_ok {Ψ : AVal → Heap → Prop} {a : Int} {b : Int} {h : Heap} (H : s90 Ψ a b h) : ACalls prog 90 [(.int .i64 a), (.int .i64 b)] h Ψ :=
  calls_of_evF func90 (by kernel_rfl) (by kernel_rfl) (by kernel_rfl)
    (Eq.mpr (by as_aux_lemma => kernel_rfl : oblF prog f90 (s90_A Ψ) Ψ = (True ∧ True ∧ True)) ⟨trivial, ⟨trivial, trivial⟩⟩)
    (Eq.mpr (by as_aux_lemma => kernel_rfl : evF prog f90 (s90_A Ψ) Ψ [(.int .i64 a), (.int .i64 b)] h = s90 Ψ a b h) H)

/- 92 dictum/dictumref26.below -/
abbrev s92l1_T := Int → Int → Int → Heap → Prop
def s92l1_R (F : s92l1_T) (l : List AVal) (h : Heap) : Prop := J.cons l fun v l => J.int .i64 v fun x0 => J.cons l fun v l => J.int .i64 v fun x1 => J.cons l fun v l => J.int .i64 v fun x2 => J.nil l (F x0 x1 x2 h)
def s92l1_G (F : s92l1_T) (x0 x1 x2 : Int) (h : Heap) : Prop := gJ [.int .i64, .int .i64, .int .i64] [(.int .i64 x0), (.int .i64 x1), (.int .i64 x2)] h (s92l1_R F)
def s92l1_E (F : Nat → s92l1_T) (x0 x1 x2 : Int) (h : Heap) : Prop := gJ [.int .i64, .int .i64, .int .i64] [(.int .i64 x0), (.int .i64 x1), (.int .i64 x2)] h (fun l h => ∃ n, s92l1_R (F n) l h)
theorem s92l1_go {F : s92l1_T} {x0 x1 x2 : Int} {h : Heap} (H : F x0 x1 x2 h) : s92l1_G F x0 x1 x2 h := gJ_plain rfl H
theorem s92l1_in {F : Nat → s92l1_T} {x0 x1 x2 : Int} {h : Heap} (n : Nat) (H : F n x0 x1 x2 h) : s92l1_E F x0 x1 x2 h := gJ_plain rfl ⟨n, H⟩

def s92c2 (Ψ : AVal → Heap → Prop) (L1 : s92l1_T) (a2 b2 w1 : Int) (t21 : Bool) (h : Heap) : Prop :=
  ifT t21 (
    retG (.bool false) h Ψ) (
    rg (w1 + 1) (
      L1 a2 b2 (w1 + 1) h))

def s92l1 (Ψ : AVal → Heap → Prop) : Nat → s92l1_T
  | 0, _, _, _, _ => False
  | n + 1, a1, b1, w, h =>
    callG prog 90 [(.int .i64 a1), (.int .i64 b1)] h fun v h_ =>
    tInt .i64 v fun v1 =>
    ifT (decide (w < v1)) (
      callG prog 20 [(.int .i64 a1), (.int .i64 w)] h_ fun v2 h_1 =>
      tBool v2 fun v3 =>
      ifT v3 (
        callG prog 20 [(.int .i64 b1), (.int .i64 w)] h_1 fun v4 h_2 =>
        tBool v4 fun v5 =>
        s92c2 Ψ (s92l1_G (s92l1 Ψ n)) a1 b1 w (!v5) h_2) (
        s92c2 Ψ (s92l1_G (s92l1 Ψ n)) a1 b1 w false h_1)) (
      retG (.bool true) h_ Ψ)

def s92 (Ψ : AVal → Heap → Prop) (a : Int) (b : Int) (h : Heap) : Prop :=
  s92l1_E (s92l1 Ψ) a b 0 h

def s92_A (Ψ : AVal → Heap → Prop) : Ann :=
  .seq (rA 1)
  (.seq (.seq (rA 1)
  (.block (.loop [(0, .int .i64), (1, .int .i64), (5, .int .i64)] (fun n l h => s92l1_R (s92l1 Ψ n) l h) (fun L1 =>
  .seq (.seq (rA 5)
  (.cond (.leaf)
  (.leaf)))
  (.seq (.block (.cut [(0, .int .i64), (1, .int .i64), (5, .int .i64), (21, .bool)] (fun l h => J.cons l fun v l => J.int .i64 v fun x0 => J.cons l fun v l => J.int .i64 v fun x1 => J.cons l fun v l => J.int .i64 v fun x2 => J.cons l fun v l => J.bool v fun x3 => J.nil l (s92c2 Ψ (fun y0 y1 y2 h => L1 [(.int .i64 y0), (.int .i64 y1), (.int .i64 y2)] h) x0 x1 x2 x3 h)) (.reg [⟨none, [(0, false), (1, false), (2, false), (3, false)]⟩, ⟨some (16, true), [(4, false), (5, false), (6, false), (7, false)]⟩, ⟨none, [(8, false)]⟩])
  (.cond (.seq (rA 1)
  (.leaf))
  (.leaf))))
  (rA 3))))))
  (.seq (rA 1)
  (.leaf)))

theorem s92_ok {Ψ : AVal → Heap → Prop} {a : Int} {b : Int} {h : Heap} (H : s92 Ψ a b h) : ACalls prog 92 [(.int .i64 a), (.int .i64 b)] h Ψ :=
  calls_of_evF func92 (by kernel_rfl) (by kernel_rfl) (by kernel_rfl)
    (Eq.mpr (by as_aux_lemma => kernel_rfl : oblF prog f92 (s92_A Ψ) Ψ = (True ∧ (True ∧ (∀ (h : Heap) (x0 x1 x2 : Int), ON (s92l1 Ψ 0 x0 x1 x2 h)) ∧ ∀ n1 : Nat, (∀ (h : Heap) (x0 x1 x2 : Int), OI (s92l1 Ψ (n1 + 1) x0 x1 x2 h)) ∧ ((True ∧ True ∧ True) ∧ ((True) ∧ (∀ (h : Heap) (x0 x1 x2 : Int) (x3 : Bool), OI (s92c2 Ψ (s92l1_G (s92l1 Ψ n1)) x0 x1 x2 x3 h)) ∧ ((True ∧ True) ∧ True)) ∧ True)) ∧ True ∧ True)) ⟨trivial, ⟨⟨trivial, ⟨fun _ _ _ _ H => H, fun _ => ⟨fun _ _ _ _ H => H, ⟨⟨trivial, ⟨trivial, trivial⟩⟩, ⟨⟨trivial, fun _ _ _ _ _ H => H, ⟨⟨trivial, trivial⟩, trivial⟩⟩, trivial⟩⟩⟩⟩⟩, ⟨trivial, trivial⟩⟩⟩)
    (Eq.mpr (by as_aux_lemma => kernel_rfl : evF prog f92 (s92_A Ψ) Ψ [(.int .i64 a), (.int .i64 b)] h = s92 Ψ a b h) H)

/- 99 (*dictum/formula.Table).Put -/
def s99 (Ψ : AVal → Heap → Prop) (t : AVal) (n_Kind : Int) (n_Name : ByteArray) (n_L : Int) (n_R : Int) (h : Heap) : Prop :=
  callG prog 56 [t] h fun v h_ =>
  tBool v fun v1 =>
  ifT (!v1) (
    retG (.tuple [(.int .i64 0), (.int .i64 1)]) h_ Ψ) (
    callG prog 111 [t, (.agg [(.int .i64 n_Kind), (.str n_Name), (.int .i64 n_L), (.int .i64 n_R)])] h_ fun v2 h_1 =>
    tInt .i64 v2 fun v3 =>
    ifT (v3 != 0) (
      retG (.tuple [(.int .i64 0), (.int .i64 v3)]) h_1 Ψ) (
      nilCheckA t fun p =>
      addOff p 1 fun p1 =>
      ld1 h_1 p1 fun v4 =>
      mapGet (.int .i64 0) h_1 v4 (.agg [(.int .i64 n_Kind), (.str n_Name), (.int .i64 n_L), (.int .i64 n_R)]) fun v5 b =>
      tInt .i64 v5 fun v6 =>
      ifT b (
        retG (.tuple [(.int .i64 v6), (.int .i64 0)]) h_1 Ψ) (
        nilCheckA t fun p2 =>
        addOff p2 0 fun p3 =>
        ld1 h_1 p3 fun v7 =>
        lenN v7 fun n =>
        ifT (decide (1024 ≤ n)) (
          retG (.tuple [(.int .i64 0), (.int .i64 30)]) h_1 Ψ) (
          nilCheckA t fun p4 =>
          addOff p4 0 fun p5 =>
          ld1 h_1 p5 fun v8 =>
          (ld1 h_1 p5 fun v9 =>
          v9 = v8) ∧
          appC 4 40 h_1 v8 (.lsl 4 [(.agg [(.int .i64 n_Kind), (.str n_Name), (.int .i64 n_L), (.int .i64 n_R)])]) fun v10 h_2 =>
          nilCheckA t fun p6 =>
          addOff p6 0 fun p7 =>
          chk (sc v10) (
            st true h_2 p7 [v10] fun h_3 =>
            nilCheckA t fun p8 =>
            addOff p8 1 fun p9 =>
            ld1 h_3 p9 fun v11 =>
            mapPut h_3 v11 (.agg [(.int .i64 n_Kind), (.str n_Name), (.int .i64 n_L), (.int .i64 n_R)]) (.int .i64 n) fun h_4 =>
            retG (.tuple [(.int .i64 n), (.int .i64 0)]) h_4 Ψ)))))

def s99_A (Ψ : AVal → Heap → Prop) : Ann :=
  .seq (.reg [⟨none, [(0, true), (1, false), (2, false)]⟩])
  (.seq (.seq (rA 3)
  (.cond (.seq (rA 2)
  (.leaf))
  (.leaf)))
  (.seq (.seq (rA 4)
  (.seq (rA 2)
  (.cond (.seq (rA 3)
  (.leaf))
  (.leaf))))
  (.seq (.seq (.draw [(0, false), (1, false), (2, false), (3, false), (4, false), (5, false), (6, false), (7, false), (8, false), (9, false), (10, false)] [0, 1, 3, 7, 0, 31, 63, 127, 127, 255, 1023])
  (.seq (rA 1)
  (.cond (.seq (rA 3)
  (.leaf))
  (.leaf))))
  (.seq (rA 6)
  (.seq (.seq (rA 2)
  (.cond (.seq (rA 2)
  (.leaf))
  (.leaf)))
  (.seq (.draw [(0, false), (1, false), (2, false), (3, false), (4, false), (5, false), (6, true), (7, false), (8, false), (9, false), (10, false)] [0, 0, 2, 6, 14, 0, 32, 126, 255, 511, 1023])
  (.seq (.draw [(0, false), (1, false), (2, false), (3, false), (4, false), (5, false), (6, false)] [0, 1, 3, 7, 0, 0, 63])
  (.seq (rA 3)
  (.leaf)))))))))

theorem s99_ok {Ψ : AVal → Heap → Prop} {t : AVal} {n_Kind : Int} {n_Name : ByteArray} {n_L : Int} {n_R : Int} {h : Heap} (H : s99 Ψ t n_Kind n_Name n_L n_R h) : ACalls prog 99 [t, (.agg [(.int .i64 n_Kind), (.str n_Name), (.int .i64 n_L), (.int .i64 n_R)])] h Ψ :=
  calls_of_evF func99 (by kernel_rfl) (by kernel_rfl) (by kernel_rfl)
    (Eq.mpr (by as_aux_lemma => kernel_rfl : oblF prog f99 (s99_A Ψ) Ψ = (True ∧ (True ∧ (True ∧ True) ∧ True) ∧ (True ∧ True ∧ (True ∧ True) ∧ True) ∧ (True ∧ True ∧ (True ∧ True) ∧ True) ∧ True ∧ (True ∧ (True ∧ True) ∧ True) ∧ True ∧ True ∧ True ∧ True)) ⟨trivial, ⟨⟨trivial, ⟨⟨trivial, trivial⟩, trivial⟩⟩, ⟨⟨trivial, ⟨trivial, ⟨⟨trivial, trivial⟩, trivial⟩⟩⟩, ⟨⟨trivial, ⟨trivial, ⟨⟨trivial, trivial⟩, trivial⟩⟩⟩, ⟨trivial, ⟨⟨trivial, ⟨⟨trivial, trivial⟩, trivial⟩⟩, ⟨trivial, ⟨trivial, ⟨trivial, trivial⟩⟩⟩⟩⟩⟩⟩⟩⟩)
    (Eq.mpr (by as_aux_lemma => kernel_rfl : evF prog f99 (s99_A Ψ) Ψ [t, (.agg [(.int .i64 n_Kind), (.str n_Name), (.int .i64 n_L), (.int .i64 n_R)])] h = s99 Ψ t n_Kind n_Name n_L n_R h) H)

/- 101 slices.pdqsortOrdered[string] -/
abbrev s101l1_T := AVal → Int → Int → Int → Bool → Bool → Heap → Prop
def s101l1_R (F : s101l1_T) (l : List AVal) (h : Heap) : Prop := J.cons l fun x0 l => J.cons l fun v l => J.int .i64 v fun x1 => J.cons l fun v l => J.int .i64 v fun x2 => J.cons l fun v l => J.int .i64 v fun x3 => J.cons l fun v l => J.bool v fun x4 => J.cons l fun v l => J.bool v fun x5 => J.nil l (F x0 x1 x2 x3 x4 x5 h)
def s101l1_G (F : s101l1_T) (x0 : AVal) (x1 x2 x3 : Int) (x4 x5 : Bool) (h : Heap) : Prop := gJ [.any, .int .i64, .int .i64, .int .i64, .bool, .bool] [x0, (.int .i64 x1), (.int .i64 x2), (.int .i64 x3), (.bool x4), (.bool x5)] h (s101l1_R F)
def s101l1_E (F : Nat → s101l1_T) (x0 : AVal) (x1 x2 x3 : Int) (x4 x5 : Bool) (h : Heap) : Prop := gJ [.any, .int .i64, .int .i64, .int .i64, .bool, .bool] [x0, (.int .i64 x1), (.int .i64 x2), (.int .i64 x3), (.bool x4), (.bool x5)] h (fun l h => ∃ n, s101l1_R (F n) l h)
theorem s101l1_go {F : s101l1_T} {x0 : AVal} {x1 x2 x3 : Int} {x4 x5 : Bool} {h : Heap} (H : F x0 x1 x2 x3 x4 x5 h) : s101l1_G F x0 x1 x2 x3 x4 x5 h := gJ_plain rfl H
theorem s101l1_in {F : Nat → s101l1_T} {x0 : AVal} {x1 x2 x3 : Int} {x4 x5 : Bool} {h : Heap} (n : Nat) (H : F n x0 x1 x2 x3 x4 x5 h) : s101l1_E F x0 x1 x2 x3 x4 x5 h := gJ_plain rfl ⟨n, H⟩

def s101c5 (Ψ : AVal → Heap → Prop) (L1 : s101l1_T) (data5 : AVal) (a5 b5 limit5 : Int) (wasBalanced4 wasPartitioned4 : Bool) (length3 pivot2 : Int) (t87 : Bool) (h : Heap) : Prop :=
  ifT t87 (
    callG prog 119 [data5, (.int .i64 a5), (.int .i64 b5), (.int .i64 pivot2)] h fun v7 h_3 =>
    tInt .i64 v7 fun v8 =>
    L1 data5 v8 b5 limit5 wasBalanced4 wasPartitioned4 h_3) (
    callG prog 120 [data5, (.int .i64 a5), (.int .i64 b5), (.int .i64 pivot2)] h fun v9 h_4 =>
    tTup v9 fun l_3 =>
    tCons l_3 fun v10 l_4 =>
    tInt .i64 v10 fun v11 =>
    tCons l_4 fun v12 l_5 =>
    tBool v12 fun v13 =>
    tNil l_5 (
      rg (v11 - a5) (
        rg (b5 - v11) (
          8 ≠ (0 : Int) ∧
          rg (Int.tdiv length3 8) (
            ifT (decide ((v11 - a5) < (b5 - v11))) (
              callG prog 101 [data5, (.int .i64 a5), (.int .i64 v11), (.int .i64 limit5)] h_4 fun v14 h_5 =>
              rg (v11 + 1) (
                L1 data5 (v11 + 1) b5 limit5 (decide ((Int.tdiv length3 8) ≤ (v11 - a5))) v13 h_5)) (
              rg (v11 + 1) (
                callG prog 101 [data5, (.int .i64 (v11 + 1)), (.int .i64 b5), (.int .i64 limit5)] h_4 fun v15 h_6 =>
                L1 data5 a5 v11 limit5 (decide ((Int.tdiv length3 8) ≤ (b5 - v11))) v13 h_6)))))))

def s101c4 (Ψ : AVal → Heap → Prop) (L1 : s101l1_T) (data4 : AVal) (a4 b4 limit4 : Int) (wasBalanced3 wasPartitioned3 : Bool) (length2 pivot1 : Int) (h : Heap) : Prop :=
  ifT (decide (0 < a4)) (
    rg (a4 - 1) (
      ixS 1 data4 (a4 - 1) fun p =>
      ld1 h p fun v16 =>
      tStr v16 fun v17 =>
      ixS 1 data4 pivot1 fun p1 =>
      ld1 h p1 fun v18 =>
      tStr v18 fun v19 =>
      callG prog 118 [(.str v17), (.str v19)] h fun v20 h_7 =>
      tBool v20 fun v21 =>
      s101c5 Ψ L1 data4 a4 b4 limit4 wasBalanced3 wasPartitioned3 length2 pivot1 (!v21) h_7)) (
    s101c5 Ψ L1 data4 a4 b4 limit4 wasBalanced3 wasPartitioned3 length2 pivot1 false h)

def s101c6 (Ψ : AVal → Heap → Prop) (L1 : s101l1_T) (data6 : AVal) (a6 b6 limit6 : Int) (wasBalanced5 wasPartitioned5 : Bool) (length4 pivot3 : Int) (t68 : Bool) (h : Heap) : Prop :=
  ifT t68 (
    callG prog 117 [data6, (.int .i64 a6), (.int .i64 b6)] h fun v22 h_8 =>
    tBool v22 fun v23 =>
    ifT v23 (
      retG (.tuple []) h_8 Ψ) (
      s101c4 Ψ L1 data6 a6 b6 limit6 wasBalanced5 wasPartitioned5 length4 pivot3 h_8)) (
    s101c4 Ψ L1 data6 a6 b6 limit6 wasBalanced5 wasPartitioned5 length4 pivot3 h)

def s101c3 (Ψ : AVal → Heap → Prop) (L1 : s101l1_T) (data3 : AVal) (a3 b3 limit3 : Int) (wasBalanced2 wasPartitioned2 : Bool) (length1 pivot hint : Int) (h : Heap) : Prop :=
  ifT wasBalanced2 (
    ifT wasPartitioned2 (
      s101c6 Ψ L1 data3 a3 b3 limit3 wasBalanced2 wasPartitioned2 length1 pivot (hint == 1) h) (
      s101c6 Ψ L1 data3 a3 b3 limit3 wasBalanced2 wasPartitioned2 length1 pivot false h)) (
    s101c6 Ψ L1 data3 a3 b3 limit3 wasBalanced2 wasPartitioned2 length1 pivot false h)

def s101c2 (Ψ : AVal → Heap → Prop) (L1 : s101l1_T) (data2 : AVal) (a2 b2 limit2 : Int) (wasBalanced1 wasPartitioned1 : Bool) (length : Int) (h : Heap) : Prop :=
  callG prog 115 [data2, (.int .i64 a2), (.int .i64 b2)] h fun v2 h_2 =>
  tTup v2 fun l_ =>
  tCons l_ fun v3 l_1 =>
  tInt .i64 v3 fun v4 =>
  tCons l_1 fun v5 l_2 =>
  tInt .i64 v5 fun v6 =>
  tNil l_2 (
    ifT (v6 == 2) (
      callG prog 116 [data2, (.int .i64 a2), (.int .i64 b2)] h_2 fun v24 h_9 =>
      rg (b2 - 1) (
        rg (v4 - a2) (
          rg ((b2 - 1) - (v4 - a2)) (
            s101c3 Ψ L1 data2 a2 b2 limit2 wasBalanced1 wasPartitioned1 length ((b2 - 1) - (v4 - a2)) 1 h_9)))) (
      s101c3 Ψ L1 data2 a2 b2 limit2 wasBalanced1 wasPartitioned1 length v4 v6 h_2))

def s101l1 (Ψ : AVal → Heap → Prop) : Nat → s101l1_T
  | 0, _, _, _, _, _, _, _ => False
  | n + 1, data1, a1, b1, limit1, wasBalanced, wasPartitioned, h =>
    rg (b1 - a1) (
      ifT (decide ((b1 - a1) ≤ 12)) (
        callG prog 112 [data1, (.int .i64 a1), (.int .i64 b1)] h fun v h_ =>
        retG (.tuple []) h_ Ψ) (
        ifT (limit1 == 0) (
          callG prog 113 [data1, (.int .i64 a1), (.int .i64 b1)] h fun v1 h_1 =>
          retG (.tuple []) h_1 Ψ) (
          ifT (!wasBalanced) (
            callG prog 114 [data1, (.int .i64 a1), (.int .i64 b1)] h fun v25 h_10 =>
            rg (limit1 - 1) (
              s101c2 Ψ (s101l1_G (s101l1 Ψ n)) data1 a1 b1 (limit1 - 1) wasBalanced wasPartitioned (b1 - a1) h_10)) (
            s101c2 Ψ (s101l1_G (s101l1 Ψ n)) data1 a1 b1 limit1 wasBalanced wasPartitioned (b1 - a1) h))))

def s101 (Ψ : AVal → Heap → Prop) (data : AVal) (a : Int) (b : Int) (limit : Int) (h : Heap) : Prop :=
  s101l1_E (s101l1 Ψ) data a b limit true true h

def s101_A (Ψ : AVal → Heap → Prop) : Ann :=
  .seq (rA 1)
  (.seq (rA 1)
  (.block (.loop [(0, .any), (1, .int .i64), (2, .int .i64), (3, .int .i64), (8, .bool), (9, .bool)] (fun n l h => s101l1_R (s101l1 Ψ n) l h) (fun L1 =>
  .block (.seq (rA 4)
  (.seq (.seq (rA 2)
  (.cond (.seq (rA 4)
  (.leaf))
  (.leaf)))
  (.seq (.seq (rA 2)
  (.cond (.seq (rA 4)
  (.leaf))
  (.leaf)))
  (.cut [(0, .any), (1, .int .i64), (2, .int .i64), (3, .int .i64), (8, .bool), (9, .bool), (10, .int .i64)] (fun l h => J.cons l fun x0 l => J.cons l fun v l => J.int .i64 v fun x1 => J.cons l fun v l => J.int .i64 v fun x2 => J.cons l fun v l => J.int .i64 v fun x3 => J.cons l fun v l => J.bool v fun x4 => J.cons l fun v l => J.bool v fun x5 => J.cons l fun v l => J.int .i64 v fun x6 => J.nil l (s101c2 Ψ (fun y0 y1 y2 y3 y4 y5 h => L1 [y0, (.int .i64 y1), (.int .i64 y2), (.int .i64 y3), (.bool y4), (.bool y5)] h) x0 x1 x2 x3 x4 x5 x6 h)) (.seq (rA 2)
  (.cond (.seq (rA 4)
  (rA 3))
  (.leaf)))
  (.seq (rA 9)
  (.cut [(0, .any), (1, .int .i64), (2, .int .i64), (3, .int .i64), (8, .bool), (9, .bool), (10, .int .i64), (11, .int .i64), (12, .int .i64)] (fun l h => J.cons l fun x0 l => J.cons l fun v l => J.int .i64 v fun x1 => J.cons l fun v l => J.int .i64 v fun x2 => J.cons l fun v l => J.int .i64 v fun x3 => J.cons l fun v l => J.bool v fun x4 => J.cons l fun v l => J.bool v fun x5 => J.cons l fun v l => J.int .i64 v fun x6 => J.cons l fun v l => J.int .i64 v fun x7 => J.cons l fun v l => J.int .i64 v fun x8 => J.nil l (s101c3 Ψ (fun y0 y1 y2 y3 y4 y5 h => L1 [y0, (.int .i64 y1), (.int .i64 y2), (.int .i64 y3), (.bool y4), (.bool y5)] h) x0 x1 x2 x3 x4 x5 x6 x7 x8 h)) (.seq (rA 2)
  (.cond (.seq (rA 4)
  (.seq (rA 7)
  (rA 1)))
  (.leaf)))
  (.cut [(0, .any), (1, .int .i64), (2, .int .i64), (3, .int .i64), (8, .bool), (9, .bool), (10, .int .i64), (11, .int .i64)] (fun l h => J.cons l fun x0 l => J.cons l fun v l => J.int .i64 v fun x1 => J.cons l fun v l => J.int .i64 v fun x2 => J.cons l fun v l => J.int .i64 v fun x3 => J.cons l fun v l => J.bool v fun x4 => J.cons l fun v l => J.bool v fun x5 => J.cons l fun v l => J.int .i64 v fun x6 => J.cons l fun v l => J.int .i64 v fun x7 => J.nil l (s101c4 Ψ (fun y0 y1 y2 y3 y4 y5 h => L1 [y0, (.int .i64 y1), (.int .i64 y2), (.int .i64 y3), (.bool y4), (.bool y5)] h) x0 x1 x2 x3 x4 x5 x6 x7 h)) (.cut [(0, .any), (1, .int .i64), (2, .int .i64), (3, .int .i64), (8, .bool), (9, .bool), (10, .int .i64), (11, .int .i64), (68, .bool)] (fun l h => J.cons l fun x0 l => J.cons l fun v l => J.int .i64 v fun x1 => J.cons l fun v l => J.int .i64 v fun x2 => J.cons l fun v l => J.int .i64 v fun x3 => J.cons l fun v l => J.bool v fun x4 => J.cons l fun v l => J.bool v fun x5 => J.cons l fun v l => J.int .i64 v fun x6 => J.cons l fun v l => J.int .i64 v fun x7 => J.cons l fun v l => J.bool v fun x8 => J.nil l (s101c6 Ψ (fun y0 y1 y2 y3 y4 y5 h => L1 [y0, (.int .i64 y1), (.int .i64 y2), (.int .i64 y3), (.bool y4), (.bool y5)] h) x0 x1 x2 x3 x4 x5 x6 x7 x8 h)) (.reg [⟨none, [(0, false), (1, false)]⟩, ⟨some (62, true), [(2, false)]⟩, ⟨none, [(3, false), (4, false)]⟩, ⟨some (65, true), [(5, false), (6, false)]⟩, ⟨none, [(7, false)]⟩])
  (.cond (.seq (rA 4)
  (.cond (.leaf)
  (.leaf)))
  (.leaf)))
  (.seq (.cut [(0, .any), (1, .int .i64), (2, .int .i64), (3, .int .i64), (8, .bool), (9, .bool), (10, .int .i64), (11, .int .i64), (87, .bool)] (fun l h => J.cons l fun x0 l => J.cons l fun v l => J.int .i64 v fun x1 => J.cons l fun v l => J.int .i64 v fun x2 => J.cons l fun v l => J.int .i64 v fun x3 => J.cons l fun v l => J.bool v fun x4 => J.cons l fun v l => J.bool v fun x5 => J.cons l fun v l => J.int .i64 v fun x6 => J.cons l fun v l => J.int .i64 v fun x7 => J.cons l fun v l => J.bool v fun x8 => J.nil l (s101c5 Ψ (fun y0 y1 y2 y3 y4 y5 h => L1 [y0, (.int .i64 y1), (.int .i64 y2), (.int .i64 y3), (.bool y4), (.bool y5)] h) x0 x1 x2 x3 x4 x5 x6 x7 x8 h)) (.draw [(0, false), (1, false), (2, false), (3, false), (4, false), (5, false), (6, false), (7, false), (8, false), (9, false), (10, false), (11, false), (12, false), (13, false), (14, false)] [0, 1, 3, 7, 7, 23, 63, 127, 7, 7, 775, 1799, 4095, 8191, 16383])
  (.cond (.seq (rA 6)
  (.seq (rA 2)
  (.leaf)))
  (.leaf)))
  (.seq (rA 10)
  (.seq (rA 2)
  (.seq (rA 8)
  (.seq (rA 3)
  (.seq (rA 3)
  (.cond (.seq (rA 4)
  (.seq (rA 5)
  (rA 3)))
  (.seq (rA 4)
  (.seq (rA 6)
  (rA 2)))))))))))))))))))))

theorem s101_ok {Ψ : AVal → Heap → Prop} {data : AVal} {a : Int} {b : Int} {limit : Int} {h : Heap} (H : s101 Ψ data a b limit h) : ACalls prog 101 [data, (.int .i64 a), (.int .i64 b), (.int .i64 limit)] h Ψ :=
  calls_of_evF func101 (by kernel_rfl) (by kernel_rfl) (by kernel_rfl)
    (Eq.mpr (by as_aux_lemma => kernel_rfl : oblF prog f101 (s101_A Ψ) Ψ = (True ∧ True ∧ (∀ (h : Heap) (x0 : AVal) (x1 x2 x3 : Int) (x4 x5 : Bool), ON (s101l1 Ψ 0 x0 x1 x2 x3 x4 x5 h)) ∧ ∀ n1 : Nat, (∀ (h : Heap) (x0 : AVal) (x1 x2 x3 : Int) (x4 x5 : Bool), OI (s101l1 Ψ (n1 + 1) x0 x1 x2 x3 x4 x5 h)) ∧ (True ∧ (True ∧ (True ∧ True) ∧ True) ∧ (True ∧ (True ∧ True) ∧ True) ∧ (True ∧ (True ∧ True) ∧ True) ∧ (∀ (h : Heap) (x0 : AVal) (x1 x2 x3 : Int) (x4 x5 : Bool) (x6 : Int), OI (s101c2 Ψ (s101l1_G (s101l1 Ψ n1)) x0 x1 x2 x3 x4 x5 x6 h)) ∧ (True ∧ (True ∧ (True ∧ True ∧ True) ∧ True) ∧ (∀ (h : Heap) (x0 : AVal) (x1 x2 x3 : Int) (x4 x5 : Bool) (x6 x7 x8 : Int), OI (s101c3 Ψ (s101l1_G (s101l1 Ψ n1)) x0 x1 x2 x3 x4 x5 x6 x7 x8 h)) ∧ (((True) ∧ (∀ (h : Heap) (x0 : AVal) (x1 x2 x3 : Int) (x4 x5 : Bool) (x6 x7 : Int) (x8 : Bool), OI (s101c6 Ψ (s101l1_G (s101l1 Ψ n1)) x0 x1 x2 x3 x4 x5 x6 x7 x8 h)) ∧ ((True ∧ True ∧ True) ∧ True)) ∧ (∀ (h : Heap) (x0 : AVal) (x1 x2 x3 : Int) (x4 x5 : Bool) (x6 x7 : Int), OI (s101c4 Ψ (s101l1_G (s101l1 Ψ n1)) x0 x1 x2 x3 x4 x5 x6 x7 h)) ∧ (((True) ∧ (∀ (h : Heap) (x0 : AVal) (x1 x2 x3 : Int) (x4 x5 : Bool) (x6 x7 : Int) (x8 : Bool), OI (s101c5 Ψ (s101l1_G (s101l1 Ψ n1)) x0 x1 x2 x3 x4 x5 x6 x7 x8 h)) ∧ ((True ∧ True ∧ True) ∧ True)) ∧ True ∧ True ∧ True ∧ True ∧ True ∧ (True ∧ True ∧ True) ∧ True ∧ True ∧ True)))))) ⟨trivial, ⟨trivial, ⟨fun _ _ _ _ _ _ _ H => H, fun _ => ⟨fun _ _ _ _ _ _ _ H => H, ⟨trivial, ⟨⟨trivial, ⟨⟨trivial, trivial⟩, trivial⟩⟩, ⟨⟨trivial, ⟨⟨trivial, trivial⟩, trivial⟩⟩, ⟨⟨trivial, ⟨⟨trivial, trivial⟩, trivial⟩⟩, fun _ _ _ _ _ _ _ _ H => H, ⟨trivial, ⟨⟨trivial, ⟨⟨trivial, ⟨trivial, trivial⟩⟩, trivial⟩⟩, fun _ _ _ _ _ _ _ _ _ _ H => H, ⟨⟨trivial, fun _ _ _ _ _ _ _ _ _ _ H => H, ⟨⟨trivial, ⟨trivial, trivial⟩⟩, trivial⟩⟩, fun _ _ _ _ _ _ _ _ _ H => H, ⟨⟨trivial, fun _ _ _ _ _ _ _ _ _ _ H => H, ⟨⟨trivial, ⟨trivial, trivial⟩⟩, trivial⟩⟩, ⟨trivial, ⟨trivial, ⟨trivial, ⟨trivial, ⟨trivial, ⟨⟨trivial, ⟨trivial, trivial⟩⟩, ⟨trivial, ⟨trivial, trivial⟩⟩⟩⟩⟩⟩⟩⟩⟩⟩⟩⟩⟩⟩⟩⟩⟩⟩⟩⟩)
    (Eq.mpr (by as_aux_lemma => kernel_rfl : evF prog f101 (s101_A Ψ) Ψ [data, (.int .i64 a), (.int .i64 b), (.int .i64 limit)] h = s101 Ψ data a b limit h) H)

/- 104 dictum/nishimura.greatest -/
def s104 (Ψ : AVal → Heap → Prop) (l_ : AVal) (h : Heap) : Prop :=
  callG prog 132 [l_] h fun v h_ =>
  tInt .i64 v fun v1 =>
  retG (.int .i64 v1) h_ Ψ

def s104_A (Ψ : AVal → Heap → Prop) : Ann :=
  .seq (rA 1)
  (.seq (rA 3)
  (.leaf))

theorem s104_ok {Ψ : AVal → Heap → Prop} {l_ : AVal} {h : Heap} (H : s104 Ψ l_ h) : ACalls prog 104 [l_] h Ψ :=
  calls_of_evF func104 (by kernel_rfl) (by kernel_rfl) (by kernel_rfl)
    (Eq.mpr (by as_aux_lemma => kernel_rfl : oblF prog f104 (s104_A Ψ) Ψ = (True ∧ True ∧ True)) ⟨trivial, ⟨trivial, trivial⟩⟩)
    (Eq.mpr (by as_aux_lemma => kernel_rfl : evF prog f104 (s104_A Ψ) Ψ [l_] h = s104 Ψ l_ h) H)

/- 106 dictum/dictumref06.sum -/
def s106 (Ψ : AVal → Heap → Prop) (a : Int) (b : Int) (h : Heap) : Prop :=
  rg (a + b) (
    ifT (decide (1099511627776 < (a + b))) (
      retG (.int .i64 1099511627776) h Ψ) (
      rg (a + b) (
        retG (.int .i64 (a + b)) h Ψ)))

def s106_A (Ψ : AVal → Heap → Prop) : Ann :=
  .seq (rA 1)
  (.seq (.seq (rA 4)
  (.cond (.seq (rA 1)
  (.leaf))
  (.leaf)))
  (.seq (rA 4)
  (.leaf)))

theorem s106_ok {Ψ : AVal → Heap → Prop} {a : Int} {b : Int} {h : Heap} (H : s106 Ψ a b h) : ACalls prog 106 [(.int .i64 a), (.int .i64 b)] h Ψ :=
  calls_of_evF func106 (by kernel_rfl) (by kernel_rfl) (by kernel_rfl)
    (Eq.mpr (by as_aux_lemma => kernel_rfl : oblF prog f106 (s106_A Ψ) Ψ = (True ∧ (True ∧ (True ∧ True) ∧ True) ∧ True ∧ True)) ⟨trivial, ⟨⟨trivial, ⟨⟨trivial, trivial⟩, trivial⟩⟩, ⟨trivial, trivial⟩⟩⟩)
    (Eq.mpr (by as_aux_lemma => kernel_rfl : evF prog f106 (s106_A Ψ) Ψ [(.int .i64 a), (.int .i64 b)] h = s106 Ψ a b h) H)

/- 111 (*dictum/formula.Table).fits -/
def s111c1 (Ψ : AVal → Heap → Prop) (h : Heap) : Prop :=
  retG (.int .i64 0) h Ψ

def s111c2 (Ψ : AVal → Heap → Prop) (n : AVal) (t16 : Bool) (h : Heap) : Prop :=
  ifT t16 (
    retG (.int .i64 31) h Ψ) (
    addOff n 1 fun p =>
    ld1 h p fun v =>
    tStr v fun v1 =>
    callG prog 24 [(.str v1)] h fun v2 h_ =>
    tBool v2 fun v3 =>
    ifT (!v3) (
      retG (.int .i64 32) h_ Ψ) (
      s111c1 Ψ h_))

def s111c4 (Ψ : AVal → Heap → Prop) (t46 : Bool) (h : Heap) : Prop :=
  ifT t46 (
    retG (.int .i64 31) h Ψ) (
    s111c1 Ψ h)

def s111c3 (Ψ : AVal → Heap → Prop) (t1 n1 : AVal) (t26 : Bool) (h : Heap) : Prop :=
  ifT t26 (
    addOff n1 1 fun p1 =>
    ld1 h p1 fun v4 =>
    tStr v4 fun v5 =>
    ifT (!strEq v5 (ByteArray.mk #[])) (
      s111c4 Ψ true h) (
      addOff n1 2 fun p2 =>
      ld1 h p2 fun v6 =>
      tInt .i64 v6 fun v7 =>
      callG prog 75 [t1, (.int .i64 v7)] h fun v8 h_1 =>
      tBool v8 fun v9 =>
      ifT (!v9) (
        s111c4 Ψ true h_1) (
        addOff n1 3 fun p3 =>
        ld1 h_1 p3 fun v10 =>
        tInt .i64 v10 fun v11 =>
        callG prog 75 [t1, (.int .i64 v11)] h_1 fun v12 h_2 =>
        tBool v12 fun v13 =>
        s111c4 Ψ (!v13) h_2))) (
    retG (.int .i64 31) h Ψ)

def s111 (Ψ : AVal → Heap → Prop) (t : AVal) (n_Kind : Int) (n_Name : ByteArray) (n_L : Int) (n_R : Int) (h : Heap) : Prop :=
  ifT (n_Kind == 1) (
    ifT (n_L != 0) (
      s111c2 Ψ (.lptr [(.int .i64 n_Kind), (.str n_Name), (.int .i64 n_L), (.int .i64 n_R)]) true h) (
      s111c2 Ψ (.lptr [(.int .i64 n_Kind), (.str n_Name), (.int .i64 n_L), (.int .i64 n_R)]) (n_R != 0) h)) (
    ifT (n_Kind == 2) (
      eqQ prog 54 (.agg [(.int .i64 n_Kind), (.str n_Name), (.int .i64 n_L), (.int .i64 n_R)]) (.agg [(.int .i64 2), (.str (ByteArray.mk #[])), (.int .i64 0), (.int .i64 0)]) fun b =>
      ifT (!b) (
        retG (.int .i64 31) h Ψ) (
        s111c1 Ψ h)) (
      ifT (n_Kind == 3) (
        s111c3 Ψ t (.lptr [(.int .i64 n_Kind), (.str n_Name), (.int .i64 n_L), (.int .i64 n_R)]) (n_Kind == 3) h) (
        ifT (n_Kind == 4) (
          s111c3 Ψ t (.lptr [(.int .i64 n_Kind), (.str n_Name), (.int .i64 n_L), (.int .i64 n_R)]) (n_Kind == 4) h) (
          s111c3 Ψ t (.lptr [(.int .i64 n_Kind), (.str n_Name), (.int .i64 n_L), (.int .i64 n_R)]) (n_Kind == 5) h))))

def s111_A (Ψ : AVal → Heap → Prop) : Ann :=
  .seq (.reg [⟨none, [(0, true), (1, false)]⟩])
  (.cut [] (fun l h => J.nil l (s111c1 Ψ h)) (.seq (rA 2)
  (.block (.seq (rA 2)
  (.cond (.seq (.cut [(3, .any), (16, .bool)] (fun l h => J.cons l fun x0 l => J.cons l fun v l => J.bool v fun x1 => J.nil l (s111c2 Ψ x0 x1 h)) (.reg [⟨none, [(0, false), (1, false), (2, false), (3, false)]⟩, ⟨some (12, false), [(4, false), (5, false), (6, false)]⟩, ⟨none, [(7, false)]⟩])
  (.cond (.seq (rA 1)
  (.leaf))
  (.leaf)))
  (.seq (rA 4)
  (.cond (.seq (rA 1)
  (.leaf))
  (.leaf))))
  (.seq (rA 2)
  (.cond (.seq (rA 3)
  (.cond (.seq (rA 1)
  (.leaf))
  (.leaf)))
  (.cut [(0, .any), (3, .any), (26, .bool)] (fun l h => J.cons l fun x0 l => J.cons l fun x1 l => J.cons l fun v l => J.bool v fun x2 => J.nil l (s111c3 Ψ x0 x1 x2 h)) (.seq (rA 2)
  (.cond (.leaf)
  (.seq (rA 2)
  (.cond (.leaf)
  (rA 2)))))
  (.cond (.cut [(46, .bool)] (fun l h => J.cons l fun v l => J.bool v fun x0 => J.nil l (s111c4 Ψ x0 h)) (.reg [⟨none, [(0, false), (1, false), (2, false), (3, false)]⟩, ⟨some (33, false), [(4, false), (5, false), (6, false), (7, false), (8, false)]⟩, ⟨none, [(9, false), (10, false)]⟩, ⟨some (40, false), [(11, false), (12, false), (13, false), (14, false), (15, false)]⟩, ⟨none, [(16, false)]⟩])
  (.cond (.seq (rA 1)
  (.leaf))
  (.leaf)))
  (.seq (rA 1)
  (.leaf))))))))))
  (.seq (rA 1)
  (.leaf)))

theorem s111_ok {Ψ : AVal → Heap → Prop} {t : AVal} {n_Kind : Int} {n_Name : ByteArray} {n_L : Int} {n_R : Int} {h : Heap} (H : s111 Ψ t n_Kind n_Name n_L n_R h) : ACalls prog 111 [t, (.agg [(.int .i64 n_Kind), (.str n_Name), (.int .i64 n_L), (.int .i64 n_R)])] h Ψ :=
  calls_of_evF func111 (by kernel_rfl) (by kernel_rfl) (by kernel_rfl)
    (Eq.mpr (by as_aux_lemma => kernel_rfl : oblF prog f111 (s111_A Ψ) Ψ = (True ∧ (True ∧ True ∧ (((True) ∧ (∀ (h : Heap) (x0 : AVal) (x1 : Bool), OI (s111c2 Ψ x0 x1 h)) ∧ ((True ∧ True) ∧ True)) ∧ True ∧ (True ∧ True) ∧ True) ∧ True ∧ (True ∧ (True ∧ True) ∧ True) ∧ (True ∧ True ∧ True ∧ True ∧ True) ∧ (∀ (h : Heap) (x0 x1 : AVal) (x2 : Bool), OI (s111c3 Ψ x0 x1 x2 h)) ∧ (((True) ∧ (∀ (h : Heap) (x0 : Bool), OI (s111c4 Ψ x0 h)) ∧ ((True ∧ True) ∧ True)) ∧ True ∧ True)) ∧ (∀ (h : Heap), OI (s111c1 Ψ h)) ∧ (True ∧ True))) ⟨trivial, ⟨⟨trivial, ⟨trivial, ⟨⟨⟨trivial, fun _ _ _ H => H, ⟨⟨trivial, trivial⟩, trivial⟩⟩, ⟨trivial, ⟨⟨trivial, trivial⟩, trivial⟩⟩⟩, ⟨trivial, ⟨⟨trivial, ⟨⟨trivial, trivial⟩, trivial⟩⟩, ⟨⟨trivial, ⟨trivial, ⟨trivial, ⟨trivial, trivial⟩⟩⟩⟩, fun _ _ _ _ H => H, ⟨⟨trivial, fun _ _ H => H, ⟨⟨trivial, trivial⟩, trivial⟩⟩, ⟨trivial, trivial⟩⟩⟩⟩⟩⟩⟩⟩, fun _ H => H, ⟨trivial, trivial⟩⟩⟩)
    (Eq.mpr (by as_aux_lemma => kernel_rfl : evF prog f111 (s111_A Ψ) Ψ [t, (.agg [(.int .i64 n_Kind), (.str n_Name), (.int .i64 n_L), (.int .i64 n_R)])] h = s111 Ψ t n_Kind n_Name n_L n_R h) H)

/- 122 math/bits.Len64 -/
def s122c3 (Ψ : AVal → Heap → Prop) (x3 n2 : Int) (h : Heap) : Prop :=
  ((0 : Int) ≤ (IntKind.u8.wrap x3) ∧ (IntKind.u8.wrap x3) < ((ByteArray.mk #[0, 1, 2, 2, 3, 3, 3, 3, 4, 4, 4, 4, 4, 4, 4, 4, 5, 5, 5, 5, 5, 5, 5, 5, 5, 5, 5, 5, 5, 5, 5, 5, 6, 6, 6, 6, 6, 6, 6, 6, 6, 6, 6, 6, 6, 6, 6, 6, 6, 6, 6, 6, 6, 6, 6, 6, 6, 6, 6, 6, 6, 6, 6, 6, 7, 7, 7, 7, 7, 7, 7, 7, 7, 7, 7, 7, 7, 7, 7, 7, 7, 7, 7, 7, 7, 7, 7, 7, 7, 7, 7, 7, 7, 7, 7, 7, 7, 7, 7, 7, 7, 7, 7, 7, 7, 7, 7, 7, 7, 7, 7, 7, 7, 7, 7, 7, 7, 7, 7, 7, 7, 7, 7, 7, 7, 7, 7, 7, 8, 8, 8, 8, 8, 8, 8, 8, 8, 8, 8, 8, 8, 8, 8, 8, 8, 8, 8, 8, 8, 8, 8, 8, 8, 8, 8, 8, 8, 8, 8, 8, 8, 8, 8, 8, 8, 8, 8, 8, 8, 8, 8, 8, 8, 8, 8, 8, 8, 8, 8, 8, 8, 8, 8, 8, 8, 8, 8, 8, 8, 8, 8, 8, 8, 8, 8, 8, 8, 8, 8, 8, 8, 8, 8, 8, 8, 8, 8, 8, 8, 8, 8, 8, 8, 8, 8, 8, 8, 8, 8, 8, 8, 8, 8, 8, 8, 8, 8, 8, 8, 8, 8, 8, 8, 8, 8, 8, 8, 8, 8, 8, 8, 8, 8, 8, 8, 8, 8, 8, 8, 8, 8, 8, 8, 8, 8, 8]).size : Int)) ∧
  rg (btA (ByteArray.mk #[0, 1, 2, 2, 3, 3, 3, 3, 4, 4, 4, 4, 4, 4, 4, 4, 5, 5, 5, 5, 5, 5, 5, 5, 5, 5, 5, 5, 5, 5, 5, 5, 6, 6, 6, 6, 6, 6, 6, 6, 6, 6, 6, 6, 6, 6, 6, 6, 6, 6, 6, 6, 6, 6, 6, 6, 6, 6, 6, 6, 6, 6, 6, 6, 7, 7, 7, 7, 7, 7, 7, 7, 7, 7, 7, 7, 7, 7, 7, 7, 7, 7, 7, 7, 7, 7, 7, 7, 7, 7, 7, 7, 7, 7, 7, 7, 7, 7, 7, 7, 7, 7, 7, 7, 7, 7, 7, 7, 7, 7, 7, 7, 7, 7, 7, 7, 7, 7, 7, 7, 7, 7, 7, 7, 7, 7, 7, 7, 8, 8, 8, 8, 8, 8, 8, 8, 8, 8, 8, 8, 8, 8, 8, 8, 8, 8, 8, 8, 8, 8, 8, 8, 8, 8, 8, 8, 8, 8, 8, 8, 8, 8, 8, 8, 8, 8, 8, 8, 8, 8, 8, 8, 8, 8, 8, 8, 8, 8, 8, 8, 8, 8, 8, 8, 8, 8, 8, 8, 8, 8, 8, 8, 8, 8, 8, 8, 8, 8, 8, 8, 8, 8, 8, 8, 8, 8, 8, 8, 8, 8, 8, 8, 8, 8, 8, 8, 8, 8, 8, 8, 8, 8, 8, 8, 8, 8, 8, 8, 8, 8, 8, 8, 8, 8, 8, 8, 8, 8, 8, 8, 8, 8, 8, 8, 8, 8, 8, 8, 8, 8, 8, 8, 8, 8, 8, 8]) (IntKind.u8.wrap x3)) (
    rg (n2 + (btA (ByteArray.mk #[0, 1, 2, 2, 3, 3, 3, 3, 4, 4, 4, 4, 4, 4, 4, 4, 5, 5, 5, 5, 5, 5, 5, 5, 5, 5, 5, 5, 5, 5, 5, 5, 6, 6, 6, 6, 6, 6, 6, 6, 6, 6, 6, 6, 6, 6, 6, 6, 6, 6, 6, 6, 6, 6, 6, 6, 6, 6, 6, 6, 6, 6, 6, 6, 7, 7, 7, 7, 7, 7, 7, 7, 7, 7, 7, 7, 7, 7, 7, 7, 7, 7, 7, 7, 7, 7, 7, 7, 7, 7, 7, 7, 7, 7, 7, 7, 7, 7, 7, 7, 7, 7, 7, 7, 7, 7, 7, 7, 7, 7, 7, 7, 7, 7, 7, 7, 7, 7, 7, 7, 7, 7, 7, 7, 7, 7, 7, 7, 8, 8, 8, 8, 8, 8, 8, 8, 8, 8, 8, 8, 8, 8, 8, 8, 8, 8, 8, 8, 8, 8, 8, 8, 8, 8, 8, 8, 8, 8, 8, 8, 8, 8, 8, 8, 8, 8, 8, 8, 8, 8, 8, 8, 8, 8, 8, 8, 8, 8, 8, 8, 8, 8, 8, 8, 8, 8, 8, 8, 8, 8, 8, 8, 8, 8, 8, 8, 8, 8, 8, 8, 8, 8, 8, 8, 8, 8, 8, 8, 8, 8, 8, 8, 8, 8, 8, 8, 8, 8, 8, 8, 8, 8, 8, 8, 8, 8, 8, 8, 8, 8, 8, 8, 8, 8, 8, 8, 8, 8, 8, 8, 8, 8, 8, 8, 8, 8, 8, 8, 8, 8, 8, 8, 8, 8, 8, 8]) (IntKind.u8.wrap x3))) (
      retG (.int .i64 (n2 + (btA (ByteArray.mk #[0, 1, 2, 2, 3, 3, 3, 3, 4, 4, 4, 4, 4, 4, 4, 4, 5, 5, 5, 5, 5, 5, 5, 5, 5, 5, 5, 5, 5, 5, 5, 5, 6, 6, 6, 6, 6, 6, 6, 6, 6, 6, 6, 6, 6, 6, 6, 6, 6, 6, 6, 6, 6, 6, 6, 6, 6, 6, 6, 6, 6, 6, 6, 6, 7, 7, 7, 7, 7, 7, 7, 7, 7, 7, 7, 7, 7, 7, 7, 7, 7, 7, 7, 7, 7, 7, 7, 7, 7, 7, 7, 7, 7, 7, 7, 7, 7, 7, 7, 7, 7, 7, 7, 7, 7, 7, 7, 7, 7, 7, 7, 7, 7, 7, 7, 7, 7, 7, 7, 7, 7, 7, 7, 7, 7, 7, 7, 7, 8, 8, 8, 8, 8, 8, 8, 8, 8, 8, 8, 8, 8, 8, 8, 8, 8, 8, 8, 8, 8, 8, 8, 8, 8, 8, 8, 8, 8, 8, 8, 8, 8, 8, 8, 8, 8, 8, 8, 8, 8, 8, 8, 8, 8, 8, 8, 8, 8, 8, 8, 8, 8, 8, 8, 8, 8, 8, 8, 8, 8, 8, 8, 8, 8, 8, 8, 8, 8, 8, 8, 8, 8, 8, 8, 8, 8, 8, 8, 8, 8, 8, 8, 8, 8, 8, 8, 8, 8, 8, 8, 8, 8, 8, 8, 8, 8, 8, 8, 8, 8, 8, 8, 8, 8, 8, 8, 8, 8, 8, 8, 8, 8, 8, 8, 8, 8, 8, 8, 8, 8, 8, 8, 8, 8, 8, 8, 8]) (IntKind.u8.wrap x3)))) h Ψ))

def s122c2 (Ψ : AVal → Heap → Prop) (x2 n1 : Int) (h : Heap) : Prop :=
  ifT (decide (256 ≤ x2)) (
    (0 : Int) ≤ 8 ∧
    rg (n1 + 8) (
      s122c3 Ψ (Int.fdiv x2 (2 ^ (min (Int.toNat 8) (IntKind.u64.bits)))) (n1 + 8) h)) (
    s122c3 Ψ x2 n1 h)

def s122c1 (Ψ : AVal → Heap → Prop) (x1 n : Int) (h : Heap) : Prop :=
  ifT (decide (65536 ≤ x1)) (
    (0 : Int) ≤ 16 ∧
    rg (n + 16) (
      s122c2 Ψ (Int.fdiv x1 (2 ^ (min (Int.toNat 16) (IntKind.u64.bits)))) (n + 16) h)) (
    s122c2 Ψ x1 n h)

def s122 (Ψ : AVal → Heap → Prop) (x : Int) (h : Heap) : Prop :=
  ifT (decide (4294967296 ≤ x)) (
    (0 : Int) ≤ 32 ∧
    s122c1 Ψ (Int.fdiv x (2 ^ (min (Int.toNat 32) (IntKind.u64.bits)))) 32 h) (
    s122c1 Ψ x 0 h)

def s122_A (Ψ : AVal → Heap → Prop) : Ann :=
  .seq (rA 1)
  (.cut [(0, .int .u64), (2, .int .i64)] (fun l h => J.cons l fun v l => J.int .u64 v fun x0 => J.cons l fun v l => J.int .i64 v fun x1 => J.nil l (s122c1 Ψ x0 x1 h)) (.seq (rA 2)
  (.cond (.seq (rA 3)
  (rA 1))
  (.leaf)))
  (.cut [(0, .int .u64), (2, .int .i64)] (fun l h => J.cons l fun v l => J.int .u64 v fun x0 => J.cons l fun v l => J.int .i64 v fun x1 => J.nil l (s122c2 Ψ x0 x1 h)) (.seq (rA 2)
  (.cond (.seq (rA 3)
  (rA 3))
  (.leaf)))
  (.cut [(0, .int .u64), (2, .int .i64)] (fun l h => J.cons l fun v l => J.int .u64 v fun x0 => J.cons l fun v l => J.int .i64 v fun x1 => J.nil l (s122c3 Ψ x0 x1 h)) (.seq (rA 2)
  (.cond (.seq (rA 3)
  (rA 3))
  (.leaf)))
  (.seq (rA 7)
  (.leaf)))))

theorem s122_ok {Ψ : AVal → Heap → Prop} {x : Int} {h : Heap} (H : s122 Ψ x h) : ACalls prog 122 [(.int .u64 x)] h Ψ :=
  calls_of_evF func122 (by kernel_rfl) (by kernel_rfl) (by kernel_rfl)
    (Eq.mpr (by as_aux_lemma => kernel_rfl : oblF prog f122 (s122_A Ψ) Ψ = (True ∧ (True ∧ (True ∧ True) ∧ True) ∧ (∀ (h : Heap) (x0 x1 : Int), OI (s122c1 Ψ x0 x1 h)) ∧ ((True ∧ (True ∧ True) ∧ True) ∧ (∀ (h : Heap) (x0 x1 : Int), OI (s122c2 Ψ x0 x1 h)) ∧ ((True ∧ (True ∧ True) ∧ True) ∧ (∀ (h : Heap) (x0 x1 : Int), OI (s122c3 Ψ x0 x1 h)) ∧ (True ∧ True))))) ⟨trivial, ⟨⟨trivial, ⟨⟨trivial, trivial⟩, trivial⟩⟩, fun _ _ _ H => H, ⟨⟨trivial, ⟨⟨trivial, trivial⟩, trivial⟩⟩, fun _ _ _ H => H, ⟨⟨trivial, ⟨⟨trivial, trivial⟩, trivial⟩⟩, fun _ _ _ H => H, ⟨trivial, trivial⟩⟩⟩⟩⟩)
    (Eq.mpr (by as_aux_lemma => kernel_rfl : evF prog f122 (s122_A Ψ) Ψ [(.int .u64 x)] h = s122 Ψ x h) H)

end Go.Proofs.YtobpfhmjdoekfaaGreat

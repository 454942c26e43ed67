/- The functions that the proof meets, each as a text that Lean has checked against the program. No condition. -/
import Derived.Test.YtinficcdpggiaaaM3
import Derived.Test.YtinficcdpggiaaaChecked
namespace Go.Proofs.Ytinficcdpggiaaa
open Go Go.Sym Go.Proofs.Try
set_option maxRecDepth 100000
set_option linter.unusedVariables false

/- 3 dictum/dictumlaw19.MorphMakes -/
abbrev s3l1_T := Int → AVal → AVal → AVal → AVal → Int → Heap → Prop
def s3l1_R (F : s3l1_T) (l : List AVal) (h : Heap) : Prop := J.cons l fun v l => J.int .i64 v fun x0 => J.cons l fun x1 l => J.cons l fun x2 l => J.cons l fun x3 l => J.cons l fun x4 l => J.cons l fun v l => J.int .i64 v fun x5 => J.nil l (F x0 x1 x2 x3 x4 x5 h)
def s3l1_G (F : s3l1_T) (x0 : Int) (x1 x2 x3 x4 : AVal) (x5 : Int) (h : Heap) : Prop := gJ [.int .i64, .any, .any, .any, .any, .int .i64] [(.int .i64 x0), x1, x2, x3, x4, (.int .i64 x5)] h (s3l1_R F)
def s3l1_E (F : Nat → s3l1_T) (x0 : Int) (x1 x2 x3 x4 : AVal) (x5 : Int) (h : Heap) : Prop := gJ [.int .i64, .any, .any, .any, .any, .int .i64] [(.int .i64 x0), x1, x2, x3, x4, (.int .i64 x5)] h (fun l h => ∃ n, s3l1_R (F n) l h)
theorem s3l1_go {F : s3l1_T} {x0 : Int} {x1 x2 x3 x4 : AVal} {x5 : Int} {h : Heap} (H : F x0 x1 x2 x3 x4 x5 h) : s3l1_G F x0 x1 x2 x3 x4 x5 h := gJ_plain rfl H
theorem s3l1_in {F : Nat → s3l1_T} {x0 : Int} {x1 x2 x3 x4 : AVal} {x5 : Int} {h : Heap} (n : Nat) (H : F n x0 x1 x2 x3 x4 x5 h) : s3l1_E F x0 x1 x2 x3 x4 x5 h := gJ_plain rfl ⟨n, H⟩

abbrev s3l2_T := Int → AVal → AVal → AVal → AVal → Int → Int → Heap → Prop
def s3l2_R (F : s3l2_T) (l : List AVal) (h : Heap) : Prop := J.cons l fun v l => J.int .i64 v fun x0 => J.cons l fun x1 l => J.cons l fun x2 l => J.cons l fun x3 l => J.cons l fun x4 l => J.cons l fun v l => J.int .i64 v fun x5 => J.cons l fun v l => J.int .i64 v fun x6 => J.nil l (F x0 x1 x2 x3 x4 x5 x6 h)
def s3l2_G (F : s3l2_T) (x0 : Int) (x1 x2 x3 x4 : AVal) (x5 x6 : Int) (h : Heap) : Prop := gJ [.int .i64, .any, .any, .any, .any, .int .i64, .int .i64] [(.int .i64 x0), x1, x2, x3, x4, (.int .i64 x5), (.int .i64 x6)] h (s3l2_R F)
def s3l2_E (F : Nat → s3l2_T) (x0 : Int) (x1 x2 x3 x4 : AVal) (x5 x6 : Int) (h : Heap) : Prop := gJ [.int .i64, .any, .any, .any, .any, .int .i64, .int .i64] [(.int .i64 x0), x1, x2, x3, x4, (.int .i64 x5), (.int .i64 x6)] h (fun l h => ∃ n, s3l2_R (F n) l h)
theorem s3l2_go {F : s3l2_T} {x0 : Int} {x1 x2 x3 x4 : AVal} {x5 x6 : Int} {h : Heap} (H : F x0 x1 x2 x3 x4 x5 x6 h) : s3l2_G F x0 x1 x2 x3 x4 x5 x6 h := gJ_plain rfl H
theorem s3l2_in {F : Nat → s3l2_T} {x0 : Int} {x1 x2 x3 x4 : AVal} {x5 x6 : Int} {h : Heap} (n : Nat) (H : F n x0 x1 x2 x3 x4 x5 x6 h) : s3l2_E F x0 x1 x2 x3 x4 x5 x6 h := gJ_plain rfl ⟨n, H⟩

def s3l2 (Ψ : AVal → Heap → Prop) (L1 : s3l1_T) : Nat → s3l2_T
  | 0, _, _, _, _, _, _, _, _ => False
  | n2 + 1, w2, m1, own1, a1, c1, i1, k, h =>
    addOff a1 1 fun p1 =>
    ld1 h p1 fun v26 =>
    ixS 1 v26 i1 fun p2 =>
    ld1 h p2 fun v27 =>
    lenN v27 fun n3 =>
    ifT (decide (k < n3)) (
      addOff a1 1 fun p3 =>
      ld1 h p3 fun v28 =>
      ixS 1 v28 i1 fun p4 =>
      ld1 h p4 fun v29 =>
      ixS 1 v29 k fun p5 =>
      st true h p5 [(.str (ByteArray.mk #[63]))] fun h_10 =>
      rg (k + 1) (
        s3l2_G (s3l2 Ψ L1 n2) w2 m1 own1 a1 c1 i1 (k + 1) h_10)) (
      rg (i1 + 1) (
        L1 w2 m1 own1 a1 c1 (i1 + 1) h))

def s3c3 (Ψ : AVal → Heap → Prop) (w3 : Int) (m2 own2 a2 c2 : AVal) (t106 : Bool) (h : Heap) : Prop :=
  ifT t106 (
    retG (.bool false) h Ψ) (
    ldN 2 h own2 fun l_58 =>
    tCons l_58 fun v60 l_59 =>
    tCons l_59 fun v61 l_60 =>
    tNil l_60 (
      callG prog 17 [(.agg [v60, v61]), (.int .i64 w3)] h fun v62 h_17 =>
      tTup v62 fun l_61 =>
      tCons l_61 fun v63 l_62 =>
      tCons l_62 fun v64 l_63 =>
      tCons l_63 fun v65 l_64 =>
      tInt .i64 v65 fun v66 =>
      tNil l_64 (
        tAgg v63 fun l_65 =>
        tCons l_65 fun v67 l_66 =>
        tCons l_66 fun v68 l_67 =>
        tNil l_67 (
          st false h_17 a2 [v67, v68] fun h_18 =>
          ldN 2 h_18 m2 fun l_68 =>
          tCons l_68 fun v69 l_69 =>
          tCons l_69 fun v70 l_70 =>
          tNil l_70 (
            callG prog 18 [(.agg [v69, v70]), (.int .i64 w3)] h_18 fun v71 h_19 =>
            tTup v71 fun l_71 =>
            tCons l_71 fun v72 l_72 =>
            tCons l_72 fun v73 l_73 =>
            tCons l_73 fun v74 l_74 =>
            tInt .i64 v74 fun v75 =>
            tNil l_74 (
              tAgg v72 fun l_75 =>
              tCons l_75 fun v76 l_76 =>
              tCons l_76 fun v77 l_77 =>
              tNil l_77 (
                st false h_19 c2 [v76, v77] fun h_20 =>
                ldN 2 h_20 a2 fun l_78 =>
                tCons l_78 fun v78 l_79 =>
                tCons l_79 fun v79 l_80 =>
                tNil l_80 (
                  ldN 2 h_20 c2 fun l_81 =>
                  tCons l_81 fun v80 l_82 =>
                  tCons l_82 fun v81 l_83 =>
                  tNil l_83 (
                    callG prog 11 [(.agg [v78, v79]), v64, (.int .i64 v66), (.agg [v80, v81]), v73, (.int .i64 v75)] h_20 fun v82 h_21 =>
                    tBool v82 fun v83 =>
                    ifT v83 (
                      ldN 2 h_21 own2 fun l_84 =>
                      tCons l_84 fun v84 l_85 =>
                      tCons l_85 fun v85 l_86 =>
                      tNil l_86 (
                        ldN 2 h_21 m2 fun l_87 =>
                        tCons l_87 fun v86 l_88 =>
                        tCons l_88 fun v87 l_89 =>
                        tNil l_89 (
                          callG prog 19 [(.agg [v84, v85]), (.agg [v86, v87])] h_21 fun v88 h_22 =>
                          tBool v88 fun v89 =>
                          ifT v89 (
                            callG prog 20 [] h_22 fun v90 h_23 =>
                            tBool v90 fun v91 =>
                            retG (.bool v91) h_23 Ψ) (
                            retG (.bool false) h_22 Ψ)))) (
                      retG (.bool false) h_21 Ψ))))))))))

def s3l1 (Ψ : AVal → Heap → Prop) : Nat → s3l1_T
  | 0, _, _, _, _, _, _, _ => False
  | n + 1, w1, m, own, a, c, i, h =>
    addOff a 1 fun p =>
    ld1 h p fun v25 =>
    lenN v25 fun n1 =>
    ifT (decide (i < n1)) (
      s3l2_E (s3l2 Ψ (s3l1_G (s3l1 Ψ n))) w1 m own a c i 0 h) (
      ldN 2 h own fun l_26 =>
      tCons l_26 fun v30 l_27 =>
      tCons l_27 fun v31 l_28 =>
      tNil l_28 (
        callG prog 12 [(.agg [v30, v31])] h fun v32 h_11 =>
        tTup v32 fun l_29 =>
        tCons l_29 fun v33 l_30 =>
        tCons l_30 fun v34 l_31 =>
        tCons l_31 fun v35 l_32 =>
        tInt .i64 v35 fun v36 =>
        tNil l_32 (
          tAgg v33 fun l_33 =>
          tCons l_33 fun v37 l_34 =>
          tCons l_34 fun v38 l_35 =>
          tNil l_35 (
            st false h_11 a [v37, v38] fun h_12 =>
            ldN 2 h_12 m fun l_36 =>
            tCons l_36 fun v39 l_37 =>
            tCons l_37 fun v40 l_38 =>
            tNil l_38 (
              callG prog 13 [(.agg [v39, v40])] h_12 fun v41 h_13 =>
              tTup v41 fun l_39 =>
              tCons l_39 fun v42 l_40 =>
              tCons l_40 fun v43 l_41 =>
              tCons l_41 fun v44 l_42 =>
              tInt .i64 v44 fun v45 =>
              tNil l_42 (
                tAgg v42 fun l_43 =>
                tCons l_43 fun v46 l_44 =>
                tCons l_44 fun v47 l_45 =>
                tNil l_45 (
                  st false h_13 c [v46, v47] fun h_14 =>
                  ldN 2 h_14 own fun l_46 =>
                  tCons l_46 fun v48 l_47 =>
                  tCons l_47 fun v49 l_48 =>
                  tNil l_48 (
                    callG prog 14 [(.agg [v48, v49])] h_14 fun v50 h_15 =>
                    tTup v50 fun l_49 =>
                    tCons l_49 fun v51 l_50 =>
                    tCons l_50 fun v52 l_51 =>
                    tInt .i64 v52 fun v53 =>
                    tNil l_51 (
                      ldN 2 h_15 m fun l_52 =>
                      tCons l_52 fun v54 l_53 =>
                      tCons l_53 fun v55 l_54 =>
                      tNil l_54 (
                        callG prog 15 [(.agg [v54, v55])] h_15 fun v56 h_16 =>
                        tTup v56 fun l_55 =>
                        tCons l_55 fun v57 l_56 =>
                        tCons l_56 fun v58 l_57 =>
                        tInt .i64 v58 fun v59 =>
                        tNil l_57 (
                          ldN 2 h_16 a fun l_90 =>
                          tCons l_90 fun v92 l_91 =>
                          tCons l_91 fun v93 l_92 =>
                          tNil l_92 (
                            ldN 2 h_16 c fun l_93 =>
                            tCons l_93 fun v94 l_94 =>
                            tCons l_94 fun v95 l_95 =>
                            tNil l_95 (
                              callG prog 11 [(.agg [v92, v93]), v34, (.int .i64 v36), (.agg [v94, v95]), v43, (.int .i64 v45)] h_16 fun v96 h_24 =>
                              tBool v96 fun v97 =>
                              ifT (!v97) (
                                s3c3 Ψ w1 m own a c true h_24) (
                                callG prog 16 [v51, v57] h_24 fun v98 h_25 =>
                                tBool v98 fun v99 =>
                                ifT (!v99) (
                                  s3c3 Ψ w1 m own a c true h_25) (
                                  s3c3 Ψ w1 m own a c (v53 != v59) h_25)))))))))))))))

def s3 (Ψ : AVal → Heap → Prop) (m_Up : AVal) (m_Val : AVal) (w : Int) (h : Heap) : Prop :=
  callG prog 8 [(.agg [m_Up, m_Val])] h fun v h_ =>
  tAgg v fun l_ =>
  tCons l_ fun v1 l_1 =>
  tCons l_1 fun v2 l_2 =>
  tNil l_2 (
    Sym.newRow 2 [(.agg [.nilsl, .nilsl])] h_ fun r h_1 =>
    st false h_1 (.ptr r 0 0) [v1, v2] fun h_2 =>
    ldN 2 h_2 (.ptr r 0 0) fun l_3 =>
    tCons l_3 fun v3 l_4 =>
    tCons l_4 fun v4 l_5 =>
    tNil l_5 (
      callG prog 9 [(.agg [v3, v4]), (.int .i64 w)] h_2 fun v5 h_3 =>
      tTup v5 fun l_6 =>
      tCons l_6 fun v6 l_7 =>
      tCons l_7 fun v7 l_8 =>
      tCons l_8 fun v8 l_9 =>
      tInt .i64 v8 fun v9 =>
      tNil l_9 (
        tAgg v6 fun l_10 =>
        tCons l_10 fun v10 l_11 =>
        tCons l_11 fun v11 l_12 =>
        tNil l_12 (
          Sym.newRow 2 [(.agg [.nilsl, .nilsl])] h_3 fun r1 h_4 =>
          st false h_4 (.ptr r1 0 0) [v10, v11] fun h_5 =>
          callG prog 10 [(.agg [m_Up, m_Val]), (.int .i64 w)] h_5 fun v12 h_6 =>
          tTup v12 fun l_13 =>
          tCons l_13 fun v13 l_14 =>
          tCons l_14 fun v14 l_15 =>
          tCons l_15 fun v15 l_16 =>
          tInt .i64 v15 fun v16 =>
          tNil l_16 (
            tAgg v13 fun l_17 =>
            tCons l_17 fun v17 l_18 =>
            tCons l_18 fun v18 l_19 =>
            tNil l_19 (
              Sym.newRow 2 [(.agg [.nilsl, .nilsl])] h_6 fun r2 h_7 =>
              st false h_7 (.ptr r2 0 0) [v17, v18] fun h_8 =>
              ldN 2 h_8 (.ptr r1 0 0) fun l_20 =>
              tCons l_20 fun v19 l_21 =>
              tCons l_21 fun v20 l_22 =>
              tNil l_22 (
                ldN 2 h_8 (.ptr r2 0 0) fun l_23 =>
                tCons l_23 fun v21 l_24 =>
                tCons l_24 fun v22 l_25 =>
                tNil l_25 (
                  callG prog 11 [(.agg [v19, v20]), v7, (.int .i64 v9), (.agg [v21, v22]), v14, (.int .i64 v16)] h_8 fun v23 h_9 =>
                  tBool v23 fun v24 =>
                  ifT (!v24) (
                    retG (.bool false) h_9 Ψ) (
                    s3l1_E (s3l1 Ψ) w (.lptr [m_Up, m_Val]) (.ptr r 0 0) (.ptr r1 0 0) (.ptr r2 0 0) 0 h_9)))))))))

def s3_A (Ψ : AVal → Heap → Prop) : Ann :=
  .seq (.reg [⟨none, [(0, true), (1, false)]⟩])
  (.seq (rA 4)
  (.seq (rA 11)
  (.seq (rA 11)
  (.seq (.seq (rA 8)
  (.cond (.seq (rA 1)
  (.leaf))
  (.leaf)))
  (.seq (.seq (rA 1)
  (.block (.loop [(1, .int .i64), (2, .any), (5, .any), (6, .any), (9, .any), (12, .int .i64)] (fun n l h => s3l1_R (s3l1 Ψ n) l h) (fun L1 =>
  .seq (.seq (rA 5)
  (.cond (.leaf)
  (.leaf)))
  (.seq (.block (.seq (rA 1)
  (.block (.loop [(1, .int .i64), (2, .any), (5, .any), (6, .any), (9, .any), (12, .int .i64), (13, .int .i64)] (fun n l h => s3l2_R (s3l2 Ψ (fun y0 y1 y2 y3 y4 y5 h => L1 [(.int .i64 y0), y1, y2, y3, y4, (.int .i64 y5)] h) n) l h) (fun L2 =>
  .seq (.seq (rA 8)
  (.cond (.leaf)
  (.leaf)))
  (.seq (.block (rA 8))
  (rA 3)))))))
  (rA 3))))))
  (.seq (rA 9)
  (.seq (rA 9)
  (.seq (rA 7)
  (.seq (rA 7)
  (.seq (.cut [(1, .int .i64), (2, .any), (5, .any), (6, .any), (9, .any), (106, .bool)] (fun l h => J.cons l fun v l => J.int .i64 v fun x0 => J.cons l fun x1 l => J.cons l fun x2 l => J.cons l fun x3 l => J.cons l fun x4 l => J.cons l fun v l => J.bool v fun x5 => J.nil l (s3c3 Ψ x0 x1 x2 x3 x4 x5 h)) (.reg [⟨none, [(0, false), (1, false), (2, false), (3, false), (4, false), (5, false), (6, false), (7, false), (8, false)]⟩, ⟨some (96, false), [(9, false), (10, false), (11, false), (12, false)]⟩, ⟨none, [(13, false), (14, false)]⟩, ⟨some (102, false), [(15, false), (16, false), (17, false)]⟩, ⟨none, [(18, false)]⟩])
  (.cond (.seq (rA 1)
  (.leaf))
  (.leaf)))
  (.seq (rA 10)
  (.seq (rA 10)
  (.seq (.reg [⟨none, [(0, false), (1, false), (2, false), (3, false), (4, false), (5, false), (6, false), (7, false)]⟩, ⟨some (128, true), [(8, false), (9, false), (10, false)]⟩, ⟨none, [(11, false), (12, false)]⟩, ⟨some (133, true), [(13, false)]⟩, ⟨none, [(14, false), (15, false)]⟩])
  (.leaf))))))))))))))

theorem s3_ok {Ψ : AVal → Heap → Prop} {m_Up : AVal} {m_Val : AVal} {w : Int} {h : Heap} (H : s3 Ψ m_Up m_Val w h) : ACalls prog 3 [(.agg [m_Up, m_Val]), (.int .i64 w)] h Ψ :=
  calls_of_evF func3 (by kernel_rfl) (by kernel_rfl) (by kernel_rfl)
    (Eq.mpr (by as_aux_lemma => kernel_rfl : oblF prog f3 (s3_A Ψ) Ψ = (True ∧ True ∧ True ∧ True ∧ (True ∧ (True ∧ True) ∧ True) ∧ (True ∧ (∀ (h : Heap) (x0 : Int) (x1 x2 x3 x4 : AVal) (x5 : Int), ON (s3l1 Ψ 0 x0 x1 x2 x3 x4 x5 h)) ∧ ∀ n1 : Nat, (∀ (h : Heap) (x0 : Int) (x1 x2 x3 x4 : AVal) (x5 : Int), OI (s3l1 Ψ (n1 + 1) x0 x1 x2 x3 x4 x5 h)) ∧ ((True ∧ True ∧ True) ∧ (True ∧ (∀ (h : Heap) (x0 : Int) (x1 x2 x3 x4 : AVal) (x5 x6 : Int), ON (s3l2 Ψ (s3l1_G (s3l1 Ψ n1)) 0 x0 x1 x2 x3 x4 x5 x6 h)) ∧ ∀ n2 : Nat, (∀ (h : Heap) (x0 : Int) (x1 x2 x3 x4 : AVal) (x5 x6 : Int), OI (s3l2 Ψ (s3l1_G (s3l1 Ψ n1)) (n2 + 1) x0 x1 x2 x3 x4 x5 x6 h)) ∧ ((True ∧ True ∧ True) ∧ True ∧ True)) ∧ True)) ∧ True ∧ True ∧ True ∧ True ∧ ((True) ∧ (∀ (h : Heap) (x0 : Int) (x1 x2 x3 x4 : AVal) (x5 : Bool), OI (s3c3 Ψ x0 x1 x2 x3 x4 x5 h)) ∧ ((True ∧ True) ∧ True)) ∧ True ∧ True ∧ True ∧ True)) ⟨trivial, ⟨trivial, ⟨trivial, ⟨trivial, ⟨⟨trivial, ⟨⟨trivial, trivial⟩, trivial⟩⟩, ⟨⟨trivial, ⟨fun _ _ _ _ _ _ _ H => H, fun _ => ⟨fun _ _ _ _ _ _ _ H => H, ⟨⟨trivial, ⟨trivial, trivial⟩⟩, ⟨⟨trivial, ⟨fun _ _ _ _ _ _ _ _ H => H, fun _ => ⟨fun _ _ _ _ _ _ _ _ H => H, ⟨⟨trivial, ⟨trivial, trivial⟩⟩, ⟨trivial, trivial⟩⟩⟩⟩⟩, trivial⟩⟩⟩⟩⟩, ⟨trivial, ⟨trivial, ⟨trivial, ⟨trivial, ⟨⟨trivial, fun _ _ _ _ _ _ _ H => H, ⟨⟨trivial, trivial⟩, trivial⟩⟩, ⟨trivial, ⟨trivial, ⟨trivial, trivial⟩⟩⟩⟩⟩⟩⟩⟩⟩⟩⟩⟩⟩⟩)
    (Eq.mpr (by as_aux_lemma => kernel_rfl : evF prog f3 (s3_A Ψ) Ψ [(.agg [m_Up, m_Val]), (.int .i64 w)] h = s3 Ψ m_Up m_Val w h) H)

/- 9 dictum/morph.Above -/
def s9c1 (Ψ : AVal → Heap → Prop) (w1 : Int) (m t4 o : AVal) (t26 : Bool) (h : Heap) : Prop :=
  ifT t26 (
    st false h t4 [.nilsl, .nilsl] fun h_3 =>
    ldN 2 h_3 t4 fun l_6 =>
    tCons l_6 fun v6 l_7 =>
    tCons l_7 fun v7 l_8 =>
    tNil l_8 (
      retG (.tuple [(.agg [v6, v7]), .nilsl, (.int .i64 2)]) h_3 Ψ)) (
    ixS 1 o w1 fun p =>
    ld1 h p fun v8 =>
    callG prog 29 [v8] h fun v9 h_4 =>
    ldN 2 h_4 m fun l_9 =>
    tCons l_9 fun v10 l_10 =>
    tCons l_10 fun v11 l_11 =>
    tNil l_11 (
      callG prog 30 [(.agg [v10, v11]), o, v9] h_4 fun v12 h_5 =>
      tAgg v12 fun l_12 =>
      tCons l_12 fun v13 l_13 =>
      tCons l_13 fun v14 l_14 =>
      tNil l_14 (
        st false h_5 t4 [v13, v14] fun h_6 =>
        ldN 2 h_6 t4 fun l_15 =>
        tCons l_15 fun v15 l_16 =>
        tCons l_16 fun v16 l_17 =>
        tNil l_17 (
          retG (.tuple [(.agg [v15, v16]), v9, (.int .i64 0)]) h_6 Ψ))))

def s9 (Ψ : AVal → Heap → Prop) (m_Up : AVal) (m_Val : AVal) (w : Int) (h : Heap) : Prop :=
  Sym.newRow 2 [(.agg [.nilsl, .nilsl])] h fun r h_ =>
  callG prog 28 [(.agg [m_Up, m_Val])] h_ fun v h_1 =>
  tTup v fun l_ =>
  tCons l_ fun v1 l_1 =>
  tCons l_1 fun v2 l_2 =>
  tInt .i64 v2 fun v3 =>
  tNil l_2 (
    ifT (v3 != 0) (
      st false h_1 (.ptr r 0 0) [.nilsl, .nilsl] fun h_2 =>
      ldN 2 h_2 (.ptr r 0 0) fun l_3 =>
      tCons l_3 fun v4 l_4 =>
      tCons l_4 fun v5 l_5 =>
      tNil l_5 (
        retG (.tuple [(.agg [v4, v5]), .nilsl, (.int .i64 v3)]) h_2 Ψ)) (
      ifT (decide (w < 0)) (
        s9c1 Ψ w (.lptr [m_Up, m_Val]) (.ptr r 0 0) v1 true h_1) (
        lenN v1 fun n =>
        s9c1 Ψ w (.lptr [m_Up, m_Val]) (.ptr r 0 0) v1 (decide (n ≤ w)) h_1)))

def s9_A (Ψ : AVal → Heap → Prop) : Ann :=
  .seq (.reg [⟨none, [(0, true), (1, false), (2, false), (3, false)]⟩])
  (.seq (rA 7)
  (.seq (.seq (rA 2)
  (.cond (.seq (rA 5)
  (.leaf))
  (.leaf)))
  (.seq (.cut [(1, .int .i64), (2, .any), (4, .any), (7, .any), (26, .bool)] (fun l h => J.cons l fun v l => J.int .i64 v fun x0 => J.cons l fun x1 l => J.cons l fun x2 l => J.cons l fun x3 l => J.cons l fun v l => J.bool v fun x4 => J.nil l (s9c1 Ψ x0 x1 x2 x3 x4 h)) (.reg [⟨none, [(0, false), (1, false), (2, false)]⟩, ⟨some (21, false), [(3, false), (4, false), (5, false), (6, false)]⟩, ⟨none, [(7, false)]⟩])
  (.cond (.seq (rA 4)
  (.leaf))
  (.leaf)))
  (.seq (rA 6)
  (.seq (rA 8)
  (.leaf))))))

theorem s9_ok {Ψ : AVal → Heap → Prop} {m_Up : AVal} {m_Val : AVal} {w : Int} {h : Heap} (H : s9 Ψ m_Up m_Val w h) : ACalls prog 9 [(.agg [m_Up, m_Val]), (.int .i64 w)] h Ψ :=
  calls_of_evF func9 (by kernel_rfl) (by kernel_rfl) (by kernel_rfl)
    (Eq.mpr (by as_aux_lemma => kernel_rfl : oblF prog f9 (s9_A Ψ) Ψ = (True ∧ True ∧ (True ∧ (True ∧ True) ∧ True) ∧ ((True) ∧ (∀ (h : Heap) (x0 : Int) (x1 x2 x3 : AVal) (x4 : Bool), OI (s9c1 Ψ x0 x1 x2 x3 x4 h)) ∧ ((True ∧ True) ∧ True)) ∧ True ∧ True ∧ True)) ⟨trivial, ⟨trivial, ⟨⟨trivial, ⟨⟨trivial, trivial⟩, trivial⟩⟩, ⟨⟨trivial, fun _ _ _ _ _ _ H => H, ⟨⟨trivial, trivial⟩, trivial⟩⟩, ⟨trivial, ⟨trivial, trivial⟩⟩⟩⟩⟩⟩)
    (Eq.mpr (by as_aux_lemma => kernel_rfl : evF prog f9 (s9_A Ψ) Ψ [(.agg [m_Up, m_Val]), (.int .i64 w)] h = s9 Ψ m_Up m_Val w h) H)

/- 11 dictum/dictumlaw19.told -/
def s11 (Ψ : AVal → Heap → Prop) (m_Up : AVal) (m_Val : AVal) (l_ : AVal) (e : Int) (n_Up : AVal) (n_Val : AVal) (k : AVal) (f : Int) (h : Heap) : Prop :=
  callG prog 19 [(.agg [m_Up, m_Val]), (.agg [n_Up, n_Val])] h fun v h_ =>
  tBool v fun v1 =>
  ifT v1 (
    callG prog 16 [l_, k] h_ fun v2 h_1 =>
    tBool v2 fun v3 =>
    ifT v3 (
      retG (.bool (e == f)) h_1 Ψ) (
      retG (.bool false) h_1 Ψ)) (
    retG (.bool false) h_ Ψ)

def s11_A (Ψ : AVal → Heap → Prop) : Ann :=
  .seq (.reg [⟨none, [(0, true), (1, true), (2, false)]⟩])
  (.seq (.reg [⟨none, [(0, false), (1, false), (2, false), (3, false)]⟩, ⟨some (16, true), [(4, false), (5, false), (6, false)]⟩, ⟨none, [(7, false), (8, false)]⟩, ⟨some (21, true), [(9, false), (10, false), (11, false)]⟩, ⟨none, [(12, false), (13, false)]⟩])
  (.leaf))

theorem s11_ok {Ψ : AVal → Heap → Prop} {m_Up : AVal} {m_Val : AVal} {l_ : AVal} {e : Int} {n_Up : AVal} {n_Val : AVal} {k : AVal} {f : Int} {h : Heap} (H : s11 Ψ m_Up m_Val l_ e n_Up n_Val k f h) : ACalls prog 11 [(.agg [m_Up, m_Val]), l_, (.int .i64 e), (.agg [n_Up, n_Val]), k, (.int .i64 f)] h Ψ :=
  calls_of_evF func11 (by kernel_rfl) (by kernel_rfl) (by kernel_rfl)
    (Eq.mpr (by as_aux_lemma => kernel_rfl : oblF prog f11 (s11_A Ψ) Ψ = (True ∧ True ∧ True)) ⟨trivial, ⟨trivial, trivial⟩⟩)
    (Eq.mpr (by as_aux_lemma => kernel_rfl : evF prog f11 (s11_A Ψ) Ψ [(.agg [m_Up, m_Val]), l_, (.int .i64 e), (.agg [n_Up, n_Val]), k, (.int .i64 f)] h = s11 Ψ m_Up m_Val l_ e n_Up n_Val k f h) H)

/- 13 dictum/dictumref19.Quotient -/
abbrev s13l1_T := AVal → AVal → AVal → AVal → AVal → Int → Heap → Prop
def s13l1_R (F : s13l1_T) (l : List AVal) (h : Heap) : Prop := J.cons l fun x0 l => J.cons l fun x1 l => J.cons l fun x2 l => J.cons l fun x3 l => J.cons l fun x4 l => J.cons l fun v l => J.int .i64 v fun x5 => J.nil l (F x0 x1 x2 x3 x4 x5 h)
def s13l1_G (F : s13l1_T) (x0 x1 x2 x3 x4 : AVal) (x5 : Int) (h : Heap) : Prop := gJ [.any, .any, .any, .any, .any, .int .i64] [x0, x1, x2, x3, x4, (.int .i64 x5)] h (s13l1_R F)
def s13l1_E (F : Nat → s13l1_T) (x0 x1 x2 x3 x4 : AVal) (x5 : Int) (h : Heap) : Prop := gJ [.any, .any, .any, .any, .any, .int .i64] [x0, x1, x2, x3, x4, (.int .i64 x5)] h (fun l h => ∃ n, s13l1_R (F n) l h)
theorem s13l1_go {F : s13l1_T} {x0 x1 x2 x3 x4 : AVal} {x5 : Int} {h : Heap} (H : F x0 x1 x2 x3 x4 x5 h) : s13l1_G F x0 x1 x2 x3 x4 x5 h := gJ_plain rfl H
theorem s13l1_in {F : Nat → s13l1_T} {x0 x1 x2 x3 x4 : AVal} {x5 : Int} {h : Heap} (n : Nat) (H : F n x0 x1 x2 x3 x4 x5 h) : s13l1_E F x0 x1 x2 x3 x4 x5 h := gJ_plain rfl ⟨n, H⟩

def s13c2 (Ψ : AVal → Heap → Prop) (L1 : s13l1_T) (m1 t2_1 l_10 o1 out1 : AVal) (a1 : Int) (h : Heap) : Prop :=
  rg (a1 + 1) (
    L1 m1 t2_1 l_10 o1 out1 (a1 + 1) h)

abbrev s13l3_T := AVal → AVal → AVal → AVal → Int → Heap → Prop
def s13l3_R (F : s13l3_T) (l : List AVal) (h : Heap) : Prop := J.cons l fun x0 l => J.cons l fun x1 l => J.cons l fun x2 l => J.cons l fun x3 l => J.cons l fun v l => J.int .i64 v fun x4 => J.nil l (F x0 x1 x2 x3 x4 h)
def s13l3_G (F : s13l3_T) (x0 x1 x2 x3 : AVal) (x4 : Int) (h : Heap) : Prop := gJ [.any, .any, .any, .any, .int .i64] [x0, x1, x2, x3, (.int .i64 x4)] h (s13l3_R F)
def s13l3_E (F : Nat → s13l3_T) (x0 x1 x2 x3 : AVal) (x4 : Int) (h : Heap) : Prop := gJ [.any, .any, .any, .any, .int .i64] [x0, x1, x2, x3, (.int .i64 x4)] h (fun l h => ∃ n, s13l3_R (F n) l h)
theorem s13l3_go {F : s13l3_T} {x0 x1 x2 x3 : AVal} {x4 : Int} {h : Heap} (H : F x0 x1 x2 x3 x4 h) : s13l3_G F x0 x1 x2 x3 x4 h := gJ_plain rfl H
theorem s13l3_in {F : Nat → s13l3_T} {x0 x1 x2 x3 : AVal} {x4 : Int} {h : Heap} (n : Nat) (H : F n x0 x1 x2 x3 x4 h) : s13l3_E F x0 x1 x2 x3 x4 h := gJ_plain rfl ⟨n, H⟩

abbrev s13l4_T := AVal → AVal → AVal → AVal → Int → Int → Heap → Prop
def s13l4_R (F : s13l4_T) (l : List AVal) (h : Heap) : Prop := J.cons l fun x0 l => J.cons l fun x1 l => J.cons l fun x2 l => J.cons l fun x3 l => J.cons l fun v l => J.int .i64 v fun x4 => J.cons l fun v l => J.int .i64 v fun x5 => J.nil l (F x0 x1 x2 x3 x4 x5 h)
def s13l4_G (F : s13l4_T) (x0 x1 x2 x3 : AVal) (x4 x5 : Int) (h : Heap) : Prop := gJ [.any, .any, .any, .any, .int .i64, .int .i64] [x0, x1, x2, x3, (.int .i64 x4), (.int .i64 x5)] h (s13l4_R F)
def s13l4_E (F : Nat → s13l4_T) (x0 x1 x2 x3 : AVal) (x4 x5 : Int) (h : Heap) : Prop := gJ [.any, .any, .any, .any, .int .i64, .int .i64] [x0, x1, x2, x3, (.int .i64 x4), (.int .i64 x5)] h (fun l h => ∃ n, s13l4_R (F n) l h)
theorem s13l4_go {F : s13l4_T} {x0 x1 x2 x3 : AVal} {x4 x5 : Int} {h : Heap} (H : F x0 x1 x2 x3 x4 x5 h) : s13l4_G F x0 x1 x2 x3 x4 x5 h := gJ_plain rfl H
theorem s13l4_in {F : Nat → s13l4_T} {x0 x1 x2 x3 : AVal} {x4 x5 : Int} {h : Heap} (n : Nat) (H : F n x0 x1 x2 x3 x4 x5 h) : s13l4_E F x0 x1 x2 x3 x4 x5 h := gJ_plain rfl ⟨n, H⟩

def s13c5 (Ψ : AVal → Heap → Prop) (L3 : s13l3_T) (L4 : s13l4_T) (t2_4 l_13 o4 out4 : AVal) (a4 b1 : Int) (h : Heap) : Prop :=
  rg (b1 + 1) (
    L4 t2_4 l_13 o4 out4 a4 (b1 + 1) h)

def s13c6 (Ψ : AVal → Heap → Prop) (L3 : s13l3_T) (L4 : s13l4_T) (t2_5 l_14 o5 out5 : AVal) (a5 b2 : Int) (t86 : Bool) (h : Heap) : Prop :=
  ifT t86 (
    addOff out5 0 fun p8 =>
    ld1 h p8 fun v20 =>
    ixS 1 l_14 a5 fun p9 =>
    ld1 h p9 fun v21 =>
    tInt .i64 v21 fun v22 =>
    addOff out5 0 fun p10 =>
    ld1 h p10 fun v23 =>
    ixS 1 l_14 a5 fun p11 =>
    ld1 h p11 fun v24 =>
    tInt .i64 v24 fun v25 =>
    ixS 1 v23 v25 fun p12 =>
    ld1 h p12 fun v26 =>
    ixS 1 l_14 b2 fun p13 =>
    ld1 h p13 fun v27 =>
    tInt .i64 v27 fun v28 =>
    (ld1 h p12 fun v29 =>
    v29 = v26) ∧
    (ld1 h p11 fun v30 =>
    v30 = (.int .i64 v25)) ∧
    (ld1 h p10 fun v31 =>
    v31 = v23) ∧
    (ld1 h p9 fun v32 =>
    v32 = (.int .i64 v22)) ∧
    (ld1 h p8 fun v33 =>
    v33 = v20) ∧
    appC 1 8 h v26 (.lsl 1 [(.int .i64 v28)]) fun v34 h_10 =>
    (ld1 h_10 p9 fun v35 =>
    v35 = (.int .i64 v22)) ∧
    (ld1 h_10 p8 fun v36 =>
    v36 = v20) ∧
    ixS 1 v20 v22 fun p14 =>
    chk (sc v34) (
      st true h_10 p14 [v34] fun h_11 =>
      s13c5 Ψ L3 L4 t2_5 l_14 o5 out5 a5 b2 h_11)) (
    s13c5 Ψ L3 L4 t2_5 l_14 o5 out5 a5 b2 h)

def s13l4 (Ψ : AVal → Heap → Prop) (L3 : s13l3_T) : Nat → s13l4_T
  | 0, _, _, _, _, _, _, _ => False
  | n5 + 1, t2_3, l_12, o3, out3, a3, b, h =>
    lenN l_12 fun n6 =>
    ifT (decide (b < n6)) (
      ixS 1 o3 a3 fun p15 =>
      ld1 h p15 fun v37 =>
      ixS 1 v37 b fun p16 =>
      ld1 h p16 fun v38 =>
      tBool v38 fun v39 =>
      ifT v39 (
        ixS 1 l_12 a3 fun p17 =>
        ld1 h p17 fun v40 =>
        tInt .i64 v40 fun v41 =>
        ixS 1 l_12 b fun p18 =>
        ld1 h p18 fun v42 =>
        tInt .i64 v42 fun v43 =>
        s13c6 Ψ L3 (s13l4_G (s13l4 Ψ L3 n5)) t2_3 l_12 o3 out3 a3 b (v41 != v43) h) (
        s13c6 Ψ L3 (s13l4_G (s13l4 Ψ L3 n5)) t2_3 l_12 o3 out3 a3 b false h)) (
      rg (a3 + 1) (
        L3 t2_3 l_12 o3 out3 (a3 + 1) h))

def s13l3 (Ψ : AVal → Heap → Prop) : Nat → s13l3_T
  | 0, _, _, _, _, _, _ => False
  | n3 + 1, t2_2, l_11, o2, out2, a2, h =>
    lenN l_11 fun n4 =>
    ifT (decide (a2 < n4)) (
      s13l4_E (s13l4 Ψ (s13l3_G (s13l3 Ψ n3))) t2_2 l_11 o2 out2 a2 0 h) (
      ldN 2 h out2 fun l_15 =>
      tCons l_15 fun v44 l_16 =>
      tCons l_16 fun v45 l_17 =>
      tNil l_17 (
        callG prog 37 [(.agg [v44, v45])] h fun v46 h_12 =>
        tAgg v46 fun l_18 =>
        tCons l_18 fun v47 l_19 =>
        tCons l_19 fun v48 l_20 =>
        tNil l_20 (
          st false h_12 t2_2 [v47, v48] fun h_13 =>
          ldN 2 h_13 t2_2 fun l_21 =>
          tCons l_21 fun v49 l_22 =>
          tCons l_22 fun v50 l_23 =>
          tNil l_23 (
            retG (.tuple [(.agg [v49, v50]), l_11, (.int .i64 0)]) h_13 Ψ))))

def s13l1 (Ψ : AVal → Heap → Prop) : Nat → s13l1_T
  | 0, _, _, _, _, _, _, _ => False
  | n + 1, m, t2, l_9, o, out, a, h =>
    lenN l_9 fun n1 =>
    ifT (decide (a < n1)) (
      ixS 1 l_9 a fun p =>
      ld1 h p fun v10 =>
      tInt .i64 v10 fun v11 =>
      addOff out 0 fun p1 =>
      ld1 h p1 fun v12 =>
      lenN v12 fun n2 =>
      ifT (v11 == n2) (
        addOff out 0 fun p2 =>
        ld1 h p2 fun v13 =>
        appC 1 24 h v13 (.lsl 1 [.nilsl]) fun v14 h_6 =>
        addOff out 0 fun p3 =>
        chk (sc v14) (
          st true h_6 p3 [v14] fun h_7 =>
          addOff out 1 fun p4 =>
          ld1 h_7 p4 fun v15 =>
          addOff m 1 fun p5 =>
          ld1 h_7 p5 fun v16 =>
          ixS 1 v16 a fun p6 =>
          ld1 h_7 p6 fun v17 =>
          chk (sc v17) (
            (ld1 h_7 p4 fun v18 =>
            v18 = v15) ∧
            appC 1 24 h_7 v15 (.lsl 1 [v17]) fun v19 h_8 =>
            addOff out 1 fun p7 =>
            chk (sc v19) (
              st true h_8 p7 [v19] fun h_9 =>
              s13c2 Ψ (s13l1_G (s13l1 Ψ n)) m t2 l_9 o out a h_9)))) (
        s13c2 Ψ (s13l1_G (s13l1 Ψ n)) m t2 l_9 o out a h)) (
      s13l3_E (s13l3 Ψ) t2 l_9 o out 0 h)

def s13 (Ψ : AVal → Heap → Prop) (m_Up : AVal) (m_Val : AVal) (h : Heap) : Prop :=
  Sym.newRow 2 [(.agg [.nilsl, .nilsl])] h fun r h_ =>
  callG prog 15 [(.agg [m_Up, m_Val])] h_ fun v h_1 =>
  tTup v fun l_ =>
  tCons l_ fun v1 l_1 =>
  tCons l_1 fun v2 l_2 =>
  tInt .i64 v2 fun v3 =>
  tNil l_2 (
    ifT (v3 != 0) (
      st false h_1 (.ptr r 0 0) [.nilsl, .nilsl] fun h_2 =>
      ldN 2 h_2 (.ptr r 0 0) fun l_3 =>
      tCons l_3 fun v4 l_4 =>
      tCons l_4 fun v5 l_5 =>
      tNil l_5 (
        retG (.tuple [(.agg [v4, v5]), .nilsl, (.int .i64 v3)]) h_2 Ψ)) (
      callG prog 31 [(.agg [m_Up, m_Val])] h_1 fun v6 h_3 =>
      tTup v6 fun l_6 =>
      tCons l_6 fun v7 l_7 =>
      tCons l_7 fun v8 l_8 =>
      tBool v8 fun v9 =>
      tNil l_8 (
        Sym.newRow 2 [(.agg [.nilsl, .nilsl])] h_3 fun r1 h_4 =>
        st false h_4 (.ptr r1 0 0) [.nilsl, .nilsl] fun h_5 =>
        s13l1_E (s13l1 Ψ) (.lptr [m_Up, m_Val]) (.ptr r 0 0) v1 v7 (.ptr r1 0 0) 0 h_5)))

def s13_A (Ψ : AVal → Heap → Prop) : Ann :=
  .seq (.reg [⟨none, [(0, true), (1, false), (2, false), (3, false)]⟩])
  (.seq (rA 7)
  (.seq (.seq (rA 2)
  (.cond (.seq (rA 5)
  (.leaf))
  (.leaf)))
  (.seq (rA 7)
  (.seq (rA 3)
  (.seq (.seq (rA 1)
  (.block (.loop [(1, .any), (2, .any), (5, .any), (7, .any), (9, .any), (10, .int .i64)] (fun n l h => s13l1_R (s13l1 Ψ n) l h) (fun L1 =>
  .seq (.seq (rA 4)
  (.cond (.leaf)
  (.leaf)))
  (.cut [(1, .any), (2, .any), (5, .any), (7, .any), (9, .any), (10, .int .i64)] (fun l h => J.cons l fun x0 l => J.cons l fun x1 l => J.cons l fun x2 l => J.cons l fun x3 l => J.cons l fun x4 l => J.cons l fun v l => J.int .i64 v fun x5 => J.nil l (s13c2 Ψ (fun y0 y1 y2 y3 y4 y5 h => L1 [y0, y1, y2, y3, y4, (.int .i64 y5)] h) x0 x1 x2 x3 x4 x5 h)) (.block (.seq (.draw [(0, false), (1, false), (2, false), (3, false), (4, false), (5, false), (6, false), (7, false)] [0, 0, 3, 7, 0, 16, 48, 127])
  (.cond (.seq (.reg [⟨none, [(0, false), (1, false), (2, true), (3, false), (4, false), (5, false)]⟩])
  (.draw [(0, false), (1, false), (2, false), (3, false), (4, false), (5, false), (6, false), (7, true), (8, false), (9, false), (10, false)] [0, 1, 0, 4, 0, 28, 60, 124, 255, 511, 1023]))
  (.leaf))))
  (rA 3))))))
  (.seq (.seq (rA 1)
  (.block (.loop [(2, .any), (5, .any), (7, .any), (9, .any), (11, .int .i64)] (fun n l h => s13l3_R (s13l3 Ψ n) l h) (fun L3 =>
  .seq (.seq (rA 4)
  (.cond (.leaf)
  (.leaf)))
  (.seq (.block (.seq (rA 1)
  (.block (.loop [(2, .any), (5, .any), (7, .any), (9, .any), (11, .int .i64), (12, .int .i64)] (fun n l h => s13l4_R (s13l4 Ψ (fun y0 y1 y2 y3 y4 h => L3 [y0, y1, y2, y3, (.int .i64 y4)] h) n) l h) (fun L4 =>
  .seq (.seq (rA 4)
  (.cond (.leaf)
  (.leaf)))
  (.cut [(2, .any), (5, .any), (7, .any), (9, .any), (11, .int .i64), (12, .int .i64)] (fun l h => J.cons l fun x0 l => J.cons l fun x1 l => J.cons l fun x2 l => J.cons l fun x3 l => J.cons l fun v l => J.int .i64 v fun x4 => J.cons l fun v l => J.int .i64 v fun x5 => J.nil l (s13c5 Ψ (fun y0 y1 y2 y3 y4 h => L3 [y0, y1, y2, y3, (.int .i64 y4)] h) (fun y0 y1 y2 y3 y4 y5 h => L4 [y0, y1, y2, y3, (.int .i64 y4), (.int .i64 y5)] h) x0 x1 x2 x3 x4 x5 h)) (.block (.cut [(2, .any), (5, .any), (7, .any), (9, .any), (11, .int .i64), (12, .int .i64), (86, .bool)] (fun l h => J.cons l fun x0 l => J.cons l fun x1 l => J.cons l fun x2 l => J.cons l fun x3 l => J.cons l fun v l => J.int .i64 v fun x4 => J.cons l fun v l => J.int .i64 v fun x5 => J.cons l fun v l => J.bool v fun x6 => J.nil l (s13c6 Ψ (fun y0 y1 y2 y3 y4 h => L3 [y0, y1, y2, y3, (.int .i64 y4)] h) (fun y0 y1 y2 y3 y4 y5 h => L4 [y0, y1, y2, y3, (.int .i64 y4), (.int .i64 y5)] h) x0 x1 x2 x3 x4 x5 x6 h)) (.draw [(0, false), (1, false), (2, false), (3, false), (4, false), (5, false), (6, false), (7, false), (8, false), (9, false), (10, false), (11, false), (12, false), (13, false), (14, false), (15, false), (16, false), (17, false)] [0, 0, 3, 7, 0, 31, 63, 127, 255, 255, 1023, 2047, 255, 255, 12543, 28927, 65535, 131071])
  (.cond (.draw [(0, false), (1, false), (2, false), (3, false), (4, false), (5, false), (6, false), (7, false), (8, false), (9, false), (10, false), (11, false), (12, false), (13, false), (14, false), (15, false), (16, false), (17, false), (18, true), (19, false), (20, false), (21, false)] [0, 1, 0, 0, 12, 28, 0, 64, 0, 0, 768, 1792, 4032, 8128, 0, 0, 49152, 114688, 245760, 524224, 1048575, 2097151])
  (.leaf))))
  (rA 3)))))))
  (rA 3))))))
  (.seq (rA 6)
  (.leaf))))))))

theorem s13_ok {Ψ : AVal → Heap → Prop} {m_Up : AVal} {m_Val : AVal} {h : Heap} (H : s13 Ψ m_Up m_Val h) : ACalls prog 13 [(.agg [m_Up, m_Val])] h Ψ :=
  calls_of_evF func13 (by kernel_rfl) (by kernel_rfl) (by kernel_rfl)
    (Eq.mpr (by as_aux_lemma => kernel_rfl : oblF prog f13 (s13_A Ψ) Ψ = (True ∧ True ∧ (True ∧ (True ∧ True) ∧ True) ∧ True ∧ True ∧ (True ∧ (∀ (h : Heap) (x0 x1 x2 x3 x4 : AVal) (x5 : Int), ON (s13l1 Ψ 0 x0 x1 x2 x3 x4 x5 h)) ∧ ∀ n1 : Nat, (∀ (h : Heap) (x0 x1 x2 x3 x4 : AVal) (x5 : Int), OI (s13l1 Ψ (n1 + 1) x0 x1 x2 x3 x4 x5 h)) ∧ ((True ∧ True ∧ True) ∧ (True ∧ (True ∧ True) ∧ True) ∧ (∀ (h : Heap) (x0 x1 x2 x3 x4 : AVal) (x5 : Int), OI (s13c2 Ψ (s13l1_G (s13l1 Ψ n1)) x0 x1 x2 x3 x4 x5 h)) ∧ (True))) ∧ (True ∧ (∀ (h : Heap) (x0 x1 x2 x3 : AVal) (x4 : Int), ON (s13l3 Ψ 0 x0 x1 x2 x3 x4 h)) ∧ ∀ n3 : Nat, (∀ (h : Heap) (x0 x1 x2 x3 : AVal) (x4 : Int), OI (s13l3 Ψ (n3 + 1) x0 x1 x2 x3 x4 h)) ∧ ((True ∧ True ∧ True) ∧ (True ∧ (∀ (h : Heap) (x0 x1 x2 x3 : AVal) (x4 x5 : Int), ON (s13l4 Ψ (s13l3_G (s13l3 Ψ n3)) 0 x0 x1 x2 x3 x4 x5 h)) ∧ ∀ n4 : Nat, (∀ (h : Heap) (x0 x1 x2 x3 : AVal) (x4 x5 : Int), OI (s13l4 Ψ (s13l3_G (s13l3 Ψ n3)) (n4 + 1) x0 x1 x2 x3 x4 x5 h)) ∧ ((True ∧ True ∧ True) ∧ ((True) ∧ (∀ (h : Heap) (x0 x1 x2 x3 : AVal) (x4 x5 : Int) (x6 : Bool), OI (s13c6 Ψ (s13l3_G (s13l3 Ψ n3)) (s13l4_G (s13l4 Ψ (s13l3_G (s13l3 Ψ n3)) n4)) x0 x1 x2 x3 x4 x5 x6 h)) ∧ (True ∧ True)) ∧ (∀ (h : Heap) (x0 x1 x2 x3 : AVal) (x4 x5 : Int), OI (s13c5 Ψ (s13l3_G (s13l3 Ψ n3)) (s13l4_G (s13l4 Ψ (s13l3_G (s13l3 Ψ n3)) n4)) x0 x1 x2 x3 x4 x5 h)) ∧ (True))) ∧ True)) ∧ True ∧ True)) ⟨trivial, ⟨trivial, ⟨⟨trivial, ⟨⟨trivial, trivial⟩, trivial⟩⟩, ⟨trivial, ⟨trivial, ⟨⟨trivial, ⟨fun _ _ _ _ _ _ _ H => H, fun _ => ⟨fun _ _ _ _ _ _ _ H => H, ⟨⟨trivial, ⟨trivial, trivial⟩⟩, ⟨⟨trivial, ⟨⟨trivial, trivial⟩, trivial⟩⟩, fun _ _ _ _ _ _ _ H => H, trivial⟩⟩⟩⟩⟩, ⟨⟨trivial, ⟨fun _ _ _ _ _ _ H => H, fun _ => ⟨fun _ _ _ _ _ _ H => H, ⟨⟨trivial, ⟨trivial, trivial⟩⟩, ⟨⟨trivial, ⟨fun _ _ _ _ _ _ _ H => H, fun _ => ⟨fun _ _ _ _ _ _ _ H => H, ⟨⟨trivial, ⟨trivial, trivial⟩⟩, ⟨⟨trivial, fun _ _ _ _ _ _ _ _ H => H, ⟨trivial, trivial⟩⟩, fun _ _ _ _ _ _ _ H => H, trivial⟩⟩⟩⟩⟩, trivial⟩⟩⟩⟩⟩, ⟨trivial, trivial⟩⟩⟩⟩⟩⟩⟩⟩)
    (Eq.mpr (by as_aux_lemma => kernel_rfl : evF prog f13 (s13_A Ψ) Ψ [(.agg [m_Up, m_Val])] h = s13 Ψ m_Up m_Val h) H)

/- 15 dictum/dictumref19.Classes -/
abbrev s15l1_T := AVal → AVal → AVal → Int → Int → Heap → Prop
def s15l1_R (F : s15l1_T) (l : List AVal) (h : Heap) : Prop := J.cons l fun x0 l => J.cons l fun x1 l => J.cons l fun x2 l => J.cons l fun v l => J.int .i64 v fun x3 => J.cons l fun v l => J.int .i64 v fun x4 => J.nil l (F x0 x1 x2 x3 x4 h)
def s15l1_G (F : s15l1_T) (x0 x1 x2 : AVal) (x3 x4 : Int) (h : Heap) : Prop := gJ [.any, .any, .any, .int .i64, .int .i64] [x0, x1, x2, (.int .i64 x3), (.int .i64 x4)] h (s15l1_R F)
def s15l1_E (F : Nat → s15l1_T) (x0 x1 x2 : AVal) (x3 x4 : Int) (h : Heap) : Prop := gJ [.any, .any, .any, .int .i64, .int .i64] [x0, x1, x2, (.int .i64 x3), (.int .i64 x4)] h (fun l h => ∃ n, s15l1_R (F n) l h)
theorem s15l1_go {F : s15l1_T} {x0 x1 x2 : AVal} {x3 x4 : Int} {h : Heap} (H : F x0 x1 x2 x3 x4 h) : s15l1_G F x0 x1 x2 x3 x4 h := gJ_plain rfl H
theorem s15l1_in {F : Nat → s15l1_T} {x0 x1 x2 : AVal} {x3 x4 : Int} {h : Heap} (n : Nat) (H : F n x0 x1 x2 x3 x4 h) : s15l1_E F x0 x1 x2 x3 x4 h := gJ_plain rfl ⟨n, H⟩

def s15c2 (Ψ : AVal → Heap → Prop) (L1 : s15l1_T) (o1 in_1 out1 : AVal) (next1 a1 : Int) (h : Heap) : Prop :=
  rg (a1 + 1) (
    L1 o1 in_1 out1 next1 (a1 + 1) h)

abbrev s15l3_T := AVal → AVal → AVal → Int → Int → Int → Heap → Prop
def s15l3_R (F : s15l3_T) (l : List AVal) (h : Heap) : Prop := J.cons l fun x0 l => J.cons l fun x1 l => J.cons l fun x2 l => J.cons l fun v l => J.int .i64 v fun x3 => J.cons l fun v l => J.int .i64 v fun x4 => J.cons l fun v l => J.int .i64 v fun x5 => J.nil l (F x0 x1 x2 x3 x4 x5 h)
def s15l3_G (F : s15l3_T) (x0 x1 x2 : AVal) (x3 x4 x5 : Int) (h : Heap) : Prop := gJ [.any, .any, .any, .int .i64, .int .i64, .int .i64] [x0, x1, x2, (.int .i64 x3), (.int .i64 x4), (.int .i64 x5)] h (s15l3_R F)
def s15l3_E (F : Nat → s15l3_T) (x0 x1 x2 : AVal) (x3 x4 x5 : Int) (h : Heap) : Prop := gJ [.any, .any, .any, .int .i64, .int .i64, .int .i64] [x0, x1, x2, (.int .i64 x3), (.int .i64 x4), (.int .i64 x5)] h (fun l h => ∃ n, s15l3_R (F n) l h)
theorem s15l3_go {F : s15l3_T} {x0 x1 x2 : AVal} {x3 x4 x5 : Int} {h : Heap} (H : F x0 x1 x2 x3 x4 x5 h) : s15l3_G F x0 x1 x2 x3 x4 x5 h := gJ_plain rfl H
theorem s15l3_in {F : Nat → s15l3_T} {x0 x1 x2 : AVal} {x3 x4 x5 : Int} {h : Heap} (n : Nat) (H : F n x0 x1 x2 x3 x4 x5 h) : s15l3_E F x0 x1 x2 x3 x4 x5 h := gJ_plain rfl ⟨n, H⟩

def s15c5 (Ψ : AVal → Heap → Prop) (L1 : s15l1_T) (L3 : s15l3_T) (o4 in_4 out4 : AVal) (next4 a4 b2 : Int) (h : Heap) : Prop :=
  rg (b2 + 1) (
    L3 o4 in_4 out4 next4 a4 (b2 + 1) h)

def s15c4 (Ψ : AVal → Heap → Prop) (L1 : s15l1_T) (L3 : s15l3_T) (o3 in_3 out3 : AVal) (next3 a3 b1 : Int) (t42 : Bool) (h : Heap) : Prop :=
  ifT t42 (
    ixS 1 in_3 a3 fun p1 =>
    ld1 h p1 fun v6 =>
    ixS 1 v6 b1 fun p2 =>
    ld1 h p2 fun v7 =>
    tBool v7 fun v8 =>
    ifT v8 (
      ixS 1 out3 b1 fun p3 =>
      ld1 h p3 fun v9 =>
      tInt .i64 v9 fun v10 =>
      ixS 1 out3 a3 fun p4 =>
      st true h p4 [(.int .i64 v10)] fun h_4 =>
      s15c5 Ψ L1 L3 o3 in_3 out3 next3 a3 b1 h_4) (
      s15c5 Ψ L1 L3 o3 in_3 out3 next3 a3 b1 h)) (
    ixS 1 out3 a3 fun p5 =>
    ld1 h p5 fun v11 =>
    tInt .i64 v11 fun v12 =>
    ifT (decide (v12 < 0)) (
      ixS 1 out3 a3 fun p6 =>
      st true h p6 [(.int .i64 next3)] fun h_5 =>
      rg (next3 + 1) (
        s15c2 Ψ L1 o3 in_3 out3 (next3 + 1) a3 h_5)) (
      s15c2 Ψ L1 o3 in_3 out3 next3 a3 h))

def s15l3 (Ψ : AVal → Heap → Prop) (L1 : s15l1_T) : Nat → s15l3_T
  | 0, _, _, _, _, _, _, _ => False
  | n3 + 1, o2, in_2, out2, next2, a2, b, h =>
    ifT (decide (b < a2)) (
      ixS 1 out2 a2 fun p7 =>
      ld1 h p7 fun v13 =>
      tInt .i64 v13 fun v14 =>
      s15c4 Ψ L1 (s15l3_G (s15l3 Ψ L1 n3)) o2 in_2 out2 next2 a2 b (decide (v14 < 0)) h) (
      s15c4 Ψ L1 (s15l3_G (s15l3 Ψ L1 n3)) o2 in_2 out2 next2 a2 b false h)

def s15l1 (Ψ : AVal → Heap → Prop) : Nat → s15l1_T
  | 0, _, _, _, _, _, _ => False
  | n1 + 1, o, in_, out, next, a, h =>
    lenN o fun n2 =>
    ifT (decide (a < n2)) (
      ixS 1 out a fun p =>
      st true h p [(.int .i64 (-1))] fun h_3 =>
      s15l3_E (s15l3 Ψ (s15l1_G (s15l1 Ψ n1))) o in_ out next a 0 h_3) (
      retG (.tuple [out, (.int .i64 0)]) h Ψ)

def s15 (Ψ : AVal → Heap → Prop) (m_Up : AVal) (m_Val : AVal) (h : Heap) : Prop :=
  callG prog 31 [(.agg [m_Up, m_Val])] h fun v h_ =>
  tTup v fun l_ =>
  tCons l_ fun v1 l_1 =>
  tCons l_1 fun v2 l_2 =>
  tBool v2 fun v3 =>
  tNil l_2 (
    ifT (!v3) (
      retG (.tuple [.nilsl, (.int .i64 170)]) h_ Ψ) (
      callG prog 38 [(.agg [m_Up, m_Val]), v1] h_ fun v4 h_1 =>
      lenN v1 fun n =>
      mkS false 1 8 (.int .i64 0) h_1 n n fun v5 h_2 =>
      s15l1_E (s15l1 Ψ) v1 v4 v5 0 0 h_2))

def s15_A (Ψ : AVal → Heap → Prop) : Ann :=
  .seq (.reg [⟨none, [(0, true), (1, false), (2, false)]⟩])
  (.seq (rA 7)
  (.seq (.seq (rA 2)
  (.cond (.seq (rA 2)
  (.leaf))
  (.leaf)))
  (.seq (rA 4)
  (.seq (rA 4)
  (.seq (rA 1)
  (.seq (.seq (rA 1)
  (.block (.loop [(4, .any), (6, .any), (7, .any), (8, .int .i64), (9, .int .i64)] (fun n l h => s15l1_R (s15l1 Ψ n) l h) (fun L1 =>
  .seq (.seq (rA 4)
  (.cond (.leaf)
  (.leaf)))
  (.cut [(4, .any), (6, .any), (7, .any), (8, .int .i64), (9, .int .i64)] (fun l h => J.cons l fun x0 l => J.cons l fun x1 l => J.cons l fun x2 l => J.cons l fun v l => J.int .i64 v fun x3 => J.cons l fun v l => J.int .i64 v fun x4 => J.nil l (s15c2 Ψ (fun y0 y1 y2 y3 y4 h => L1 [y0, y1, y2, (.int .i64 y3), (.int .i64 y4)] h) x0 x1 x2 x3 x4 h)) (.block (.seq (rA 4)
  (.seq (.seq (rA 1)
  (.block (.loop [(4, .any), (6, .any), (7, .any), (8, .int .i64), (9, .int .i64), (10, .int .i64)] (fun n l h => s15l3_R (s15l3 Ψ (fun y0 y1 y2 y3 y4 h => L1 [y0, y1, y2, (.int .i64 y3), (.int .i64 y4)] h) n) l h) (fun L3 =>
  .seq (.cut [(4, .any), (6, .any), (7, .any), (8, .int .i64), (9, .int .i64), (10, .int .i64), (42, .bool)] (fun l h => J.cons l fun x0 l => J.cons l fun x1 l => J.cons l fun x2 l => J.cons l fun v l => J.int .i64 v fun x3 => J.cons l fun v l => J.int .i64 v fun x4 => J.cons l fun v l => J.int .i64 v fun x5 => J.cons l fun v l => J.bool v fun x6 => J.nil l (s15c4 Ψ (fun y0 y1 y2 y3 y4 h => L1 [y0, y1, y2, (.int .i64 y3), (.int .i64 y4)] h) (fun y0 y1 y2 y3 y4 y5 h => L3 [y0, y1, y2, (.int .i64 y3), (.int .i64 y4), (.int .i64 y5)] h) x0 x1 x2 x3 x4 x5 x6 h)) (.reg [⟨none, [(0, false), (1, false), (2, false), (3, false)]⟩, ⟨some (36, true), [(4, false), (5, false), (6, false), (7, false), (8, false)]⟩, ⟨none, [(9, false)]⟩])
  (.cond (.leaf)
  (.leaf)))
  (.cut [(4, .any), (6, .any), (7, .any), (8, .int .i64), (9, .int .i64), (10, .int .i64)] (fun l h => J.cons l fun x0 l => J.cons l fun x1 l => J.cons l fun x2 l => J.cons l fun v l => J.int .i64 v fun x3 => J.cons l fun v l => J.int .i64 v fun x4 => J.cons l fun v l => J.int .i64 v fun x5 => J.nil l (s15c5 Ψ (fun y0 y1 y2 y3 y4 h => L1 [y0, y1, y2, (.int .i64 y3), (.int .i64 y4)] h) (fun y0 y1 y2 y3 y4 y5 h => L3 [y0, y1, y2, (.int .i64 y3), (.int .i64 y4), (.int .i64 y5)] h) x0 x1 x2 x3 x4 x5 h)) (.block (.seq (rA 7)
  (.cond (rA 8)
  (.leaf))))
  (rA 3))))))
  (.seq (rA 5)
  (.cond (.seq (rA 5)
  (rA 3))
  (.leaf))))))
  (rA 3))))))
  (.seq (rA 3)
  (.leaf))))))))

theorem s15_ok {Ψ : AVal → Heap → Prop} {m_Up : AVal} {m_Val : AVal} {h : Heap} (H : s15 Ψ m_Up m_Val h) : ACalls prog 15 [(.agg [m_Up, m_Val])] h Ψ :=
  calls_of_evF func15 (by kernel_rfl) (by kernel_rfl) (by kernel_rfl)
    (Eq.mpr (by as_aux_lemma => kernel_rfl : oblF prog f15 (s15_A Ψ) Ψ = (True ∧ True ∧ (True ∧ (True ∧ True) ∧ True) ∧ True ∧ True ∧ True ∧ (True ∧ (∀ (h : Heap) (x0 x1 x2 : AVal) (x3 x4 : Int), ON (s15l1 Ψ 0 x0 x1 x2 x3 x4 h)) ∧ ∀ n1 : Nat, (∀ (h : Heap) (x0 x1 x2 : AVal) (x3 x4 : Int), OI (s15l1 Ψ (n1 + 1) x0 x1 x2 x3 x4 h)) ∧ ((True ∧ True ∧ True) ∧ (True ∧ (True ∧ (∀ (h : Heap) (x0 x1 x2 : AVal) (x3 x4 x5 : Int), ON (s15l3 Ψ (s15l1_G (s15l1 Ψ n1)) 0 x0 x1 x2 x3 x4 x5 h)) ∧ ∀ n3 : Nat, (∀ (h : Heap) (x0 x1 x2 : AVal) (x3 x4 x5 : Int), OI (s15l3 Ψ (s15l1_G (s15l1 Ψ n1)) (n3 + 1) x0 x1 x2 x3 x4 x5 h)) ∧ (((True) ∧ (∀ (h : Heap) (x0 x1 x2 : AVal) (x3 x4 x5 : Int) (x6 : Bool), OI (s15c4 Ψ (s15l1_G (s15l1 Ψ n1)) (s15l3_G (s15l3 Ψ (s15l1_G (s15l1 Ψ n1)) n3)) x0 x1 x2 x3 x4 x5 x6 h)) ∧ (True ∧ True)) ∧ (True ∧ True ∧ True) ∧ (∀ (h : Heap) (x0 x1 x2 : AVal) (x3 x4 x5 : Int), OI (s15c5 Ψ (s15l1_G (s15l1 Ψ n1)) (s15l3_G (s15l3 Ψ (s15l1_G (s15l1 Ψ n1)) n3)) x0 x1 x2 x3 x4 x5 h)) ∧ (True))) ∧ True ∧ (True ∧ True) ∧ True) ∧ (∀ (h : Heap) (x0 x1 x2 : AVal) (x3 x4 : Int), OI (s15c2 Ψ (s15l1_G (s15l1 Ψ n1)) x0 x1 x2 x3 x4 h)) ∧ (True))) ∧ True ∧ True)) ⟨trivial, ⟨trivial, ⟨⟨trivial, ⟨⟨trivial, trivial⟩, trivial⟩⟩, ⟨trivial, ⟨trivial, ⟨trivial, ⟨⟨trivial, ⟨fun _ _ _ _ _ _ H => H, fun _ => ⟨fun _ _ _ _ _ _ H => H, ⟨⟨trivial, ⟨trivial, trivial⟩⟩, ⟨⟨trivial, ⟨⟨trivial, ⟨fun _ _ _ _ _ _ _ H => H, fun _ => ⟨fun _ _ _ _ _ _ _ H => H, ⟨⟨trivial, fun _ _ _ _ _ _ _ _ H => H, ⟨trivial, trivial⟩⟩, ⟨⟨trivial, ⟨trivial, trivial⟩⟩, fun _ _ _ _ _ _ _ H => H, trivial⟩⟩⟩⟩⟩, ⟨trivial, ⟨⟨trivial, trivial⟩, trivial⟩⟩⟩⟩, fun _ _ _ _ _ _ H => H, trivial⟩⟩⟩⟩⟩, ⟨trivial, trivial⟩⟩⟩⟩⟩⟩⟩⟩)
    (Eq.mpr (by as_aux_lemma => kernel_rfl : evF prog f15 (s15_A Ψ) Ψ [(.agg [m_Up, m_Val])] h = s15 Ψ m_Up m_Val h) H)

/- 17 dictum/morph.Unravel -/
abbrev s17l2_T := AVal → AVal → AVal → AVal → Int → Heap → Prop
def s17l2_R (F : s17l2_T) (l : List AVal) (h : Heap) : Prop := J.cons l fun x0 l => J.cons l fun x1 l => J.cons l fun x2 l => J.cons l fun x3 l => J.cons l fun v l => J.int .i64 v fun x4 => J.nil l (F x0 x1 x2 x3 x4 h)
def s17l2_G (F : s17l2_T) (x0 x1 x2 x3 : AVal) (x4 : Int) (h : Heap) : Prop := gJ [.any, .any, .any, .any, .int .i64] [x0, x1, x2, x3, (.int .i64 x4)] h (s17l2_R F)
def s17l2_E (F : Nat → s17l2_T) (x0 x1 x2 x3 : AVal) (x4 : Int) (h : Heap) : Prop := gJ [.any, .any, .any, .any, .int .i64] [x0, x1, x2, x3, (.int .i64 x4)] h (fun l h => ∃ n, s17l2_R (F n) l h)
theorem s17l2_go {F : s17l2_T} {x0 x1 x2 x3 : AVal} {x4 : Int} {h : Heap} (H : F x0 x1 x2 x3 x4 h) : s17l2_G F x0 x1 x2 x3 x4 h := gJ_plain rfl H
theorem s17l2_in {F : Nat → s17l2_T} {x0 x1 x2 x3 : AVal} {x4 : Int} {h : Heap} (n : Nat) (H : F n x0 x1 x2 x3 x4 h) : s17l2_E F x0 x1 x2 x3 x4 h := gJ_plain rfl ⟨n, H⟩

abbrev s17l3_T := AVal → AVal → AVal → AVal → Int → AVal → AVal → Int → Int → Heap → Prop
def s17l3_R (F : s17l3_T) (l : List AVal) (h : Heap) : Prop := J.cons l fun x0 l => J.cons l fun x1 l => J.cons l fun x2 l => J.cons l fun x3 l => J.cons l fun v l => J.int .i64 v fun x4 => J.cons l fun x5 l => J.cons l fun x6 l => J.cons l fun v l => J.int .i64 v fun x7 => J.cons l fun v l => J.int .i64 v fun x8 => J.nil l (F x0 x1 x2 x3 x4 x5 x6 x7 x8 h)
def s17l3_G (F : s17l3_T) (x0 x1 x2 x3 : AVal) (x4 : Int) (x5 x6 : AVal) (x7 x8 : Int) (h : Heap) : Prop := gJ [.any, .any, .any, .any, .int .i64, .any, .any, .int .i64, .int .i64] [x0, x1, x2, x3, (.int .i64 x4), x5, x6, (.int .i64 x7), (.int .i64 x8)] h (s17l3_R F)
def s17l3_E (F : Nat → s17l3_T) (x0 x1 x2 x3 : AVal) (x4 : Int) (x5 x6 : AVal) (x7 x8 : Int) (h : Heap) : Prop := gJ [.any, .any, .any, .any, .int .i64, .any, .any, .int .i64, .int .i64] [x0, x1, x2, x3, (.int .i64 x4), x5, x6, (.int .i64 x7), (.int .i64 x8)] h (fun l h => ∃ n, s17l3_R (F n) l h)
theorem s17l3_go {F : s17l3_T} {x0 x1 x2 x3 : AVal} {x4 : Int} {x5 x6 : AVal} {x7 x8 : Int} {h : Heap} (H : F x0 x1 x2 x3 x4 x5 x6 x7 x8 h) : s17l3_G F x0 x1 x2 x3 x4 x5 x6 x7 x8 h := gJ_plain rfl H
theorem s17l3_in {F : Nat → s17l3_T} {x0 x1 x2 x3 : AVal} {x4 : Int} {x5 x6 : AVal} {x7 x8 : Int} {h : Heap} (n : Nat) (H : F n x0 x1 x2 x3 x4 x5 x6 x7 x8 h) : s17l3_E F x0 x1 x2 x3 x4 x5 x6 x7 x8 h := gJ_plain rfl ⟨n, H⟩

def s17l3 (Ψ : AVal → Heap → Prop) (L2 : s17l2_T) : Nat → s17l3_T
  | 0, _, _, _, _, _, _, _, _, _, _ => False
  | n3 + 1, t4_2, tidy2, ends1, out1, i1, up, t49, t50, t51, h =>
    ifT (decide (t51 < t50)) (
      ixS 1 t49 t51 fun p3 =>
      ld1 h p3 fun v14 =>
      tInt .i64 v14 fun v15 =>
      lenN ends1 fun n4 =>
      ifT (decide (512 ≤ n4)) (
        st false h t4_2 [.nilsl, .nilsl] fun h_8 =>
        ldN 2 h_8 t4_2 fun l_12 =>
        tCons l_12 fun v16 l_13 =>
        tCons l_13 fun v17 l_14 =>
        tNil l_14 (
          retG (.tuple [(.agg [v16, v17]), .nilsl, (.int .i64 190)]) h_8 Ψ)) (
        lenN ends1 fun n5 =>
        appC 1 8 h up (.lsl 1 [(.int .i64 n5)]) fun v18 h_9 =>
        appC 1 8 h_9 ends1 (.lsl 1 [(.int .i64 v15)]) fun v19 h_10 =>
        rg (t51 + 1) (
          s17l3_G (s17l3 Ψ L2 n3) t4_2 tidy2 v19 out1 i1 v18 t49 t50 (t51 + 1) h_10))) (
      addOff out1 0 fun p4 =>
      ld1 h p4 fun v20 =>
      chk (sc up) (
        appC 1 24 h v20 (.lsl 1 [up]) fun v21 h_11 =>
        addOff out1 0 fun p5 =>
        chk (sc v21) (
          st true h_11 p5 [v21] fun h_12 =>
          addOff out1 1 fun p6 =>
          ld1 h_12 p6 fun v22 =>
          addOff tidy2 1 fun p7 =>
          ld1 h_12 p7 fun v23 =>
          ixS 1 ends1 i1 fun p8 =>
          ld1 h_12 p8 fun v24 =>
          tInt .i64 v24 fun v25 =>
          ixS 1 v23 v25 fun p9 =>
          ld1 h_12 p9 fun v26 =>
          callG prog 35 [v26] h_12 fun v27 h_13 =>
          (ld1 h_13 p6 fun v28 =>
          v28 = v22) ∧
          chk (sc v27) (
            (ld1 h_13 p6 fun v29 =>
            v29 = v22) ∧
            appC 1 24 h_13 v22 (.lsl 1 [v27]) fun v30 h_14 =>
            addOff out1 1 fun p10 =>
            chk (sc v30) (
              st true h_14 p10 [v30] fun h_15 =>
              rg (i1 + 1) (
                L2 t4_2 tidy2 ends1 out1 (i1 + 1) h_15))))))

def s17l2 (Ψ : AVal → Heap → Prop) : Nat → s17l2_T
  | 0, _, _, _, _, _, _ => False
  | n + 1, t4_1, tidy1, ends, out, i, h =>
    lenN ends fun n1 =>
    ifT (decide (i < n1)) (
      addOff tidy1 0 fun p =>
      ld1 h p fun v10 =>
      ixS 1 ends i fun p1 =>
      ld1 h p1 fun v11 =>
      tInt .i64 v11 fun v12 =>
      ixS 1 v10 v12 fun p2 =>
      ld1 h p2 fun v13 =>
      lenN v13 fun n2 =>
      s17l3_E (s17l3 Ψ (s17l2_G (s17l2 Ψ n))) t4_1 tidy1 ends out i .nilsl v13 n2 0 h) (
      ldN 2 h out fun l_15 =>
      tCons l_15 fun v31 l_16 =>
      tCons l_16 fun v32 l_17 =>
      tNil l_17 (
        st false h t4_1 [v31, v32] fun h_16 =>
        ldN 2 h_16 t4_1 fun l_18 =>
        tCons l_18 fun v33 l_19 =>
        tCons l_19 fun v34 l_20 =>
        tNil l_20 (
          retG (.tuple [(.agg [v33, v34]), ends, (.int .i64 0)]) h_16 Ψ)))

def s17c1 (Ψ : AVal → Heap → Prop) (w1 : Int) (t4 tidy : AVal) (t32 : Bool) (h : Heap) : Prop :=
  ifT t32 (
    st false h t4 [.nilsl, .nilsl] fun h_5 =>
    ldN 2 h_5 t4 fun l_9 =>
    tCons l_9 fun v8 l_10 =>
    tCons l_10 fun v9 l_11 =>
    tNil l_11 (
      retG (.tuple [(.agg [v8, v9]), .nilsl, (.int .i64 2)]) h_5 Ψ)) (
    Sym.newRow 1 [(.int .i64 w1)] h fun r2 h_6 =>
    Sym.newRow 2 [(.agg [.nilsl, .nilsl])] h_6 fun r3 h_7 =>
    s17l2_E (s17l2 Ψ) t4 tidy (.sl r2 1 0 1) (.ptr r3 0 0) 0 h_7)

def s17 (Ψ : AVal → Heap → Prop) (m_Up : AVal) (m_Val : AVal) (w : Int) (h : Heap) : Prop :=
  Sym.newRow 2 [(.agg [.nilsl, .nilsl])] h fun r h_ =>
  callG prog 39 [(.agg [m_Up, m_Val])] h_ fun v h_1 =>
  tTup v fun l_ =>
  tCons l_ fun v1 l_1 =>
  tCons l_1 fun v2 l_2 =>
  tInt .i64 v2 fun v3 =>
  tNil l_2 (
    tAgg v1 fun l_3 =>
    tCons l_3 fun v4 l_4 =>
    tCons l_4 fun v5 l_5 =>
    tNil l_5 (
      Sym.newRow 2 [(.agg [.nilsl, .nilsl])] h_1 fun r1 h_2 =>
      st false h_2 (.ptr r1 0 0) [v4, v5] fun h_3 =>
      ifT (v3 != 0) (
        st false h_3 (.ptr r 0 0) [.nilsl, .nilsl] fun h_4 =>
        ldN 2 h_4 (.ptr r 0 0) fun l_6 =>
        tCons l_6 fun v6 l_7 =>
        tCons l_7 fun v7 l_8 =>
        tNil l_8 (
          retG (.tuple [(.agg [v6, v7]), .nilsl, (.int .i64 v3)]) h_4 Ψ)) (
        ifT (decide (w < 0)) (
          s17c1 Ψ w (.ptr r 0 0) (.ptr r1 0 0) true h_3) (
          ld1 h_3 (.ptr r1 0 0) fun v35 =>
          lenN v35 fun n8 =>
          s17c1 Ψ w (.ptr r 0 0) (.ptr r1 0 0) (decide (n8 ≤ w)) h_3))))

def s17_A (Ψ : AVal → Heap → Prop) : Ann :=
  .seq (.reg [⟨none, [(0, true), (1, false), (2, false), (3, false)]⟩])
  (.seq (rA 8)
  (.seq (.seq (rA 2)
  (.cond (.seq (rA 5)
  (.leaf))
  (.leaf)))
  (.seq (.cut [(1, .int .i64), (4, .any), (7, .any), (32, .bool)] (fun l h => J.cons l fun v l => J.int .i64 v fun x0 => J.cons l fun x1 l => J.cons l fun x2 l => J.cons l fun v l => J.bool v fun x3 => J.nil l (s17c1 Ψ x0 x1 x2 x3 h)) (.reg [⟨none, [(0, false), (1, false), (2, false)]⟩, ⟨some (26, false), [(3, false), (4, false), (5, false), (6, false), (7, false)]⟩, ⟨none, [(8, false)]⟩])
  (.cond (.seq (rA 4)
  (.leaf))
  (.leaf)))
  (.seq (rA 3)
  (.seq (rA 1)
  (.seq (.seq (rA 1)
  (.block (.loop [(4, .any), (7, .any), (9, .any), (10, .any), (11, .int .i64)] (fun n l h => s17l2_R (s17l2 Ψ n) l h) (fun L2 =>
  .seq (.seq (rA 4)
  (.cond (.leaf)
  (.leaf)))
  (.seq (.block (.seq (rA 1)
  (.seq (.seq (.draw [(0, false), (1, false), (2, false), (3, false), (4, false), (5, false), (6, false), (7, false), (8, false), (9, false)] [0, 1, 0, 0, 12, 28, 63, 127, 255, 0])
  (.block (.loop [(4, .any), (7, .any), (9, .any), (10, .any), (11, .int .i64), (12, .any), (49, .any), (50, .int .i64), (51, .int .i64)] (fun n l h => s17l3_R (s17l3 Ψ (fun y0 y1 y2 y3 y4 h => L2 [y0, y1, y2, y3, (.int .i64 y4)] h) n) l h) (fun L3 =>
  .seq (rA 1)
  (.seq (.cond (.leaf)
  (.leaf))
  (.seq (.block (.seq (rA 3)
  (.seq (.seq (rA 3)
  (.cond (.seq (rA 4)
  (.leaf))
  (.leaf)))
  (.seq (.reg [⟨none, [(0, false), (1, false), (2, false), (3, true), (4, false), (5, false)]⟩])
  (.reg [⟨none, [(0, false), (1, false), (2, true), (3, false), (4, false)]⟩])))))
  (rA 2)))))))
  (.seq (.reg [⟨none, [(0, false), (1, false), (2, false), (3, true), (4, false), (5, false), (6, false)]⟩])
  (.draw [(0, false), (1, false), (2, false), (3, false), (4, false), (5, false), (6, false), (7, false), (8, false), (9, false), (10, false), (11, true), (12, false), (13, false), (14, false)] [0, 1, 0, 4, 0, 0, 48, 112, 252, 508, 1020, 2044, 4095, 8191, 16383])))))
  (rA 3))))))
  (.seq (rA 5)
  (.leaf))))))))

theorem s17_ok {Ψ : AVal → Heap → Prop} {m_Up : AVal} {m_Val : AVal} {w : Int} {h : Heap} (H : s17 Ψ m_Up m_Val w h) : ACalls prog 17 [(.agg [m_Up, m_Val]), (.int .i64 w)] h Ψ :=
  calls_of_evF func17 (by kernel_rfl) (by kernel_rfl) (by kernel_rfl)
    (Eq.mpr (by as_aux_lemma => kernel_rfl : oblF prog f17 (s17_A Ψ) Ψ = (True ∧ True ∧ (True ∧ (True ∧ True) ∧ True) ∧ ((True) ∧ (∀ (h : Heap) (x0 : Int) (x1 x2 : AVal) (x3 : Bool), OI (s17c1 Ψ x0 x1 x2 x3 h)) ∧ ((True ∧ True) ∧ True)) ∧ True ∧ True ∧ (True ∧ (∀ (h : Heap) (x0 x1 x2 x3 : AVal) (x4 : Int), ON (s17l2 Ψ 0 x0 x1 x2 x3 x4 h)) ∧ ∀ n2 : Nat, (∀ (h : Heap) (x0 x1 x2 x3 : AVal) (x4 : Int), OI (s17l2 Ψ (n2 + 1) x0 x1 x2 x3 x4 h)) ∧ ((True ∧ True ∧ True) ∧ (True ∧ (True ∧ (∀ (h : Heap) (x0 x1 x2 x3 : AVal) (x4 : Int) (x5 x6 : AVal) (x7 x8 : Int), ON (s17l3 Ψ (s17l2_G (s17l2 Ψ n2)) 0 x0 x1 x2 x3 x4 x5 x6 x7 x8 h)) ∧ ∀ n3 : Nat, (∀ (h : Heap) (x0 x1 x2 x3 : AVal) (x4 : Int) (x5 x6 : AVal) (x7 x8 : Int), OI (s17l3 Ψ (s17l2_G (s17l2 Ψ n2)) (n3 + 1) x0 x1 x2 x3 x4 x5 x6 x7 x8 h)) ∧ (True ∧ (True ∧ True) ∧ (True ∧ (True ∧ (True ∧ True) ∧ True) ∧ True ∧ True) ∧ True)) ∧ True ∧ True) ∧ True)) ∧ True ∧ True)) ⟨trivial, ⟨trivial, ⟨⟨trivial, ⟨⟨trivial, trivial⟩, trivial⟩⟩, ⟨⟨trivial, fun _ _ _ _ _ H => H, ⟨⟨trivial, trivial⟩, trivial⟩⟩, ⟨trivial, ⟨trivial, ⟨⟨trivial, ⟨fun _ _ _ _ _ _ H => H, fun _ => ⟨fun _ _ _ _ _ _ H => H, ⟨⟨trivial, ⟨trivial, trivial⟩⟩, ⟨⟨trivial, ⟨⟨trivial, ⟨fun _ _ _ _ _ _ _ _ _ _ H => H, fun _ => ⟨fun _ _ _ _ _ _ _ _ _ _ H => H, ⟨trivial, ⟨⟨trivial, trivial⟩, ⟨⟨trivial, ⟨⟨trivial, ⟨⟨trivial, trivial⟩, trivial⟩⟩, ⟨trivial, trivial⟩⟩⟩, trivial⟩⟩⟩⟩⟩⟩, ⟨trivial, trivial⟩⟩⟩, trivial⟩⟩⟩⟩⟩, ⟨trivial, trivial⟩⟩⟩⟩⟩⟩⟩⟩)
    (Eq.mpr (by as_aux_lemma => kernel_rfl : evF prog f17 (s17_A Ψ) Ψ [(.agg [m_Up, m_Val]), (.int .i64 w)] h = s17 Ψ m_Up m_Val w h) H)

/- 19 dictum/dictumref17.Same -/
abbrev s19l2_T := AVal → AVal → Int → Heap → Prop
def s19l2_R (F : s19l2_T) (l : List AVal) (h : Heap) : Prop := J.cons l fun x0 l => J.cons l fun x1 l => J.cons l fun v l => J.int .i64 v fun x2 => J.nil l (F x0 x1 x2 h)
def s19l2_G (F : s19l2_T) (x0 x1 : AVal) (x2 : Int) (h : Heap) : Prop := gJ [.any, .any, .int .i64] [x0, x1, (.int .i64 x2)] h (s19l2_R F)
def s19l2_E (F : Nat → s19l2_T) (x0 x1 : AVal) (x2 : Int) (h : Heap) : Prop := gJ [.any, .any, .int .i64] [x0, x1, (.int .i64 x2)] h (fun l h => ∃ n, s19l2_R (F n) l h)
theorem s19l2_go {F : s19l2_T} {x0 x1 : AVal} {x2 : Int} {h : Heap} (H : F x0 x1 x2 h) : s19l2_G F x0 x1 x2 h := gJ_plain rfl H
theorem s19l2_in {F : Nat → s19l2_T} {x0 x1 : AVal} {x2 : Int} {h : Heap} (n : Nat) (H : F n x0 x1 x2 h) : s19l2_E F x0 x1 x2 h := gJ_plain rfl ⟨n, H⟩

abbrev s19l3_T := AVal → AVal → Int → Heap → Prop
def s19l3_R (F : s19l3_T) (l : List AVal) (h : Heap) : Prop := J.cons l fun x0 l => J.cons l fun x1 l => J.cons l fun v l => J.int .i64 v fun x2 => J.nil l (F x0 x1 x2 h)
def s19l3_G (F : s19l3_T) (x0 x1 : AVal) (x2 : Int) (h : Heap) : Prop := gJ [.any, .any, .int .i64] [x0, x1, (.int .i64 x2)] h (s19l3_R F)
def s19l3_E (F : Nat → s19l3_T) (x0 x1 : AVal) (x2 : Int) (h : Heap) : Prop := gJ [.any, .any, .int .i64] [x0, x1, (.int .i64 x2)] h (fun l h => ∃ n, s19l3_R (F n) l h)
theorem s19l3_go {F : s19l3_T} {x0 x1 : AVal} {x2 : Int} {h : Heap} (H : F x0 x1 x2 h) : s19l3_G F x0 x1 x2 h := gJ_plain rfl H
theorem s19l3_in {F : Nat → s19l3_T} {x0 x1 : AVal} {x2 : Int} {h : Heap} (n : Nat) (H : F n x0 x1 x2 h) : s19l3_E F x0 x1 x2 h := gJ_plain rfl ⟨n, H⟩

def s19l3 (Ψ : AVal → Heap → Prop) : Nat → s19l3_T
  | 0, _, _, _, _ => False
  | n2 + 1, a2, b2, i1, h =>
    addOff a2 1 fun p5 =>
    ld1 h p5 fun v7 =>
    lenN v7 fun n3 =>
    ifT (decide (i1 < n3)) (
      addOff a2 1 fun p6 =>
      ld1 h p6 fun v8 =>
      ixS 1 v8 i1 fun p7 =>
      ld1 h p7 fun v9 =>
      addOff b2 1 fun p8 =>
      ld1 h p8 fun v10 =>
      ixS 1 v10 i1 fun p9 =>
      ld1 h p9 fun v11 =>
      callG prog 23 [v9, v11] h fun v12 h_1 =>
      tBool v12 fun v13 =>
      ifT (!v13) (
        retG (.bool false) h_1 Ψ) (
        rg (i1 + 1) (
          s19l3_G (s19l3 Ψ n2) a2 b2 (i1 + 1) h_1))) (
      retG (.bool true) h Ψ)

def s19l2 (Ψ : AVal → Heap → Prop) : Nat → s19l2_T
  | 0, _, _, _, _ => False
  | n + 1, a1, b1, i, h =>
    addOff a1 0 fun p =>
    ld1 h p fun v =>
    lenN v fun n1 =>
    ifT (decide (i < n1)) (
      addOff a1 0 fun p1 =>
      ld1 h p1 fun v1 =>
      ixS 1 v1 i fun p2 =>
      ld1 h p2 fun v2 =>
      addOff b1 0 fun p3 =>
      ld1 h p3 fun v3 =>
      ixS 1 v3 i fun p4 =>
      ld1 h p4 fun v4 =>
      callG prog 16 [v2, v4] h fun v5 h_ =>
      tBool v5 fun v6 =>
      ifT (!v6) (
        retG (.bool false) h_ Ψ) (
        rg (i + 1) (
          s19l2_G (s19l2 Ψ n) a1 b1 (i + 1) h_))) (
      s19l3_E (s19l3 Ψ) a1 b1 0 h)

def s19c1 (Ψ : AVal → Heap → Prop) (a b : AVal) (t22 : Bool) (h : Heap) : Prop :=
  ifT t22 (
    retG (.bool false) h Ψ) (
    s19l2_E (s19l2 Ψ) a b 0 h)

def s19 (Ψ : AVal → Heap → Prop) (a_Up : AVal) (a_Val : AVal) (b_Up : AVal) (b_Val : AVal) (h : Heap) : Prop :=
  lenN a_Up fun n6 =>
  lenN b_Up fun n7 =>
  ifT (n6 != n7) (
    s19c1 Ψ (.lptr [a_Up, a_Val]) (.lptr [b_Up, b_Val]) true h) (
    lenN a_Val fun n8 =>
    lenN b_Val fun n9 =>
    s19c1 Ψ (.lptr [a_Up, a_Val]) (.lptr [b_Up, b_Val]) (n8 != n9) h)

def s19_A (Ψ : AVal → Heap → Prop) : Ann :=
  .seq (.reg [⟨none, [(0, true), (1, true), (2, false)]⟩])
  (.seq (.cut [(2, .any), (3, .any), (22, .bool)] (fun l h => J.cons l fun x0 l => J.cons l fun x1 l => J.cons l fun v l => J.bool v fun x2 => J.nil l (s19c1 Ψ x0 x1 x2 h)) (.reg [⟨none, [(0, false), (1, false), (2, false), (3, false), (4, false), (5, false), (6, false), (7, false)]⟩, ⟨some (14, false), [(8, false), (9, false), (10, false), (11, false), (12, false), (13, false), (14, false)]⟩, ⟨none, [(15, false)]⟩])
  (.cond (.seq (rA 1)
  (.leaf))
  (.leaf)))
  (.seq (.seq (rA 1)
  (.block (.loop [(2, .any), (3, .any), (5, .int .i64)] (fun n l h => s19l2_R (s19l2 Ψ n) l h) (fun L2 =>
  .seq (.seq (rA 5)
  (.cond (.leaf)
  (.leaf)))
  (.seq (.block (.seq (.draw [(0, false), (1, false), (2, false), (3, false), (4, false), (5, false), (6, false), (7, false), (8, false), (9, false), (10, false), (11, false)] [0, 1, 0, 7, 15, 0, 32, 0, 224, 480, 1023, 2047])
  (.cond (.seq (rA 1)
  (.leaf))
  (.leaf))))
  (rA 3))))))
  (.seq (.seq (rA 1)
  (.block (.loop [(2, .any), (3, .any), (6, .int .i64)] (fun n l h => s19l3_R (s19l3 Ψ n) l h) (fun L3 =>
  .seq (.seq (rA 5)
  (.cond (.leaf)
  (.leaf)))
  (.seq (.block (.seq (.draw [(0, false), (1, false), (2, false), (3, false), (4, false), (5, false), (6, false), (7, false), (8, false), (9, false), (10, false), (11, false)] [0, 1, 0, 7, 15, 0, 32, 0, 224, 480, 1023, 2047])
  (.cond (.seq (rA 1)
  (.leaf))
  (.leaf))))
  (rA 3))))))
  (.seq (rA 1)
  (.leaf)))))

theorem s19_ok {Ψ : AVal → Heap → Prop} {a_Up : AVal} {a_Val : AVal} {b_Up : AVal} {b_Val : AVal} {h : Heap} (H : s19 Ψ a_Up a_Val b_Up b_Val h) : ACalls prog 19 [(.agg [a_Up, a_Val]), (.agg [b_Up, b_Val])] h Ψ :=
  calls_of_evF func19 (by kernel_rfl) (by kernel_rfl) (by kernel_rfl)
    (Eq.mpr (by as_aux_lemma => kernel_rfl : oblF prog f19 (s19_A Ψ) Ψ = (True ∧ ((True) ∧ (∀ (h : Heap) (x0 x1 : AVal) (x2 : Bool), OI (s19c1 Ψ x0 x1 x2 h)) ∧ ((True ∧ True) ∧ True)) ∧ (True ∧ (∀ (h : Heap) (x0 x1 : AVal) (x2 : Int), ON (s19l2 Ψ 0 x0 x1 x2 h)) ∧ ∀ n2 : Nat, (∀ (h : Heap) (x0 x1 : AVal) (x2 : Int), OI (s19l2 Ψ (n2 + 1) x0 x1 x2 h)) ∧ ((True ∧ True ∧ True) ∧ (True ∧ (True ∧ True) ∧ True) ∧ True)) ∧ (True ∧ (∀ (h : Heap) (x0 x1 : AVal) (x2 : Int), ON (s19l3 Ψ 0 x0 x1 x2 h)) ∧ ∀ n3 : Nat, (∀ (h : Heap) (x0 x1 : AVal) (x2 : Int), OI (s19l3 Ψ (n3 + 1) x0 x1 x2 h)) ∧ ((True ∧ True ∧ True) ∧ (True ∧ (True ∧ True) ∧ True) ∧ True)) ∧ True ∧ True)) ⟨trivial, ⟨⟨trivial, fun _ _ _ _ H => H, ⟨⟨trivial, trivial⟩, trivial⟩⟩, ⟨⟨trivial, ⟨fun _ _ _ _ H => H, fun _ => ⟨fun _ _ _ _ H => H, ⟨⟨trivial, ⟨trivial, trivial⟩⟩, ⟨⟨trivial, ⟨⟨trivial, trivial⟩, trivial⟩⟩, trivial⟩⟩⟩⟩⟩, ⟨⟨trivial, ⟨fun _ _ _ _ H => H, fun _ => ⟨fun _ _ _ _ H => H, ⟨⟨trivial, ⟨trivial, trivial⟩⟩, ⟨⟨trivial, ⟨⟨trivial, trivial⟩, trivial⟩⟩, trivial⟩⟩⟩⟩⟩, ⟨trivial, trivial⟩⟩⟩⟩⟩)
    (Eq.mpr (by as_aux_lemma => kernel_rfl : evF prog f19 (s19_A Ψ) Ψ [(.agg [a_Up, a_Val]), (.agg [b_Up, b_Val])] h = s19 Ψ a_Up a_Val b_Up b_Val h) H)

/- 25 dictum/morph.Bounded -/
abbrev s25l2_T := AVal → AVal → AVal → AVal → AVal → Int → Int → Heap → Prop
def s25l2_R (F : s25l2_T) (l : List AVal) (h : Heap) : Prop := J.cons l fun x0 l => J.cons l fun x1 l => J.cons l fun x2 l => J.cons l fun x3 l => J.cons l fun x4 l => J.cons l fun v l => J.int .i64 v fun x5 => J.cons l fun v l => J.int .i64 v fun x6 => J.nil l (F x0 x1 x2 x3 x4 x5 x6 h)
def s25l2_G (F : s25l2_T) (x0 x1 x2 x3 x4 : AVal) (x5 x6 : Int) (h : Heap) : Prop := gJ [.any, .any, .any, .any, .any, .int .i64, .int .i64] [x0, x1, x2, x3, x4, (.int .i64 x5), (.int .i64 x6)] h (s25l2_R F)
def s25l2_E (F : Nat → s25l2_T) (x0 x1 x2 x3 x4 : AVal) (x5 x6 : Int) (h : Heap) : Prop := gJ [.any, .any, .any, .any, .any, .int .i64, .int .i64] [x0, x1, x2, x3, x4, (.int .i64 x5), (.int .i64 x6)] h (fun l h => ∃ n, s25l2_R (F n) l h)
theorem s25l2_go {F : s25l2_T} {x0 x1 x2 x3 x4 : AVal} {x5 x6 : Int} {h : Heap} (H : F x0 x1 x2 x3 x4 x5 x6 h) : s25l2_G F x0 x1 x2 x3 x4 x5 x6 h := gJ_plain rfl H
theorem s25l2_in {F : Nat → s25l2_T} {x0 x1 x2 x3 x4 : AVal} {x5 x6 : Int} {h : Heap} (n : Nat) (H : F n x0 x1 x2 x3 x4 x5 x6 h) : s25l2_E F x0 x1 x2 x3 x4 x5 x6 h := gJ_plain rfl ⟨n, H⟩

abbrev s25l3_T := AVal → AVal → AVal → AVal → AVal → Int → AVal → Int → Int → AVal → Int → Int → Heap → Prop
def s25l3_R (F : s25l3_T) (l : List AVal) (h : Heap) : Prop := J.cons l fun x0 l => J.cons l fun x1 l => J.cons l fun x2 l => J.cons l fun x3 l => J.cons l fun x4 l => J.cons l fun v l => J.int .i64 v fun x5 => J.cons l fun x6 l => J.cons l fun v l => J.int .i64 v fun x7 => J.cons l fun v l => J.int .i64 v fun x8 => J.cons l fun x9 l => J.cons l fun v l => J.int .i64 v fun x10 => J.cons l fun v l => J.int .i64 v fun x11 => J.nil l (F x0 x1 x2 x3 x4 x5 x6 x7 x8 x9 x10 x11 h)
def s25l3_G (F : s25l3_T) (x0 x1 x2 x3 x4 : AVal) (x5 : Int) (x6 : AVal) (x7 x8 : Int) (x9 : AVal) (x10 x11 : Int) (h : Heap) : Prop := gJ [.any, .any, .any, .any, .any, .int .i64, .any, .int .i64, .int .i64, .any, .int .i64, .int .i64] [x0, x1, x2, x3, x4, (.int .i64 x5), x6, (.int .i64 x7), (.int .i64 x8), x9, (.int .i64 x10), (.int .i64 x11)] h (s25l3_R F)
def s25l3_E (F : Nat → s25l3_T) (x0 x1 x2 x3 x4 : AVal) (x5 : Int) (x6 : AVal) (x7 x8 : Int) (x9 : AVal) (x10 x11 : Int) (h : Heap) : Prop := gJ [.any, .any, .any, .any, .any, .int .i64, .any, .int .i64, .int .i64, .any, .int .i64, .int .i64] [x0, x1, x2, x3, x4, (.int .i64 x5), x6, (.int .i64 x7), (.int .i64 x8), x9, (.int .i64 x10), (.int .i64 x11)] h (fun l h => ∃ n, s25l3_R (F n) l h)
theorem s25l3_go {F : s25l3_T} {x0 x1 x2 x3 x4 : AVal} {x5 : Int} {x6 : AVal} {x7 x8 : Int} {x9 : AVal} {x10 x11 : Int} {h : Heap} (H : F x0 x1 x2 x3 x4 x5 x6 x7 x8 x9 x10 x11 h) : s25l3_G F x0 x1 x2 x3 x4 x5 x6 x7 x8 x9 x10 x11 h := gJ_plain rfl H
theorem s25l3_in {F : Nat → s25l3_T} {x0 x1 x2 x3 x4 : AVal} {x5 : Int} {x6 : AVal} {x7 x8 : Int} {x9 : AVal} {x10 x11 : Int} {h : Heap} (n : Nat) (H : F n x0 x1 x2 x3 x4 x5 x6 x7 x8 x9 x10 x11 h) : s25l3_E F x0 x1 x2 x3 x4 x5 x6 x7 x8 x9 x10 x11 h := gJ_plain rfl ⟨n, H⟩

def s25l3 (Ψ : AVal → Heap → Prop) (L2 : s25l2_T) : Nat → s25l3_T
  | 0, _, _, _, _, _, _, _, _, _, _, _, _, _ => False
  | n6 + 1, f3, m2, n5, o2, p8, a, hit, t42_1, t43_1, t65, t66, t67, h =>
    ifT (decide (t67 < t66)) (
      ixS 1 t65 t67 fun p9 =>
      ld1 h p9 fun v17 =>
      tInt .i64 v17 fun v18 =>
      ld1 h hit fun v19 =>
      ixS 1 f3 v18 fun p10 =>
      ld1 h p10 fun v20 =>
      tInt .i64 v20 fun v21 =>
      mapGet (.int .i64 0) h v19 (.int .i64 v21) fun v22 b =>
      tInt .i64 v22 fun v23 =>
      rg (v23 + 1) (
        mapPut h v19 (.int .i64 v21) (.int .i64 (v23 + 1)) fun h_8 =>
        ld1 h_8 p8 fun v24 =>
        ixS 1 f3 a fun p11 =>
        ld1 h_8 p11 fun v25 =>
        tInt .i64 v25 fun v26 =>
        ixS 1 v24 v26 fun p12 =>
        ld1 h_8 p12 fun v27 =>
        ixS 1 f3 v18 fun p13 =>
        ld1 h_8 p13 fun v28 =>
        tInt .i64 v28 fun v29 =>
        callG prog 54 [v27, (.int .i64 v29)] h_8 fun v30 h_9 =>
        tBool v30 fun v31 =>
        ifT (!v31) (
          retG (.tuple [(.bool false), (.int .i64 0)]) h_9 Ψ) (
          rg (t67 + 1) (
            s25l3_G (s25l3 Ψ L2 n6) f3 m2 n5 o2 p8 a hit t42_1 t43_1 t65 t66 (t67 + 1) h_9)))) (
      ld1 h p8 fun v32 =>
      ixS 1 f3 a fun p14 =>
      ld1 h p14 fun v33 =>
      tInt .i64 v33 fun v34 =>
      ixS 1 v32 v34 fun p15 =>
      ld1 h p15 fun v35 =>
      callG prog 51 [v35, (.func (.func 55) [] [hit])] h fun v36 h_10 =>
      tBool v36 fun v37 =>
      ifT v37 (
        retG (.tuple [(.bool false), (.int .i64 0)]) h_10 Ψ) (
        rg (t43_1 + 1) (
          L2 f3 m2 n5 o2 p8 t42_1 (t43_1 + 1) h_10)))

def s25l2 (Ψ : AVal → Heap → Prop) : Nat → s25l2_T
  | 0, _, _, _, _, _, _, _, _ => False
  | n3 + 1, f2, m1, n2, o1, p1, t42, t43, h =>
    ifT (decide (t43 < t42)) (
      addOff m1 1 fun p2 =>
      ld1 h p2 fun v8 =>
      ixS 1 v8 t43 fun p3 =>
      ld1 h p3 fun v9 =>
      addOff n2 1 fun p4 =>
      ld1 h p4 fun v10 =>
      ixS 1 f2 t43 fun p5 =>
      ld1 h p5 fun v11 =>
      tInt .i64 v11 fun v12 =>
      ixS 1 v10 v12 fun p6 =>
      ld1 h p6 fun v13 =>
      callG prog 53 [v9, v13] h fun v14 h_4 =>
      tBool v14 fun v15 =>
      ifT (!v15) (
        retG (.tuple [(.bool false), (.int .i64 0)]) h_4 Ψ) (
        newMap h_4 fun r1 h_5 =>
        Sym.newRow 1 [.nilmap] h_5 fun r2 h_6 =>
        st true h_6 (.ptr r2 0 0) [(.mapr r1)] fun h_7 =>
        ixS 1 o1 t43 fun p7 =>
        ld1 h_7 p7 fun v16 =>
        lenN v16 fun n4 =>
        s25l3_E (s25l3 Ψ (s25l2_G (s25l2 Ψ n3))) f2 m1 n2 o1 p1 t43 (.ptr r2 0 0) t42 t43 v16 n4 0 h_7)) (
      retG (.tuple [(.bool true), (.int .i64 0)]) h Ψ)

def s25c1 (Ψ : AVal → Heap → Prop) (f1 m n o p : AVal) (t40 : Bool) (h : Heap) : Prop :=
  ifT t40 (
    retG (.tuple [(.bool false), (.int .i64 190)]) h Ψ) (
    lenN o fun n1 =>
    s25l2_E (s25l2 Ψ) f1 m n o p n1 0 h)

def s25 (Ψ : AVal → Heap → Prop) (m_Up : AVal) (m_Val : AVal) (n_Up : AVal) (n_Val : AVal) (f : AVal) (h : Heap) : Prop :=
  callG prog 28 [(.agg [m_Up, m_Val])] h fun v h_ =>
  tTup v fun l_ =>
  tCons l_ fun v1 l_1 =>
  tCons l_1 fun v2 l_2 =>
  tInt .i64 v2 fun v3 =>
  tNil l_2 (
    ifT (v3 != 0) (
      retG (.tuple [(.bool false), (.int .i64 v3)]) h_ Ψ) (
      callG prog 28 [(.agg [n_Up, n_Val])] h_ fun v4 h_1 =>
      tTup v4 fun l_3 =>
      tCons l_3 fun v5 l_4 =>
      tCons l_4 fun v6 l_5 =>
      tInt .i64 v6 fun v7 =>
      tNil l_5 (
        Sym.newRow 1 [.nilsl] h_1 fun r h_2 =>
        chk (sc v5) (
          st true h_2 (.ptr r 0 0) [v5] fun h_3 =>
          ifT (v7 != 0) (
            retG (.tuple [(.bool false), (.int .i64 v7)]) h_3 Ψ) (
            lenN f fun n9 =>
            lenN v1 fun n10 =>
            ifT (n9 != n10) (
              s25c1 Ψ f (.lptr [m_Up, m_Val]) (.lptr [n_Up, n_Val]) v1 (.ptr r 0 0) true h_3) (
              callG prog 51 [f, (.func (.func 52) [] [(.ptr r 0 0)])] h_3 fun v38 h_11 =>
              tBool v38 fun v39 =>
              s25c1 Ψ f (.lptr [m_Up, m_Val]) (.lptr [n_Up, n_Val]) v1 (.ptr r 0 0) v39 h_11))))))

def s25_A (Ψ : AVal → Heap → Prop) : Ann :=
  .seq (.reg [⟨none, [(0, true), (1, true), (2, false), (3, false)]⟩])
  (.seq (rA 7)
  (.seq (.seq (rA 2)
  (.cond (.seq (rA 3)
  (.leaf))
  (.leaf)))
  (.seq (rA 8)
  (.seq (.seq (rA 2)
  (.cond (.seq (rA 3)
  (.leaf))
  (.leaf)))
  (.seq (.cut [(2, .any), (3, .any), (4, .any), (8, .any), (10, .any), (40, .bool)] (fun l h => J.cons l fun x0 l => J.cons l fun x1 l => J.cons l fun x2 l => J.cons l fun x3 l => J.cons l fun x4 l => J.cons l fun v l => J.bool v fun x5 => J.nil l (s25c1 Ψ x0 x1 x2 x3 x4 x5 h)) (.reg [⟨none, [(0, false), (1, false), (2, false), (3, false), (4, false), (5, false)]⟩, ⟨some (36, false), [(6, false), (7, false), (8, false)]⟩, ⟨none, [(9, false)]⟩])
  (.cond (.seq (rA 2)
  (.leaf))
  (.leaf)))
  (.seq (.seq (rA 3)
  (.block (.loop [(2, .any), (3, .any), (4, .any), (8, .any), (10, .any), (42, .int .i64), (43, .int .i64)] (fun n l h => s25l2_R (s25l2 Ψ n) l h) (fun L2 =>
  .seq (rA 1)
  (.seq (.cond (.leaf)
  (.leaf))
  (.seq (.block (.seq (rA 2)
  (.seq (.seq (.draw [(0, false), (1, false), (2, false), (3, false), (4, false), (5, false), (6, false), (7, false), (8, false), (9, false), (10, false), (11, false), (12, false), (13, false), (14, false)] [0, 1, 0, 7, 15, 0, 32, 0, 0, 384, 896, 2016, 4064, 8191, 16383])
  (.cond (.seq (rA 2)
  (.leaf))
  (.leaf)))
  (.seq (rA 3)
  (.seq (.seq (rA 6)
  (.block (.loop [(2, .any), (3, .any), (4, .any), (8, .any), (10, .any), (11, .int .i64), (12, .any), (42, .int .i64), (43, .int .i64), (65, .any), (66, .int .i64), (67, .int .i64)] (fun n l h => s25l3_R (s25l3 Ψ (fun y0 y1 y2 y3 y4 y5 y6 h => L2 [y0, y1, y2, y3, y4, (.int .i64 y5), (.int .i64 y6)] h) n) l h) (fun L3 =>
  .seq (rA 1)
  (.seq (.cond (.leaf)
  (.leaf))
  (.seq (.block (.seq (rA 3)
  (.seq (.draw [(0, false), (1, false), (2, false), (3, false), (4, false), (5, false), (6, false), (7, false)] [0, 0, 0, 6, 14, 31, 63, 127])
  (.seq (.draw [(0, false), (1, false), (2, false), (3, false), (4, false), (5, false), (6, false), (7, false), (8, false), (9, false), (10, false), (11, false), (12, false)] [0, 0, 0, 6, 14, 31, 63, 0, 0, 384, 896, 2047, 4095])
  (.cond (.seq (rA 2)
  (.leaf))
  (.leaf))))))
  (rA 2)))))))
  (.seq (.draw [(0, false), (1, false), (2, false), (3, false), (4, false), (5, false), (6, false), (7, false), (8, false)] [0, 0, 0, 6, 14, 31, 63, 0, 255])
  (.cond (.seq (rA 2)
  (.leaf))
  (.leaf))))))))
  (rA 2)))))))
  (.seq (rA 2)
  (.leaf))))))))

theorem s25_ok {Ψ : AVal → Heap → Prop} {m_Up : AVal} {m_Val : AVal} {n_Up : AVal} {n_Val : AVal} {f : AVal} {h : Heap} (H : s25 Ψ m_Up m_Val n_Up n_Val f h) : ACalls prog 25 [(.agg [m_Up, m_Val]), (.agg [n_Up, n_Val]), f] h Ψ :=
  calls_of_evF func25 (by kernel_rfl) (by kernel_rfl) (by kernel_rfl)
    (Eq.mpr (by as_aux_lemma => kernel_rfl : oblF prog f25 (s25_A Ψ) Ψ = (True ∧ True ∧ (True ∧ (True ∧ True) ∧ True) ∧ True ∧ (True ∧ (True ∧ True) ∧ True) ∧ ((True) ∧ (∀ (h : Heap) (x0 x1 x2 x3 x4 : AVal) (x5 : Bool), OI (s25c1 Ψ x0 x1 x2 x3 x4 x5 h)) ∧ ((True ∧ True) ∧ True)) ∧ (True ∧ (∀ (h : Heap) (x0 x1 x2 x3 x4 : AVal) (x5 x6 : Int), ON (s25l2 Ψ 0 x0 x1 x2 x3 x4 x5 x6 h)) ∧ ∀ n2 : Nat, (∀ (h : Heap) (x0 x1 x2 x3 x4 : AVal) (x5 x6 : Int), OI (s25l2 Ψ (n2 + 1) x0 x1 x2 x3 x4 x5 x6 h)) ∧ (True ∧ (True ∧ True) ∧ (True ∧ (True ∧ (True ∧ True) ∧ True) ∧ True ∧ (True ∧ (∀ (h : Heap) (x0 x1 x2 x3 x4 : AVal) (x5 : Int) (x6 : AVal) (x7 x8 : Int) (x9 : AVal) (x10 x11 : Int), ON (s25l3 Ψ (s25l2_G (s25l2 Ψ n2)) 0 x0 x1 x2 x3 x4 x5 x6 x7 x8 x9 x10 x11 h)) ∧ ∀ n3 : Nat, (∀ (h : Heap) (x0 x1 x2 x3 x4 : AVal) (x5 : Int) (x6 : AVal) (x7 x8 : Int) (x9 : AVal) (x10 x11 : Int), OI (s25l3 Ψ (s25l2_G (s25l2 Ψ n2)) (n3 + 1) x0 x1 x2 x3 x4 x5 x6 x7 x8 x9 x10 x11 h)) ∧ (True ∧ (True ∧ True) ∧ (True ∧ True ∧ True ∧ (True ∧ True) ∧ True) ∧ True)) ∧ True ∧ (True ∧ True) ∧ True) ∧ True)) ∧ True ∧ True)) ⟨trivial, ⟨trivial, ⟨⟨trivial, ⟨⟨trivial, trivial⟩, trivial⟩⟩, ⟨trivial, ⟨⟨trivial, ⟨⟨trivial, trivial⟩, trivial⟩⟩, ⟨⟨trivial, fun _ _ _ _ _ _ _ H => H, ⟨⟨trivial, trivial⟩, trivial⟩⟩, ⟨⟨trivial, ⟨fun _ _ _ _ _ _ _ _ H => H, fun _ => ⟨fun _ _ _ _ _ _ _ _ H => H, ⟨trivial, ⟨⟨trivial, trivial⟩, ⟨⟨trivial, ⟨⟨trivial, ⟨⟨trivial, trivial⟩, trivial⟩⟩, ⟨trivial, ⟨⟨trivial, ⟨fun _ _ _ _ _ _ _ _ _ _ _ _ _ H => H, fun _ => ⟨fun _ _ _ _ _ _ _ _ _ _ _ _ _ H => H, ⟨trivial, ⟨⟨trivial, trivial⟩, ⟨⟨trivial, ⟨trivial, ⟨trivial, ⟨⟨trivial, trivial⟩, trivial⟩⟩⟩⟩, trivial⟩⟩⟩⟩⟩⟩, ⟨trivial, ⟨⟨trivial, trivial⟩, trivial⟩⟩⟩⟩⟩⟩, trivial⟩⟩⟩⟩⟩⟩, ⟨trivial, trivial⟩⟩⟩⟩⟩⟩⟩⟩)
    (Eq.mpr (by as_aux_lemma => kernel_rfl : evF prog f25 (s25_A Ψ) Ψ [(.agg [m_Up, m_Val]), (.agg [n_Up, n_Val]), f] h = s25 Ψ m_Up m_Val n_Up n_Val f h) H)

/- 28 dictum/morph.reckon -/
abbrev s28l1_T := AVal → AVal → Int → Int → Heap → Prop
def s28l1_R (F : s28l1_T) (l : List AVal) (h : Heap) : Prop := J.cons l fun x0 l => J.cons l fun x1 l => J.cons l fun v l => J.int .i64 v fun x2 => J.cons l fun v l => J.int .i64 v fun x3 => J.nil l (F x0 x1 x2 x3 h)
def s28l1_G (F : s28l1_T) (x0 x1 : AVal) (x2 x3 : Int) (h : Heap) : Prop := gJ [.any, .any, .int .i64, .int .i64] [x0, x1, (.int .i64 x2), (.int .i64 x3)] h (s28l1_R F)
def s28l1_E (F : Nat → s28l1_T) (x0 x1 : AVal) (x2 x3 : Int) (h : Heap) : Prop := gJ [.any, .any, .int .i64, .int .i64] [x0, x1, (.int .i64 x2), (.int .i64 x3)] h (fun l h => ∃ n, s28l1_R (F n) l h)
theorem s28l1_go {F : s28l1_T} {x0 x1 : AVal} {x2 x3 : Int} {h : Heap} (H : F x0 x1 x2 x3 h) : s28l1_G F x0 x1 x2 x3 h := gJ_plain rfl H
theorem s28l1_in {F : Nat → s28l1_T} {x0 x1 : AVal} {x2 x3 : Int} {h : Heap} (n : Nat) (H : F n x0 x1 x2 x3 h) : s28l1_E F x0 x1 x2 x3 h := gJ_plain rfl ⟨n, H⟩

abbrev s28l2_T := AVal → AVal → Int → AVal → Int → Int → Int → Int → Heap → Prop
def s28l2_R (F : s28l2_T) (l : List AVal) (h : Heap) : Prop := J.cons l fun x0 l => J.cons l fun x1 l => J.cons l fun v l => J.int .i64 v fun x2 => J.cons l fun x3 l => J.cons l fun v l => J.int .i64 v fun x4 => J.cons l fun v l => J.int .i64 v fun x5 => J.cons l fun v l => J.int .i64 v fun x6 => J.cons l fun v l => J.int .i64 v fun x7 => J.nil l (F x0 x1 x2 x3 x4 x5 x6 x7 h)
def s28l2_G (F : s28l2_T) (x0 x1 : AVal) (x2 : Int) (x3 : AVal) (x4 x5 x6 x7 : Int) (h : Heap) : Prop := gJ [.any, .any, .int .i64, .any, .int .i64, .int .i64, .int .i64, .int .i64] [x0, x1, (.int .i64 x2), x3, (.int .i64 x4), (.int .i64 x5), (.int .i64 x6), (.int .i64 x7)] h (s28l2_R F)
def s28l2_E (F : Nat → s28l2_T) (x0 x1 : AVal) (x2 : Int) (x3 : AVal) (x4 x5 x6 x7 : Int) (h : Heap) : Prop := gJ [.any, .any, .int .i64, .any, .int .i64, .int .i64, .int .i64, .int .i64] [x0, x1, (.int .i64 x2), x3, (.int .i64 x4), (.int .i64 x5), (.int .i64 x6), (.int .i64 x7)] h (fun l h => ∃ n, s28l2_R (F n) l h)
theorem s28l2_go {F : s28l2_T} {x0 x1 : AVal} {x2 : Int} {x3 : AVal} {x4 x5 x6 x7 : Int} {h : Heap} (H : F x0 x1 x2 x3 x4 x5 x6 x7 h) : s28l2_G F x0 x1 x2 x3 x4 x5 x6 x7 h := gJ_plain rfl H
theorem s28l2_in {F : Nat → s28l2_T} {x0 x1 : AVal} {x2 : Int} {x3 : AVal} {x4 x5 x6 x7 : Int} {h : Heap} (n : Nat) (H : F n x0 x1 x2 x3 x4 x5 x6 x7 h) : s28l2_E F x0 x1 x2 x3 x4 x5 x6 x7 h := gJ_plain rfl ⟨n, H⟩

def s28c3 (Ψ : AVal → Heap → Prop) (L1 : s28l1_T) (L2 : s28l2_T) (m2 o2 : AVal) (w1 : Int) (in_1 : AVal) (t20_2 t21_2 t30_1 t31_1 : Int) (h : Heap) : Prop :=
  rg (t31_1 + 1) (
    L2 m2 o2 w1 in_1 t20_2 t21_2 t30_1 (t31_1 + 1) h)

def s28l2 (Ψ : AVal → Heap → Prop) (L1 : s28l1_T) : Nat → s28l2_T
  | 0, _, _, _, _, _, _, _, _, _ => False
  | n4 + 1, m1, o1, w, in_, t20_1, t21_1, t30, t31, h =>
    ifT (decide (t31 < t30)) (
      ld1 h in_ fun v5 =>
      mapGet (.int .i64 0) h v5 (.int .i64 t31) fun v6 b =>
      tInt .i64 v6 fun v7 =>
      ifT (decide (0 < v7)) (
        ixS 1 o1 w fun p =>
        ld1 h p fun v8 =>
        appC 1 8 h v8 (.lsl 1 [(.int .i64 t31)]) fun v9 h_8 =>
        ixS 1 o1 w fun p1 =>
        chk (sc v9) (
          st true h_8 p1 [v9] fun h_9 =>
          s28c3 Ψ L1 (s28l2_G (s28l2 Ψ L1 n4)) m1 o1 w in_ t20_1 t21_1 t30 t31 h_9)) (
        s28c3 Ψ L1 (s28l2_G (s28l2 Ψ L1 n4)) m1 o1 w in_ t20_1 t21_1 t30 t31 h)) (
      rg (t21_1 + 1) (
        L1 m1 o1 t20_1 (t21_1 + 1) h))

def s28l1 (Ψ : AVal → Heap → Prop) : Nat → s28l1_T
  | 0, _, _, _, _, _ => False
  | n2 + 1, m, o, t20, t21, h =>
    ifT (decide (t21 < t20)) (
      newMap h fun r h_2 =>
      Sym.newRow 1 [.nilmap] h_2 fun r1 h_3 =>
      st true h_3 (.ptr r1 0 0) [(.mapr r)] fun h_4 =>
      Sym.newRow 1 [.nilfunc] h_4 fun r2 h_5 =>
      st true h_5 (.ptr r2 0 0) [(.func (.func 57) [] [(.ptr r1 0 0), m, (.ptr r2 0 0)])] fun h_6 =>
      ld1 h_6 (.ptr r2 0 0) fun v3 =>
      callV prog v3 [(.int .i64 t21)] h_6 fun v4 h_7 =>
      lenN o fun n3 =>
      s28l2_E (s28l2 Ψ (s28l1_G (s28l1 Ψ n2))) m o t21 (.ptr r1 0 0) t20 t21 n3 0 h_7) (
      retG (.tuple [o, (.int .i64 0)]) h Ψ)

def s28 (Ψ : AVal → Heap → Prop) (m_Up : AVal) (m_Val : AVal) (h : Heap) : Prop :=
  callG prog 41 [(.agg [m_Up, m_Val])] h fun v h_ =>
  tInt .i64 v fun v1 =>
  ifT (v1 != 0) (
    retG (.tuple [.nilsl, (.int .i64 v1)]) h_ Ψ) (
    lenN m_Up fun n =>
    mkS false 1 24 .nilsl h_ n n fun v2 h_1 =>
    lenN v2 fun n1 =>
    s28l1_E (s28l1 Ψ) (.lptr [m_Up, m_Val]) v2 n1 0 h_1)

def s28_A (Ψ : AVal → Heap → Prop) : Ann :=
  .seq (.reg [⟨none, [(0, true), (1, false), (2, false)]⟩])
  (.seq (.seq (rA 3)
  (.seq (rA 2)
  (.cond (.seq (rA 3)
  (.leaf))
  (.leaf))))
  (.seq (rA 5)
  (.seq (.seq (rA 3)
  (.block (.loop [(1, .any), (5, .any), (20, .int .i64), (21, .int .i64)] (fun n l h => s28l1_R (s28l1 Ψ n) l h) (fun L1 =>
  .seq (rA 1)
  (.seq (.cond (.leaf)
  (.leaf))
  (.seq (.block (.seq (rA 2)
  (.seq (rA 3)
  (.seq (rA 1)
  (.seq (rA 2)
  (.seq (rA 3)
  (.seq (rA 3)
  (.block (.loop [(1, .any), (5, .any), (6, .int .i64), (7, .any), (20, .int .i64), (21, .int .i64), (30, .int .i64), (31, .int .i64)] (fun n l h => s28l2_R (s28l2 Ψ (fun y0 y1 y2 y3 h => L1 [y0, y1, (.int .i64 y2), (.int .i64 y3)] h) n) l h) (fun L2 =>
  .seq (rA 1)
  (.seq (.cond (.leaf)
  (.leaf))
  (.cut [(1, .any), (5, .any), (6, .int .i64), (7, .any), (20, .int .i64), (21, .int .i64), (30, .int .i64), (31, .int .i64)] (fun l h => J.cons l fun x0 l => J.cons l fun x1 l => J.cons l fun v l => J.int .i64 v fun x2 => J.cons l fun x3 l => J.cons l fun v l => J.int .i64 v fun x4 => J.cons l fun v l => J.int .i64 v fun x5 => J.cons l fun v l => J.int .i64 v fun x6 => J.cons l fun v l => J.int .i64 v fun x7 => J.nil l (s28c3 Ψ (fun y0 y1 y2 y3 h => L1 [y0, y1, (.int .i64 y2), (.int .i64 y3)] h) (fun y0 y1 y2 y3 y4 y5 y6 y7 h => L2 [y0, y1, (.int .i64 y2), y3, (.int .i64 y4), (.int .i64 y5), (.int .i64 y6), (.int .i64 y7)] h) x0 x1 x2 x3 x4 x5 x6 x7 h)) (.block (.seq (rA 2)
  (.seq (rA 4)
  (.cond (.reg [⟨none, [(0, false), (1, false), (2, false), (3, false), (4, false), (5, false), (6, false), (7, true), (8, false), (9, false), (10, false)]⟩])
  (.leaf)))))
  (rA 2)))))))))))))
  (rA 2)))))))
  (.seq (rA 3)
  (.leaf)))))

theorem s28_ok {Ψ : AVal → Heap → Prop} {m_Up : AVal} {m_Val : AVal} {h : Heap} (H : s28 Ψ m_Up m_Val h) : ACalls prog 28 [(.agg [m_Up, m_Val])] h Ψ :=
  calls_of_evF func28 (by kernel_rfl) (by kernel_rfl) (by kernel_rfl)
    (Eq.mpr (by as_aux_lemma => kernel_rfl : oblF prog f28 (s28_A Ψ) Ψ = (True ∧ (True ∧ True ∧ (True ∧ True) ∧ True) ∧ True ∧ (True ∧ (∀ (h : Heap) (x0 x1 : AVal) (x2 x3 : Int), ON (s28l1 Ψ 0 x0 x1 x2 x3 h)) ∧ ∀ n1 : Nat, (∀ (h : Heap) (x0 x1 : AVal) (x2 x3 : Int), OI (s28l1 Ψ (n1 + 1) x0 x1 x2 x3 h)) ∧ (True ∧ (True ∧ True) ∧ (True ∧ True ∧ True ∧ True ∧ True ∧ True ∧ (∀ (h : Heap) (x0 x1 : AVal) (x2 : Int) (x3 : AVal) (x4 x5 x6 x7 : Int), ON (s28l2 Ψ (s28l1_G (s28l1 Ψ n1)) 0 x0 x1 x2 x3 x4 x5 x6 x7 h)) ∧ ∀ n2 : Nat, (∀ (h : Heap) (x0 x1 : AVal) (x2 : Int) (x3 : AVal) (x4 x5 x6 x7 : Int), OI (s28l2 Ψ (s28l1_G (s28l1 Ψ n1)) (n2 + 1) x0 x1 x2 x3 x4 x5 x6 x7 h)) ∧ (True ∧ (True ∧ True) ∧ (True ∧ True ∧ True ∧ True) ∧ (∀ (h : Heap) (x0 x1 : AVal) (x2 : Int) (x3 : AVal) (x4 x5 x6 x7 : Int), OI (s28c3 Ψ (s28l1_G (s28l1 Ψ n1)) (s28l2_G (s28l2 Ψ (s28l1_G (s28l1 Ψ n1)) n2)) x0 x1 x2 x3 x4 x5 x6 x7 h)) ∧ (True))) ∧ True)) ∧ True ∧ True)) ⟨trivial, ⟨⟨trivial, ⟨trivial, ⟨⟨trivial, trivial⟩, trivial⟩⟩⟩, ⟨trivial, ⟨⟨trivial, ⟨fun _ _ _ _ _ H => H, fun _ => ⟨fun _ _ _ _ _ H => H, ⟨trivial, ⟨⟨trivial, trivial⟩, ⟨⟨trivial, ⟨trivial, ⟨trivial, ⟨trivial, ⟨trivial, ⟨trivial, ⟨fun _ _ _ _ _ _ _ _ _ H => H, fun _ => ⟨fun _ _ _ _ _ _ _ _ _ H => H, ⟨trivial, ⟨⟨trivial, trivial⟩, ⟨⟨trivial, ⟨trivial, ⟨trivial, trivial⟩⟩⟩, fun _ _ _ _ _ _ _ _ _ H => H, trivial⟩⟩⟩⟩⟩⟩⟩⟩⟩⟩⟩, trivial⟩⟩⟩⟩⟩⟩, ⟨trivial, trivial⟩⟩⟩⟩⟩)
    (Eq.mpr (by as_aux_lemma => kernel_rfl : evF prog f28 (s28_A Ψ) Ψ [(.agg [m_Up, m_Val])] h = s28 Ψ m_Up m_Val h) H)

/- 30 dictum/morph.part -/
abbrev s30l1_T := AVal → AVal → AVal → AVal → AVal → AVal → Int → Int → Heap → Prop
def s30l1_R (F : s30l1_T) (l : List AVal) (h : Heap) : Prop := J.cons l fun x0 l => J.cons l fun x1 l => J.cons l fun x2 l => J.cons l fun x3 l => J.cons l fun x4 l => J.cons l fun x5 l => J.cons l fun v l => J.int .i64 v fun x6 => J.cons l fun v l => J.int .i64 v fun x7 => J.nil l (F x0 x1 x2 x3 x4 x5 x6 x7 h)
def s30l1_G (F : s30l1_T) (x0 x1 x2 x3 x4 x5 : AVal) (x6 x7 : Int) (h : Heap) : Prop := gJ [.any, .any, .any, .any, .any, .any, .int .i64, .int .i64] [x0, x1, x2, x3, x4, x5, (.int .i64 x6), (.int .i64 x7)] h (s30l1_R F)
def s30l1_E (F : Nat → s30l1_T) (x0 x1 x2 x3 x4 x5 : AVal) (x6 x7 : Int) (h : Heap) : Prop := gJ [.any, .any, .any, .any, .any, .any, .int .i64, .int .i64] [x0, x1, x2, x3, x4, x5, (.int .i64 x6), (.int .i64 x7)] h (fun l h => ∃ n, s30l1_R (F n) l h)
theorem s30l1_go {F : s30l1_T} {x0 x1 x2 x3 x4 x5 : AVal} {x6 x7 : Int} {h : Heap} (H : F x0 x1 x2 x3 x4 x5 x6 x7 h) : s30l1_G F x0 x1 x2 x3 x4 x5 x6 x7 h := gJ_plain rfl H
theorem s30l1_in {F : Nat → s30l1_T} {x0 x1 x2 x3 x4 x5 : AVal} {x6 x7 : Int} {h : Heap} (n : Nat) (H : F n x0 x1 x2 x3 x4 x5 x6 x7 h) : s30l1_E F x0 x1 x2 x3 x4 x5 x6 x7 h := gJ_plain rfl ⟨n, H⟩

abbrev s30l2_T := AVal → AVal → AVal → AVal → AVal → Int → AVal → AVal → Int → Int → AVal → Int → Int → Heap → Prop
def s30l2_R (F : s30l2_T) (l : List AVal) (h : Heap) : Prop := J.cons l fun x0 l => J.cons l fun x1 l => J.cons l fun x2 l => J.cons l fun x3 l => J.cons l fun x4 l => J.cons l fun v l => J.int .i64 v fun x5 => J.cons l fun x6 l => J.cons l fun x7 l => J.cons l fun v l => J.int .i64 v fun x8 => J.cons l fun v l => J.int .i64 v fun x9 => J.cons l fun x10 l => J.cons l fun v l => J.int .i64 v fun x11 => J.cons l fun v l => J.int .i64 v fun x12 => J.nil l (F x0 x1 x2 x3 x4 x5 x6 x7 x8 x9 x10 x11 x12 h)
def s30l2_G (F : s30l2_T) (x0 x1 x2 x3 x4 : AVal) (x5 : Int) (x6 x7 : AVal) (x8 x9 : Int) (x10 : AVal) (x11 x12 : Int) (h : Heap) : Prop := gJ [.any, .any, .any, .any, .any, .int .i64, .any, .any, .int .i64, .int .i64, .any, .int .i64, .int .i64] [x0, x1, x2, x3, x4, (.int .i64 x5), x6, x7, (.int .i64 x8), (.int .i64 x9), x10, (.int .i64 x11), (.int .i64 x12)] h (s30l2_R F)
def s30l2_E (F : Nat → s30l2_T) (x0 x1 x2 x3 x4 : AVal) (x5 : Int) (x6 x7 : AVal) (x8 x9 : Int) (x10 : AVal) (x11 x12 : Int) (h : Heap) : Prop := gJ [.any, .any, .any, .any, .any, .int .i64, .any, .any, .int .i64, .int .i64, .any, .int .i64, .int .i64] [x0, x1, x2, x3, x4, (.int .i64 x5), x6, x7, (.int .i64 x8), (.int .i64 x9), x10, (.int .i64 x11), (.int .i64 x12)] h (fun l h => ∃ n, s30l2_R (F n) l h)
theorem s30l2_go {F : s30l2_T} {x0 x1 x2 x3 x4 : AVal} {x5 : Int} {x6 x7 : AVal} {x8 x9 : Int} {x10 : AVal} {x11 x12 : Int} {h : Heap} (H : F x0 x1 x2 x3 x4 x5 x6 x7 x8 x9 x10 x11 x12 h) : s30l2_G F x0 x1 x2 x3 x4 x5 x6 x7 x8 x9 x10 x11 x12 h := gJ_plain rfl H
theorem s30l2_in {F : Nat → s30l2_T} {x0 x1 x2 x3 x4 : AVal} {x5 : Int} {x6 x7 : AVal} {x8 x9 : Int} {x10 : AVal} {x11 x12 : Int} {h : Heap} (n : Nat) (H : F n x0 x1 x2 x3 x4 x5 x6 x7 x8 x9 x10 x11 x12 h) : s30l2_E F x0 x1 x2 x3 x4 x5 x6 x7 x8 x9 x10 x11 x12 h := gJ_plain rfl ⟨n, H⟩

def s30c3 (Ψ : AVal → Heap → Prop) (L1 : s30l1_T) (L2 : s30l2_T) (o3 l_3 m2 t6_2 out2 : AVal) (w1 : Int) (up1 t15_2 : AVal) (t16_2 t17_2 : Int) (t24_1 : AVal) (t25_1 t26_1 : Int) (h : Heap) : Prop :=
  rg (t26_1 + 1) (
    L2 o3 l_3 m2 t6_2 out2 w1 up1 t15_2 t16_2 t17_2 t24_1 t25_1 (t26_1 + 1) h)

def s30c4 (Ψ : AVal → Heap → Prop) (L1 : s30l1_T) (L2 : s30l2_T) (o4 l_7 m3 t6_3 out3 : AVal) (w2 : Int) (up2 : AVal) (k : Int) (t15_3 : AVal) (t16_3 t17_3 : Int) (t24_2 : AVal) (t25_2 t26_2 : Int) (t41 : Bool) (h : Heap) : Prop :=
  ifT t41 (
    appC 1 8 h up2 (.lsl 1 [(.int .i64 k)]) fun v10 h_3 =>
    s30c3 Ψ L1 L2 o4 l_7 m3 t6_3 out3 w2 v10 t15_3 t16_3 t17_3 t24_2 t25_2 t26_2 h_3) (
    s30c3 Ψ L1 L2 o4 l_7 m3 t6_3 out3 w2 up2 t15_3 t16_3 t17_3 t24_2 t25_2 t26_2 h)

def s30l2 (Ψ : AVal → Heap → Prop) (L1 : s30l1_T) : Nat → s30l2_T
  | 0, _, _, _, _, _, _, _, _, _, _, _, _, _, _ => False
  | n3 + 1, o2, l_2, m1, t6_1, out1, w, up, t15_1, t16_1, t17_1, t24, t25, t26, h =>
    ifT (decide (t26 < t25)) (
      ixS 1 t24 t26 fun p2 =>
      ld1 h p2 fun v3 =>
      tInt .i64 v3 fun v4 =>
      callG prog 58 [l_2, (.int .i64 v4)] h fun v5 h_2 =>
      tTup v5 fun l_4 =>
      tCons l_4 fun v6 l_5 =>
      tInt .i64 v6 fun v7 =>
      tCons l_5 fun v8 l_6 =>
      tBool v8 fun v9 =>
      tNil l_6 (
        ifT v9 (
          s30c4 Ψ L1 (s30l2_G (s30l2 Ψ L1 n3)) o2 l_2 m1 t6_1 out1 w up v7 t15_1 t16_1 t17_1 t24 t25 t26 (v4 != w) h_2) (
          s30c4 Ψ L1 (s30l2_G (s30l2 Ψ L1 n3)) o2 l_2 m1 t6_1 out1 w up v7 t15_1 t16_1 t17_1 t24 t25 t26 false h_2))) (
      addOff out1 0 fun p3 =>
      ld1 h p3 fun v11 =>
      chk (sc up) (
        appC 1 24 h v11 (.lsl 1 [up]) fun v12 h_4 =>
        addOff out1 0 fun p4 =>
        chk (sc v12) (
          st true h_4 p4 [v12] fun h_5 =>
          addOff out1 1 fun p5 =>
          ld1 h_5 p5 fun v13 =>
          addOff m1 1 fun p6 =>
          ld1 h_5 p6 fun v14 =>
          ixS 1 v14 w fun p7 =>
          ld1 h_5 p7 fun v15 =>
          callG prog 35 [v15] h_5 fun v16 h_6 =>
          (ld1 h_6 p5 fun v17 =>
          v17 = v13) ∧
          chk (sc v16) (
            (ld1 h_6 p5 fun v18 =>
            v18 = v13) ∧
            appC 1 24 h_6 v13 (.lsl 1 [v16]) fun v19 h_7 =>
            addOff out1 1 fun p8 =>
            chk (sc v19) (
              st true h_7 p8 [v19] fun h_8 =>
              rg (t17_1 + 1) (
                L1 o2 l_2 m1 t6_1 out1 t15_1 t16_1 (t17_1 + 1) h_8))))))

def s30l1 (Ψ : AVal → Heap → Prop) : Nat → s30l1_T
  | 0, _, _, _, _, _, _, _, _, _ => False
  | n1 + 1, o1, l_1, m, t6, out, t15, t16, t17, h =>
    ifT (decide (t17 < t16)) (
      ixS 1 t15 t17 fun p =>
      ld1 h p fun v =>
      tInt .i64 v fun v1 =>
      ixS 1 o1 v1 fun p1 =>
      ld1 h p1 fun v2 =>
      lenN v2 fun n2 =>
      s30l2_E (s30l2 Ψ (s30l1_G (s30l1 Ψ n1))) o1 l_1 m t6 out v1 .nilsl t15 t16 t17 v2 n2 0 h) (
      ldN 2 h out fun l_8 =>
      tCons l_8 fun v20 l_9 =>
      tCons l_9 fun v21 l_10 =>
      tNil l_10 (
        callG prog 36 [(.agg [v20, v21])] h fun v22 h_9 =>
        tAgg v22 fun l_11 =>
        tCons l_11 fun v23 l_12 =>
        tCons l_12 fun v24 l_13 =>
        tNil l_13 (
          st false h_9 t6 [v23, v24] fun h_10 =>
          ldN 2 h_10 t6 fun l_14 =>
          tCons l_14 fun v25 l_15 =>
          tCons l_15 fun v26 l_16 =>
          tNil l_16 (
            retG (.agg [v25, v26]) h_10 Ψ))))

def s30 (Ψ : AVal → Heap → Prop) (m_Up : AVal) (m_Val : AVal) (o : AVal) (l_ : AVal) (h : Heap) : Prop :=
  Sym.newRow 2 [(.agg [.nilsl, .nilsl])] h fun r h_ =>
  Sym.newRow 2 [(.agg [.nilsl, .nilsl])] h_ fun r1 h_1 =>
  lenN l_ fun n =>
  s30l1_E (s30l1 Ψ) o l_ (.lptr [m_Up, m_Val]) (.ptr r 0 0) (.ptr r1 0 0) l_ n 0 h_1

def s30_A (Ψ : AVal → Heap → Prop) : Ann :=
  .seq (.reg [⟨none, [(0, true), (1, false)]⟩])
  (.seq (rA 1)
  (.seq (.seq (rA 3)
  (.block (.loop [(1, .any), (2, .any), (3, .any), (6, .any), (7, .any), (15, .any), (16, .int .i64), (17, .int .i64)] (fun n l h => s30l1_R (s30l1 Ψ n) l h) (fun L1 =>
  .seq (rA 1)
  (.seq (.cond (.leaf)
  (.leaf))
  (.seq (.block (.seq (rA 3)
  (.seq (rA 1)
  (.seq (.seq (rA 6)
  (.block (.loop [(1, .any), (2, .any), (3, .any), (6, .any), (7, .any), (9, .int .i64), (10, .any), (15, .any), (16, .int .i64), (17, .int .i64), (24, .any), (25, .int .i64), (26, .int .i64)] (fun n l h => s30l2_R (s30l2 Ψ (fun y0 y1 y2 y3 y4 y5 y6 y7 h => L1 [y0, y1, y2, y3, y4, y5, (.int .i64 y6), (.int .i64 y7)] h) n) l h) (fun L2 =>
  .seq (rA 1)
  (.seq (.cond (.leaf)
  (.leaf))
  (.cut [(1, .any), (2, .any), (3, .any), (6, .any), (7, .any), (9, .int .i64), (10, .any), (15, .any), (16, .int .i64), (17, .int .i64), (24, .any), (25, .int .i64), (26, .int .i64)] (fun l h => J.cons l fun x0 l => J.cons l fun x1 l => J.cons l fun x2 l => J.cons l fun x3 l => J.cons l fun x4 l => J.cons l fun v l => J.int .i64 v fun x5 => J.cons l fun x6 l => J.cons l fun x7 l => J.cons l fun v l => J.int .i64 v fun x8 => J.cons l fun v l => J.int .i64 v fun x9 => J.cons l fun x10 l => J.cons l fun v l => J.int .i64 v fun x11 => J.cons l fun v l => J.int .i64 v fun x12 => J.nil l (s30c3 Ψ (fun y0 y1 y2 y3 y4 y5 y6 y7 h => L1 [y0, y1, y2, y3, y4, y5, (.int .i64 y6), (.int .i64 y7)] h) (fun y0 y1 y2 y3 y4 y5 y6 y7 y8 y9 y10 y11 y12 h => L2 [y0, y1, y2, y3, y4, (.int .i64 y5), y6, y7, (.int .i64 y8), (.int .i64 y9), y10, (.int .i64 y11), (.int .i64 y12)] h) x0 x1 x2 x3 x4 x5 x6 x7 x8 x9 x10 x11 x12 h)) (.block (.seq (rA 3)
  (.seq (rA 8)
  (.cut [(1, .any), (2, .any), (3, .any), (6, .any), (7, .any), (9, .int .i64), (10, .any), (13, .int .i64), (15, .any), (16, .int .i64), (17, .int .i64), (24, .any), (25, .int .i64), (26, .int .i64), (41, .bool)] (fun l h => J.cons l fun x0 l => J.cons l fun x1 l => J.cons l fun x2 l => J.cons l fun x3 l => J.cons l fun x4 l => J.cons l fun v l => J.int .i64 v fun x5 => J.cons l fun x6 l => J.cons l fun v l => J.int .i64 v fun x7 => J.cons l fun x8 l => J.cons l fun v l => J.int .i64 v fun x9 => J.cons l fun v l => J.int .i64 v fun x10 => J.cons l fun x11 l => J.cons l fun v l => J.int .i64 v fun x12 => J.cons l fun v l => J.int .i64 v fun x13 => J.cons l fun v l => J.bool v fun x14 => J.nil l (s30c4 Ψ (fun y0 y1 y2 y3 y4 y5 y6 y7 h => L1 [y0, y1, y2, y3, y4, y5, (.int .i64 y6), (.int .i64 y7)] h) (fun y0 y1 y2 y3 y4 y5 y6 y7 y8 y9 y10 y11 y12 h => L2 [y0, y1, y2, y3, y4, (.int .i64 y5), y6, y7, (.int .i64 y8), (.int .i64 y9), y10, (.int .i64 y11), (.int .i64 y12)] h) x0 x1 x2 x3 x4 x5 x6 x7 x8 x9 x10 x11 x12 x13 x14 h)) (.reg [⟨none, [(0, false), (1, false)]⟩, ⟨some (37, true), [(2, false), (3, false), (4, false)]⟩, ⟨none, [(5, false)]⟩])
  (.cond (.reg [⟨none, [(0, false), (1, false), (2, true), (3, false), (4, false)]⟩])
  (.leaf))))))
  (rA 2)))))))
  (.seq (.reg [⟨none, [(0, false), (1, false), (2, false), (3, true), (4, false), (5, false), (6, false)]⟩])
  (.draw [(0, false), (1, false), (2, false), (3, false), (4, false), (5, false), (6, false), (7, false), (8, true), (9, false), (10, false), (11, false)] [0, 1, 0, 4, 0, 28, 60, 124, 252, 511, 1023, 2047]))))))
  (rA 2)))))))
  (.seq (rA 3)
  (.leaf))))

theorem s30_ok {Ψ : AVal → Heap → Prop} {m_Up : AVal} {m_Val : AVal} {o : AVal} {l_ : AVal} {h : Heap} (H : s30 Ψ m_Up m_Val o l_ h) : ACalls prog 30 [(.agg [m_Up, m_Val]), o, l_] h Ψ :=
  calls_of_evF func30 (by kernel_rfl) (by kernel_rfl) (by kernel_rfl)
    (Eq.mpr (by as_aux_lemma => kernel_rfl : oblF prog f30 (s30_A Ψ) Ψ = (True ∧ True ∧ (True ∧ (∀ (h : Heap) (x0 x1 x2 x3 x4 x5 : AVal) (x6 x7 : Int), ON (s30l1 Ψ 0 x0 x1 x2 x3 x4 x5 x6 x7 h)) ∧ ∀ n1 : Nat, (∀ (h : Heap) (x0 x1 x2 x3 x4 x5 : AVal) (x6 x7 : Int), OI (s30l1 Ψ (n1 + 1) x0 x1 x2 x3 x4 x5 x6 x7 h)) ∧ (True ∧ (True ∧ True) ∧ (True ∧ True ∧ (True ∧ (∀ (h : Heap) (x0 x1 x2 x3 x4 : AVal) (x5 : Int) (x6 x7 : AVal) (x8 x9 : Int) (x10 : AVal) (x11 x12 : Int), ON (s30l2 Ψ (s30l1_G (s30l1 Ψ n1)) 0 x0 x1 x2 x3 x4 x5 x6 x7 x8 x9 x10 x11 x12 h)) ∧ ∀ n2 : Nat, (∀ (h : Heap) (x0 x1 x2 x3 x4 : AVal) (x5 : Int) (x6 x7 : AVal) (x8 x9 : Int) (x10 : AVal) (x11 x12 : Int), OI (s30l2 Ψ (s30l1_G (s30l1 Ψ n1)) (n2 + 1) x0 x1 x2 x3 x4 x5 x6 x7 x8 x9 x10 x11 x12 h)) ∧ (True ∧ (True ∧ True) ∧ (True ∧ True ∧ (True) ∧ (∀ (h : Heap) (x0 x1 x2 x3 x4 : AVal) (x5 : Int) (x6 : AVal) (x7 : Int) (x8 : AVal) (x9 x10 : Int) (x11 : AVal) (x12 x13 : Int) (x14 : Bool), OI (s30c4 Ψ (s30l1_G (s30l1 Ψ n1)) (s30l2_G (s30l2 Ψ (s30l1_G (s30l1 Ψ n1)) n2)) x0 x1 x2 x3 x4 x5 x6 x7 x8 x9 x10 x11 x12 x13 x14 h)) ∧ (True ∧ True)) ∧ (∀ (h : Heap) (x0 x1 x2 x3 x4 : AVal) (x5 : Int) (x6 x7 : AVal) (x8 x9 : Int) (x10 : AVal) (x11 x12 : Int), OI (s30c3 Ψ (s30l1_G (s30l1 Ψ n1)) (s30l2_G (s30l2 Ψ (s30l1_G (s30l1 Ψ n1)) n2)) x0 x1 x2 x3 x4 x5 x6 x7 x8 x9 x10 x11 x12 h)) ∧ (True))) ∧ True ∧ True) ∧ True)) ∧ True ∧ True)) ⟨trivial, ⟨trivial, ⟨⟨trivial, ⟨fun _ _ _ _ _ _ _ _ _ H => H, fun _ => ⟨fun _ _ _ _ _ _ _ _ _ H => H, ⟨trivial, ⟨⟨trivial, trivial⟩, ⟨⟨trivial, ⟨trivial, ⟨⟨trivial, ⟨fun _ _ _ _ _ _ _ _ _ _ _ _ _ _ H => H, fun _ => ⟨fun _ _ _ _ _ _ _ _ _ _ _ _ _ _ H => H, ⟨trivial, ⟨⟨trivial, trivial⟩, ⟨⟨trivial, ⟨trivial, ⟨trivial, fun _ _ _ _ _ _ _ _ _ _ _ _ _ _ _ _ H => H, ⟨trivial, trivial⟩⟩⟩⟩, fun _ _ _ _ _ _ _ _ _ _ _ _ _ _ H => H, trivial⟩⟩⟩⟩⟩⟩, ⟨trivial, trivial⟩⟩⟩⟩, trivial⟩⟩⟩⟩⟩⟩, ⟨trivial, trivial⟩⟩⟩⟩)
    (Eq.mpr (by as_aux_lemma => kernel_rfl : evF prog f30 (s30_A Ψ) Ψ [(.agg [m_Up, m_Val]), o, l_] h = s30 Ψ m_Up m_Val o l_ h) H)

/- 32 dictum/dictumref17.Above -/
abbrev s32l1_T := Int → AVal → AVal → Int → Heap → Prop
def s32l1_R (F : s32l1_T) (l : List AVal) (h : Heap) : Prop := J.cons l fun v l => J.int .i64 v fun x0 => J.cons l fun x1 l => J.cons l fun x2 l => J.cons l fun v l => J.int .i64 v fun x3 => J.nil l (F x0 x1 x2 x3 h)
def s32l1_G (F : s32l1_T) (x0 : Int) (x1 x2 : AVal) (x3 : Int) (h : Heap) : Prop := gJ [.int .i64, .any, .any, .int .i64] [(.int .i64 x0), x1, x2, (.int .i64 x3)] h (s32l1_R F)
def s32l1_E (F : Nat → s32l1_T) (x0 : Int) (x1 x2 : AVal) (x3 : Int) (h : Heap) : Prop := gJ [.int .i64, .any, .any, .int .i64] [(.int .i64 x0), x1, x2, (.int .i64 x3)] h (fun l h => ∃ n, s32l1_R (F n) l h)
theorem s32l1_go {F : s32l1_T} {x0 : Int} {x1 x2 : AVal} {x3 : Int} {h : Heap} (H : F x0 x1 x2 x3 h) : s32l1_G F x0 x1 x2 x3 h := gJ_plain rfl H
theorem s32l1_in {F : Nat → s32l1_T} {x0 : Int} {x1 x2 : AVal} {x3 : Int} {h : Heap} (n : Nat) (H : F n x0 x1 x2 x3 h) : s32l1_E F x0 x1 x2 x3 h := gJ_plain rfl ⟨n, H⟩

def s32c2 (Ψ : AVal → Heap → Prop) (L1 : s32l1_T) (w2 : Int) (o1 out1 : AVal) (b1 : Int) (h : Heap) : Prop :=
  rg (b1 + 1) (
    L1 w2 o1 out1 (b1 + 1) h)

def s32l1 (Ψ : AVal → Heap → Prop) : Nat → s32l1_T
  | 0, _, _, _, _, _ => False
  | n + 1, w1, o, out, b, h =>
    lenN o fun n1 =>
    ifT (decide (b < n1)) (
      ixS 1 o w1 fun p =>
      ld1 h p fun v4 =>
      ixS 1 v4 b fun p1 =>
      ld1 h p1 fun v5 =>
      tBool v5 fun v6 =>
      ifT v6 (
        appC 1 8 h out (.lsl 1 [(.int .i64 b)]) fun v7 h_1 =>
        s32c2 Ψ (s32l1_G (s32l1 Ψ n)) w1 o v7 b h_1) (
        s32c2 Ψ (s32l1_G (s32l1 Ψ n)) w1 o out b h)) (
      retG (.tuple [out, (.int .i64 0)]) h Ψ)

def s32 (Ψ : AVal → Heap → Prop) (m_Up : AVal) (m_Val : AVal) (w : Int) (h : Heap) : Prop :=
  callG prog 62 [(.agg [m_Up, m_Val]), (.int .i64 w)] h fun v h_ =>
  tTup v fun l_ =>
  tCons l_ fun v1 l_1 =>
  tCons l_1 fun v2 l_2 =>
  tInt .i64 v2 fun v3 =>
  tNil l_2 (
    ifT (v3 != 0) (
      retG (.tuple [.nilsl, (.int .i64 v3)]) h_ Ψ) (
      s32l1_E (s32l1 Ψ) w v1 .nilsl 0 h_))

def s32_A (Ψ : AVal → Heap → Prop) : Ann :=
  .seq (.reg [⟨none, [(0, true), (1, false), (2, false)]⟩])
  (.seq (rA 8)
  (.seq (.seq (rA 2)
  (.cond (.seq (rA 3)
  (.leaf))
  (.leaf)))
  (.seq (rA 1)
  (.seq (.seq (rA 1)
  (.block (.loop [(1, .int .i64), (6, .any), (8, .any), (9, .int .i64)] (fun n l h => s32l1_R (s32l1 Ψ n) l h) (fun L1 =>
  .seq (.seq (rA 4)
  (.cond (.leaf)
  (.leaf)))
  (.cut [(1, .int .i64), (6, .any), (8, .any), (9, .int .i64)] (fun l h => J.cons l fun v l => J.int .i64 v fun x0 => J.cons l fun x1 l => J.cons l fun x2 l => J.cons l fun v l => J.int .i64 v fun x3 => J.nil l (s32c2 Ψ (fun y0 y1 y2 y3 h => L1 [(.int .i64 y0), y1, y2, (.int .i64 y3)] h) x0 x1 x2 x3 h)) (.block (.seq (rA 7)
  (.cond (.reg [⟨none, [(0, false), (1, false), (2, true), (3, false), (4, false)]⟩])
  (.leaf))))
  (rA 3))))))
  (.seq (rA 3)
  (.leaf))))))

theorem s32_ok {Ψ : AVal → Heap → Prop} {m_Up : AVal} {m_Val : AVal} {w : Int} {h : Heap} (H : s32 Ψ m_Up m_Val w h) : ACalls prog 32 [(.agg [m_Up, m_Val]), (.int .i64 w)] h Ψ :=
  calls_of_evF func32 (by kernel_rfl) (by kernel_rfl) (by kernel_rfl)
    (Eq.mpr (by as_aux_lemma => kernel_rfl : oblF prog f32 (s32_A Ψ) Ψ = (True ∧ True ∧ (True ∧ (True ∧ True) ∧ True) ∧ True ∧ (True ∧ (∀ (h : Heap) (x0 : Int) (x1 x2 : AVal) (x3 : Int), ON (s32l1 Ψ 0 x0 x1 x2 x3 h)) ∧ ∀ n1 : Nat, (∀ (h : Heap) (x0 : Int) (x1 x2 : AVal) (x3 : Int), OI (s32l1 Ψ (n1 + 1) x0 x1 x2 x3 h)) ∧ ((True ∧ True ∧ True) ∧ (True ∧ True ∧ True) ∧ (∀ (h : Heap) (x0 : Int) (x1 x2 : AVal) (x3 : Int), OI (s32c2 Ψ (s32l1_G (s32l1 Ψ n1)) x0 x1 x2 x3 h)) ∧ (True))) ∧ True ∧ True)) ⟨trivial, ⟨trivial, ⟨⟨trivial, ⟨⟨trivial, trivial⟩, trivial⟩⟩, ⟨trivial, ⟨⟨trivial, ⟨fun _ _ _ _ _ H => H, fun _ => ⟨fun _ _ _ _ _ H => H, ⟨⟨trivial, ⟨trivial, trivial⟩⟩, ⟨⟨trivial, ⟨trivial, trivial⟩⟩, fun _ _ _ _ _ H => H, trivial⟩⟩⟩⟩⟩, ⟨trivial, trivial⟩⟩⟩⟩⟩⟩)
    (Eq.mpr (by as_aux_lemma => kernel_rfl : evF prog f32 (s32_A Ψ) Ψ [(.agg [m_Up, m_Val]), (.int .i64 w)] h = s32 Ψ m_Up m_Val w h) H)

/- 34 dictum/morph.classes -/
abbrev s34l1_T := AVal → AVal → AVal → Int → Int → Heap → Prop
def s34l1_R (F : s34l1_T) (l : List AVal) (h : Heap) : Prop := J.cons l fun x0 l => J.cons l fun x1 l => J.cons l fun x2 l => J.cons l fun v l => J.int .i64 v fun x3 => J.cons l fun v l => J.int .i64 v fun x4 => J.nil l (F x0 x1 x2 x3 x4 h)
def s34l1_G (F : s34l1_T) (x0 x1 x2 : AVal) (x3 x4 : Int) (h : Heap) : Prop := gJ [.any, .any, .any, .int .i64, .int .i64] [x0, x1, x2, (.int .i64 x3), (.int .i64 x4)] h (s34l1_R F)
def s34l1_E (F : Nat → s34l1_T) (x0 x1 x2 : AVal) (x3 x4 : Int) (h : Heap) : Prop := gJ [.any, .any, .any, .int .i64, .int .i64] [x0, x1, x2, (.int .i64 x3), (.int .i64 x4)] h (fun l h => ∃ n, s34l1_R (F n) l h)
theorem s34l1_go {F : s34l1_T} {x0 x1 x2 : AVal} {x3 x4 : Int} {h : Heap} (H : F x0 x1 x2 x3 x4 h) : s34l1_G F x0 x1 x2 x3 x4 h := gJ_plain rfl H
theorem s34l1_in {F : Nat → s34l1_T} {x0 x1 x2 : AVal} {x3 x4 : Int} {h : Heap} (n : Nat) (H : F n x0 x1 x2 x3 x4 h) : s34l1_E F x0 x1 x2 x3 x4 h := gJ_plain rfl ⟨n, H⟩

abbrev s34l2_T := AVal → AVal → Int → AVal → Int → Int → AVal → Int → Int → Heap → Prop
def s34l2_R (F : s34l2_T) (l : List AVal) (h : Heap) : Prop := J.cons l fun x0 l => J.cons l fun x1 l => J.cons l fun v l => J.int .i64 v fun x2 => J.cons l fun x3 l => J.cons l fun v l => J.int .i64 v fun x4 => J.cons l fun v l => J.int .i64 v fun x5 => J.cons l fun x6 l => J.cons l fun v l => J.int .i64 v fun x7 => J.cons l fun v l => J.int .i64 v fun x8 => J.nil l (F x0 x1 x2 x3 x4 x5 x6 x7 x8 h)
def s34l2_G (F : s34l2_T) (x0 x1 : AVal) (x2 : Int) (x3 : AVal) (x4 x5 : Int) (x6 : AVal) (x7 x8 : Int) (h : Heap) : Prop := gJ [.any, .any, .int .i64, .any, .int .i64, .int .i64, .any, .int .i64, .int .i64] [x0, x1, (.int .i64 x2), x3, (.int .i64 x4), (.int .i64 x5), x6, (.int .i64 x7), (.int .i64 x8)] h (s34l2_R F)
def s34l2_E (F : Nat → s34l2_T) (x0 x1 : AVal) (x2 : Int) (x3 : AVal) (x4 x5 : Int) (x6 : AVal) (x7 x8 : Int) (h : Heap) : Prop := gJ [.any, .any, .int .i64, .any, .int .i64, .int .i64, .any, .int .i64, .int .i64] [x0, x1, (.int .i64 x2), x3, (.int .i64 x4), (.int .i64 x5), x6, (.int .i64 x7), (.int .i64 x8)] h (fun l h => ∃ n, s34l2_R (F n) l h)
theorem s34l2_go {F : s34l2_T} {x0 x1 : AVal} {x2 : Int} {x3 : AVal} {x4 x5 : Int} {x6 : AVal} {x7 x8 : Int} {h : Heap} (H : F x0 x1 x2 x3 x4 x5 x6 x7 x8 h) : s34l2_G F x0 x1 x2 x3 x4 x5 x6 x7 x8 h := gJ_plain rfl H
theorem s34l2_in {F : Nat → s34l2_T} {x0 x1 : AVal} {x2 : Int} {x3 : AVal} {x4 x5 : Int} {x6 : AVal} {x7 x8 : Int} {h : Heap} (n : Nat) (H : F n x0 x1 x2 x3 x4 x5 x6 x7 x8 h) : s34l2_E F x0 x1 x2 x3 x4 x5 x6 x7 x8 h := gJ_plain rfl ⟨n, H⟩

def s34l2 (Ψ : AVal → Heap → Prop) (L1 : s34l1_T) : Nat → s34l2_T
  | 0, _, _, _, _, _, _, _, _, _, _ => False
  | n4 + 1, o2, keys1, w, t19_1, t20_1, t21_1, t26, t27, t28, h =>
    ifT (decide (t28 < t27)) (
      ixS 1 t26 t28 fun p1 =>
      ld1 h p1 fun v2 =>
      tStr v2 fun v3 =>
      ixS 1 keys1 w fun p2 =>
      ld1 h p2 fun v4 =>
      tStr v4 fun v5 =>
      (v3.size + (ByteArray.mk #[32]).size ≤ 9223372036854775807) ∧
      (v5.size + (v3 ++ (ByteArray.mk #[32])).size ≤ 9223372036854775807) ∧
      ixS 1 keys1 w fun p3 =>
      st true h p3 [(.str (v5 ++ (v3 ++ (ByteArray.mk #[32]))))] fun h_1 =>
      rg (t28 + 1) (
        s34l2_G (s34l2 Ψ L1 n4) o2 keys1 w t19_1 t20_1 t21_1 t26 t27 (t28 + 1) h_1)) (
      rg (t21_1 + 1) (
        L1 o2 keys1 t19_1 t20_1 (t21_1 + 1) h))

abbrev s34l3_T := AVal → AVal → AVal → Heap → Prop
def s34l3_R (F : s34l3_T) (l : List AVal) (h : Heap) : Prop := J.cons l fun x0 l => J.cons l fun x1 l => J.cons l fun x2 l => J.nil l (F x0 x1 x2 h)
def s34l3_G (F : s34l3_T) (x0 x1 x2 : AVal) (h : Heap) : Prop := gJ [.any, .any, .any] [x0, x1, x2] h (s34l3_R F)
def s34l3_E (F : Nat → s34l3_T) (x0 x1 x2 : AVal) (h : Heap) : Prop := gJ [.any, .any, .any] [x0, x1, x2] h (fun l h => ∃ n, s34l3_R (F n) l h)
theorem s34l3_go {F : s34l3_T} {x0 x1 x2 : AVal} {h : Heap} (H : F x0 x1 x2 h) : s34l3_G F x0 x1 x2 h := gJ_plain rfl H
theorem s34l3_in {F : Nat → s34l3_T} {x0 x1 x2 : AVal} {h : Heap} (n : Nat) (H : F n x0 x1 x2 h) : s34l3_E F x0 x1 x2 h := gJ_plain rfl ⟨n, H⟩

def s34l3 (Ψ : AVal → Heap → Prop) : Nat → s34l3_T
  | 0, _, _, _, _ => False
  | n7 + 1, class_, n6, parts, h =>
    callV prog parts [] h fun v10 h_7 =>
    callG prog 63 [v10] h_7 fun v11 h_8 =>
    tTup v11 fun l_3 =>
    tCons l_3 fun v12 l_4 =>
    tCons l_4 fun v13 l_5 =>
    tInt .i64 v13 fun v14 =>
    tNil l_5 (
      chk (sc v12) (
        st true h_8 class_ [v12] fun h_9 =>
        ld1 h_9 n6 fun v15 =>
        tInt .i64 v15 fun v16 =>
        ifT (v14 == v16) (
          ld1 h_9 class_ fun v17 =>
          retG v17 h_9 Ψ) (
          st true h_9 n6 [(.int .i64 v14)] fun h_10 =>
          s34l3_G (s34l3 Ψ n7) class_ n6 parts h_10)))

def s34l1 (Ψ : AVal → Heap → Prop) : Nat → s34l1_T
  | 0, _, _, _, _, _, _ => False
  | n2 + 1, o1, keys, t19, t20, t21, h =>
    ifT (decide (t21 < t20)) (
      ixS 1 t19 t21 fun p =>
      ld1 h p fun v1 =>
      lenN v1 fun n3 =>
      s34l2_E (s34l2 Ψ (s34l1_G (s34l1 Ψ n2))) o1 keys t21 t19 t20 t21 v1 n3 0 h) (
      callG prog 63 [keys] h fun v6 h_2 =>
      tTup v6 fun l_ =>
      tCons l_ fun v7 l_1 =>
      tCons l_1 fun v8 l_2 =>
      tInt .i64 v8 fun v9 =>
      tNil l_2 (
        Sym.newRow 1 [.nilsl] h_2 fun r h_3 =>
        Sym.newRow 1 [(.int .i64 0)] h_3 fun r1 h_4 =>
        chk (sc v7) (
          st true h_4 (.ptr r 0 0) [v7] fun h_5 =>
          st true h_5 (.ptr r1 0 0) [(.int .i64 v9)] fun h_6 =>
          s34l3_E (s34l3 Ψ) (.ptr r 0 0) (.ptr r1 0 0) (.func (.func 64) [] [o1, (.ptr r1 0 0), (.ptr r 0 0)]) h_6)))

def s34 (Ψ : AVal → Heap → Prop) (m_Up : AVal) (m_Val : AVal) (o : AVal) (h : Heap) : Prop :=
  chk (sc o) (
    lenN o fun n =>
    mkS false 1 16 (.str (ByteArray.mk #[])) h n n fun v h_ =>
    lenN m_Val fun n1 =>
    s34l1_E (s34l1 Ψ) (.lptr [o]) v m_Val n1 0 h_)

def s34_A (Ψ : AVal → Heap → Prop) : Ann :=
  .seq (.reg [⟨none, [(0, true), (1, true), (2, false)]⟩])
  (.seq (rA 4)
  (.seq (.seq (rA 4)
  (.block (.loop [(3, .any), (5, .any), (19, .any), (20, .int .i64), (21, .int .i64)] (fun n l h => s34l1_R (s34l1 Ψ n) l h) (fun L1 =>
  .seq (rA 1)
  (.seq (.cond (.leaf)
  (.leaf))
  (.seq (.block (.seq (rA 5)
  (.seq (rA 3)
  (.block (.loop [(3, .any), (5, .any), (6, .int .i64), (19, .any), (20, .int .i64), (21, .int .i64), (26, .any), (27, .int .i64), (28, .int .i64)] (fun n l h => s34l2_R (s34l2 Ψ (fun y0 y1 y2 y3 y4 h => L1 [y0, y1, y2, (.int .i64 y3), (.int .i64 y4)] h) n) l h) (fun L2 =>
  .seq (rA 1)
  (.seq (.cond (.leaf)
  (.leaf))
  (.seq (.block (.seq (rA 3)
  (rA 9)))
  (rA 2)))))))))
  (rA 2)))))))
  (.seq (rA 9)
  (.seq (rA 2)
  (.block (.loop [(10, .any), (11, .any), (12, .any)] (fun n l h => s34l3_R (s34l3 Ψ n) l h) (fun L3 =>
  .block (.seq (rA 8)
  (.seq (rA 2)
  (.seq (.seq (rA 3)
  (.cond (.seq (rA 2)
  (.leaf))
  (.leaf)))
  (rA 2)))))))))))

theorem s34_ok {Ψ : AVal → Heap → Prop} {m_Up : AVal} {m_Val : AVal} {o : AVal} {h : Heap} (H : s34 Ψ m_Up m_Val o h) : ACalls prog 34 [(.agg [m_Up, m_Val]), o] h Ψ :=
  calls_of_evF func34 (by kernel_rfl) (by kernel_rfl) (by kernel_rfl)
    (Eq.mpr (by as_aux_lemma => kernel_rfl : oblF prog f34 (s34_A Ψ) Ψ = (True ∧ True ∧ (True ∧ (∀ (h : Heap) (x0 x1 x2 : AVal) (x3 x4 : Int), ON (s34l1 Ψ 0 x0 x1 x2 x3 x4 h)) ∧ ∀ n1 : Nat, (∀ (h : Heap) (x0 x1 x2 : AVal) (x3 x4 : Int), OI (s34l1 Ψ (n1 + 1) x0 x1 x2 x3 x4 h)) ∧ (True ∧ (True ∧ True) ∧ (True ∧ True ∧ (∀ (h : Heap) (x0 x1 : AVal) (x2 : Int) (x3 : AVal) (x4 x5 : Int) (x6 : AVal) (x7 x8 : Int), ON (s34l2 Ψ (s34l1_G (s34l1 Ψ n1)) 0 x0 x1 x2 x3 x4 x5 x6 x7 x8 h)) ∧ ∀ n2 : Nat, (∀ (h : Heap) (x0 x1 : AVal) (x2 : Int) (x3 : AVal) (x4 x5 : Int) (x6 : AVal) (x7 x8 : Int), OI (s34l2 Ψ (s34l1_G (s34l1 Ψ n1)) (n2 + 1) x0 x1 x2 x3 x4 x5 x6 x7 x8 h)) ∧ (True ∧ (True ∧ True) ∧ (True ∧ True) ∧ True)) ∧ True)) ∧ True ∧ True ∧ (∀ (h : Heap) (x0 x1 x2 : AVal), ON (s34l3 Ψ 0 x0 x1 x2 h)) ∧ ∀ n3 : Nat, (∀ (h : Heap) (x0 x1 x2 : AVal), OI (s34l3 Ψ (n3 + 1) x0 x1 x2 h)) ∧ (True ∧ True ∧ (True ∧ (True ∧ True) ∧ True) ∧ True))) ⟨trivial, ⟨trivial, ⟨⟨trivial, ⟨fun _ _ _ _ _ _ H => H, fun _ => ⟨fun _ _ _ _ _ _ H => H, ⟨trivial, ⟨⟨trivial, trivial⟩, ⟨⟨trivial, ⟨trivial, ⟨fun _ _ _ _ _ _ _ _ _ _ H => H, fun _ => ⟨fun _ _ _ _ _ _ _ _ _ _ H => H, ⟨trivial, ⟨⟨trivial, trivial⟩, ⟨⟨trivial, trivial⟩, trivial⟩⟩⟩⟩⟩⟩⟩, trivial⟩⟩⟩⟩⟩⟩, ⟨trivial, ⟨trivial, ⟨fun _ _ _ _ H => H, fun _ => ⟨fun _ _ _ _ H => H, ⟨trivial, ⟨trivial, ⟨⟨trivial, ⟨⟨trivial, trivial⟩, trivial⟩⟩, trivial⟩⟩⟩⟩⟩⟩⟩⟩⟩⟩)
    (Eq.mpr (by as_aux_lemma => kernel_rfl : evF prog f34 (s34_A Ψ) Ψ [(.agg [m_Up, m_Val]), o] h = s34 Ψ m_Up m_Val o h) H)

/- 36 dictum/morph.tidied -/
def s36 (Ψ : AVal → Heap → Prop) (m_Up : AVal) (m_Val : AVal) (h : Heap) : Prop :=
  Sym.newRow 2 [(.agg [m_Up, m_Val])] h fun r h_ =>
  Sym.newRow 2 [(.agg [.nilsl, .nilsl])] h_ fun r1 h_1 =>
  ldN 2 h_1 (.ptr r 0 0) fun l_ =>
  tCons l_ fun v l_1 =>
  tCons l_1 fun v1 l_2 =>
  tNil l_2 (
    callG prog 39 [(.agg [v, v1])] h_1 fun v2 h_2 =>
    tTup v2 fun l_3 =>
    tCons l_3 fun v3 l_4 =>
    tCons l_4 fun v4 l_5 =>
    tInt .i64 v4 fun v5 =>
    tNil l_5 (
      tAgg v3 fun l_6 =>
      tCons l_6 fun v6 l_7 =>
      tCons l_7 fun v7 l_8 =>
      tNil l_8 (
        st false h_2 (.ptr r 0 0) [v6, v7] fun h_3 =>
        ldN 2 h_3 (.ptr r 0 0) fun l_9 =>
        tCons l_9 fun v8 l_10 =>
        tCons l_10 fun v9 l_11 =>
        tNil l_11 (
          st false h_3 (.ptr r1 0 0) [v8, v9] fun h_4 =>
          ldN 2 h_4 (.ptr r1 0 0) fun l_12 =>
          tCons l_12 fun v10 l_13 =>
          tCons l_13 fun v11 l_14 =>
          tNil l_14 (
            retG (.agg [v10, v11]) h_4 Ψ)))))

def s36_A (Ψ : AVal → Heap → Prop) : Ann :=
  .seq (rA 2)
  (.seq (rA 6)
  (.seq (rA 2)
  (.leaf)))

theorem s36_ok {Ψ : AVal → Heap → Prop} {m_Up : AVal} {m_Val : AVal} {h : Heap} (H : s36 Ψ m_Up m_Val h) : ACalls prog 36 [(.agg [m_Up, m_Val])] h Ψ :=
  calls_of_evF func36 (by kernel_rfl) (by kernel_rfl) (by kernel_rfl)
    (Eq.mpr (by as_aux_lemma => kernel_rfl : oblF prog f36 (s36_A Ψ) Ψ = (True ∧ True ∧ True ∧ True)) ⟨trivial, ⟨trivial, ⟨trivial, trivial⟩⟩⟩)
    (Eq.mpr (by as_aux_lemma => kernel_rfl : evF prog f36 (s36_A Ψ) Ψ [(.agg [m_Up, m_Val])] h = s36 Ψ m_Up m_Val h) H)

/- 38 dictum/dictumref19.Alike -/
abbrev s38l1_T := AVal → AVal → AVal → Int → Heap → Prop
def s38l1_R (F : s38l1_T) (l : List AVal) (h : Heap) : Prop := J.cons l fun x0 l => J.cons l fun x1 l => J.cons l fun x2 l => J.cons l fun v l => J.int .i64 v fun x3 => J.nil l (F x0 x1 x2 x3 h)
def s38l1_G (F : s38l1_T) (x0 x1 x2 : AVal) (x3 : Int) (h : Heap) : Prop := gJ [.any, .any, .any, .int .i64] [x0, x1, x2, (.int .i64 x3)] h (s38l1_R F)
def s38l1_E (F : Nat → s38l1_T) (x0 x1 x2 : AVal) (x3 : Int) (h : Heap) : Prop := gJ [.any, .any, .any, .int .i64] [x0, x1, x2, (.int .i64 x3)] h (fun l h => ∃ n, s38l1_R (F n) l h)
theorem s38l1_go {F : s38l1_T} {x0 x1 x2 : AVal} {x3 : Int} {h : Heap} (H : F x0 x1 x2 x3 h) : s38l1_G F x0 x1 x2 x3 h := gJ_plain rfl H
theorem s38l1_in {F : Nat → s38l1_T} {x0 x1 x2 : AVal} {x3 : Int} {h : Heap} (n : Nat) (H : F n x0 x1 x2 x3 h) : s38l1_E F x0 x1 x2 x3 h := gJ_plain rfl ⟨n, H⟩

abbrev s38l2_T := AVal → AVal → AVal → Int → Int → Heap → Prop
def s38l2_R (F : s38l2_T) (l : List AVal) (h : Heap) : Prop := J.cons l fun x0 l => J.cons l fun x1 l => J.cons l fun x2 l => J.cons l fun v l => J.int .i64 v fun x3 => J.cons l fun v l => J.int .i64 v fun x4 => J.nil l (F x0 x1 x2 x3 x4 h)
def s38l2_G (F : s38l2_T) (x0 x1 x2 : AVal) (x3 x4 : Int) (h : Heap) : Prop := gJ [.any, .any, .any, .int .i64, .int .i64] [x0, x1, x2, (.int .i64 x3), (.int .i64 x4)] h (s38l2_R F)
def s38l2_E (F : Nat → s38l2_T) (x0 x1 x2 : AVal) (x3 x4 : Int) (h : Heap) : Prop := gJ [.any, .any, .any, .int .i64, .int .i64] [x0, x1, x2, (.int .i64 x3), (.int .i64 x4)] h (fun l h => ∃ n, s38l2_R (F n) l h)
theorem s38l2_go {F : s38l2_T} {x0 x1 x2 : AVal} {x3 x4 : Int} {h : Heap} (H : F x0 x1 x2 x3 x4 h) : s38l2_G F x0 x1 x2 x3 x4 h := gJ_plain rfl H
theorem s38l2_in {F : Nat → s38l2_T} {x0 x1 x2 : AVal} {x3 x4 : Int} {h : Heap} (n : Nat) (H : F n x0 x1 x2 x3 x4 h) : s38l2_E F x0 x1 x2 x3 x4 h := gJ_plain rfl ⟨n, H⟩

def s38l2 (Ψ : AVal → Heap → Prop) (L1 : s38l1_T) : Nat → s38l2_T
  | 0, _, _, _, _, _, _ => False
  | n4 + 1, o2, m1, in_1, a1, b, h =>
    lenN o2 fun n5 =>
    ifT (decide (b < n5)) (
      ixS 1 in_1 a1 fun p1 =>
      ld1 h p1 fun v2 =>
      ixS 1 v2 b fun p2 =>
      st true h p2 [(.bool true)] fun h_3 =>
      rg (b + 1) (
        s38l2_G (s38l2 Ψ L1 n4) o2 m1 in_1 a1 (b + 1) h_3)) (
      rg (a1 + 1) (
        L1 o2 m1 in_1 (a1 + 1) h))

abbrev s38l3_T := AVal → AVal → AVal → Bool → Heap → Prop
def s38l3_R (F : s38l3_T) (l : List AVal) (h : Heap) : Prop := J.cons l fun x0 l => J.cons l fun x1 l => J.cons l fun x2 l => J.cons l fun v l => J.bool v fun x3 => J.nil l (F x0 x1 x2 x3 h)
def s38l3_G (F : s38l3_T) (x0 x1 x2 : AVal) (x3 : Bool) (h : Heap) : Prop := gJ [.any, .any, .any, .bool] [x0, x1, x2, (.bool x3)] h (s38l3_R F)
def s38l3_E (F : Nat → s38l3_T) (x0 x1 x2 : AVal) (x3 : Bool) (h : Heap) : Prop := gJ [.any, .any, .any, .bool] [x0, x1, x2, (.bool x3)] h (fun l h => ∃ n, s38l3_R (F n) l h)
theorem s38l3_go {F : s38l3_T} {x0 x1 x2 : AVal} {x3 : Bool} {h : Heap} (H : F x0 x1 x2 x3 h) : s38l3_G F x0 x1 x2 x3 h := gJ_plain rfl H
theorem s38l3_in {F : Nat → s38l3_T} {x0 x1 x2 : AVal} {x3 : Bool} {h : Heap} (n : Nat) (H : F n x0 x1 x2 x3 h) : s38l3_E F x0 x1 x2 x3 h := gJ_plain rfl ⟨n, H⟩

abbrev s38l4_T := AVal → AVal → AVal → Bool → Int → Heap → Prop
def s38l4_R (F : s38l4_T) (l : List AVal) (h : Heap) : Prop := J.cons l fun x0 l => J.cons l fun x1 l => J.cons l fun x2 l => J.cons l fun v l => J.bool v fun x3 => J.cons l fun v l => J.int .i64 v fun x4 => J.nil l (F x0 x1 x2 x3 x4 h)
def s38l4_G (F : s38l4_T) (x0 x1 x2 : AVal) (x3 : Bool) (x4 : Int) (h : Heap) : Prop := gJ [.any, .any, .any, .bool, .int .i64] [x0, x1, x2, (.bool x3), (.int .i64 x4)] h (s38l4_R F)
def s38l4_E (F : Nat → s38l4_T) (x0 x1 x2 : AVal) (x3 : Bool) (x4 : Int) (h : Heap) : Prop := gJ [.any, .any, .any, .bool, .int .i64] [x0, x1, x2, (.bool x3), (.int .i64 x4)] h (fun l h => ∃ n, s38l4_R (F n) l h)
theorem s38l4_go {F : s38l4_T} {x0 x1 x2 : AVal} {x3 : Bool} {x4 : Int} {h : Heap} (H : F x0 x1 x2 x3 x4 h) : s38l4_G F x0 x1 x2 x3 x4 h := gJ_plain rfl H
theorem s38l4_in {F : Nat → s38l4_T} {x0 x1 x2 : AVal} {x3 : Bool} {x4 : Int} {h : Heap} (n : Nat) (H : F n x0 x1 x2 x3 x4 h) : s38l4_E F x0 x1 x2 x3 x4 h := gJ_plain rfl ⟨n, H⟩

abbrev s38l5_T := AVal → AVal → AVal → Bool → Int → Int → Heap → Prop
def s38l5_R (F : s38l5_T) (l : List AVal) (h : Heap) : Prop := J.cons l fun x0 l => J.cons l fun x1 l => J.cons l fun x2 l => J.cons l fun v l => J.bool v fun x3 => J.cons l fun v l => J.int .i64 v fun x4 => J.cons l fun v l => J.int .i64 v fun x5 => J.nil l (F x0 x1 x2 x3 x4 x5 h)
def s38l5_G (F : s38l5_T) (x0 x1 x2 : AVal) (x3 : Bool) (x4 x5 : Int) (h : Heap) : Prop := gJ [.any, .any, .any, .bool, .int .i64, .int .i64] [x0, x1, x2, (.bool x3), (.int .i64 x4), (.int .i64 x5)] h (s38l5_R F)
def s38l5_E (F : Nat → s38l5_T) (x0 x1 x2 : AVal) (x3 : Bool) (x4 x5 : Int) (h : Heap) : Prop := gJ [.any, .any, .any, .bool, .int .i64, .int .i64] [x0, x1, x2, (.bool x3), (.int .i64 x4), (.int .i64 x5)] h (fun l h => ∃ n, s38l5_R (F n) l h)
theorem s38l5_go {F : s38l5_T} {x0 x1 x2 : AVal} {x3 : Bool} {x4 x5 : Int} {h : Heap} (H : F x0 x1 x2 x3 x4 x5 h) : s38l5_G F x0 x1 x2 x3 x4 x5 h := gJ_plain rfl H
theorem s38l5_in {F : Nat → s38l5_T} {x0 x1 x2 : AVal} {x3 : Bool} {x4 x5 : Int} {h : Heap} (n : Nat) (H : F n x0 x1 x2 x3 x4 x5 h) : s38l5_E F x0 x1 x2 x3 x4 x5 h := gJ_plain rfl ⟨n, H⟩

def s38c6 (Ψ : AVal → Heap → Prop) (L3 : s38l3_T) (L4 : s38l4_T) (L5 : s38l5_T) (o6 m5 in_5 : AVal) (again3 : Bool) (a4 b2 : Int) (h : Heap) : Prop :=
  rg (b2 + 1) (
    L5 o6 m5 in_5 again3 a4 (b2 + 1) h)

def s38c7 (Ψ : AVal → Heap → Prop) (L3 : s38l3_T) (L4 : s38l4_T) (L5 : s38l5_T) (o7 m6 in_6 : AVal) (again4 : Bool) (a5 b3 : Int) (t75 : Bool) (h : Heap) : Prop :=
  ifT t75 (
    ixS 1 in_6 a5 fun p3 =>
    ld1 h p3 fun v3 =>
    ixS 1 v3 b3 fun p4 =>
    st true h p4 [(.bool false)] fun h_4 =>
    ixS 1 in_6 b3 fun p5 =>
    ld1 h_4 p5 fun v4 =>
    ixS 1 v4 a5 fun p6 =>
    st true h_4 p6 [(.bool false)] fun h_5 =>
    s38c6 Ψ L3 L4 L5 o7 m6 in_6 true a5 b3 h_5) (
    s38c6 Ψ L3 L4 L5 o7 m6 in_6 again4 a5 b3 h)

def s38l5 (Ψ : AVal → Heap → Prop) (L3 : s38l3_T) (L4 : s38l4_T) : Nat → s38l5_T
  | 0, _, _, _, _, _, _, _ => False
  | n10 + 1, o5, m4, in_4, again2, a3, b1, h =>
    lenN o5 fun n11 =>
    ifT (decide (b1 < n11)) (
      ixS 1 in_4 a3 fun p7 =>
      ld1 h p7 fun v5 =>
      ixS 1 v5 b1 fun p8 =>
      ld1 h p8 fun v6 =>
      tBool v6 fun v7 =>
      ifT v7 (
        ldN 2 h m4 fun l_ =>
        tCons l_ fun v8 l_1 =>
        tCons l_1 fun v9 l_2 =>
        tNil l_2 (
          callG prog 66 [(.agg [v8, v9]), o5, in_4, (.int .i64 a3), (.int .i64 b1)] h fun v10 h_6 =>
          tBool v10 fun v11 =>
          ifT (!v11) (
            s38c7 Ψ L3 L4 (s38l5_G (s38l5 Ψ L3 L4 n10)) o5 m4 in_4 again2 a3 b1 true h_6) (
            ldN 2 h_6 m4 fun l_3 =>
            tCons l_3 fun v12 l_4 =>
            tCons l_4 fun v13 l_5 =>
            tNil l_5 (
              callG prog 66 [(.agg [v12, v13]), o5, in_4, (.int .i64 b1), (.int .i64 a3)] h_6 fun v14 h_7 =>
              tBool v14 fun v15 =>
              s38c7 Ψ L3 L4 (s38l5_G (s38l5 Ψ L3 L4 n10)) o5 m4 in_4 again2 a3 b1 (!v15) h_7)))) (
        s38c7 Ψ L3 L4 (s38l5_G (s38l5 Ψ L3 L4 n10)) o5 m4 in_4 again2 a3 b1 false h)) (
      rg (a3 + 1) (
        L4 o5 m4 in_4 again2 (a3 + 1) h))

def s38l4 (Ψ : AVal → Heap → Prop) (L3 : s38l3_T) : Nat → s38l4_T
  | 0, _, _, _, _, _, _ => False
  | n8 + 1, o4, m3, in_3, again1, a2, h =>
    lenN o4 fun n9 =>
    ifT (decide (a2 < n9)) (
      s38l5_E (s38l5 Ψ L3 (s38l4_G (s38l4 Ψ L3 n8))) o4 m3 in_3 again1 a2 0 h) (
      L3 o4 m3 in_3 again1 h)

def s38l3 (Ψ : AVal → Heap → Prop) : Nat → s38l3_T
  | 0, _, _, _, _, _ => False
  | n7 + 1, o3, m2, in_2, again, h =>
    ifT again (
      s38l4_E (s38l4 Ψ (s38l3_G (s38l3 Ψ n7))) o3 m2 in_2 false 0 h) (
      retG in_2 h Ψ)

def s38l1 (Ψ : AVal → Heap → Prop) : Nat → s38l1_T
  | 0, _, _, _, _, _ => False
  | n1 + 1, o1, m, in_, a, h =>
    lenN o1 fun n2 =>
    ifT (decide (a < n2)) (
      lenN o1 fun n3 =>
      mkS false 1 1 (.bool false) h n3 n3 fun v1 h_1 =>
      ixS 1 in_ a fun p =>
      chk (sc v1) (
        st true h_1 p [v1] fun h_2 =>
        s38l2_E (s38l2 Ψ (s38l1_G (s38l1 Ψ n1))) o1 m in_ a 0 h_2)) (
      s38l3_E (s38l3 Ψ) o1 m in_ true h)

def s38 (Ψ : AVal → Heap → Prop) (m_Up : AVal) (m_Val : AVal) (o : AVal) (h : Heap) : Prop :=
  lenN o fun n =>
  mkS false 1 24 .nilsl h n n fun v h_ =>
  s38l1_E (s38l1 Ψ) o (.lptr [m_Up, m_Val]) v 0 h_

def s38_A (Ψ : AVal → Heap → Prop) : Ann :=
  .seq (.reg [⟨none, [(0, true), (1, false)]⟩])
  (.seq (rA 4)
  (.seq (.seq (rA 1)
  (.block (.loop [(1, .any), (2, .any), (5, .any), (6, .int .i64)] (fun n l h => s38l1_R (s38l1 Ψ n) l h) (fun L1 =>
  .seq (.seq (rA 4)
  (.cond (.leaf)
  (.leaf)))
  (.seq (.block (.seq (rA 7)
  (.seq (rA 1)
  (.block (.loop [(1, .any), (2, .any), (5, .any), (6, .int .i64), (7, .int .i64)] (fun n l h => s38l2_R (s38l2 Ψ (fun y0 y1 y2 y3 h => L1 [y0, y1, y2, (.int .i64 y3)] h) n) l h) (fun L2 =>
  .seq (.seq (rA 4)
  (.cond (.leaf)
  (.leaf)))
  (.seq (.block (rA 7))
  (rA 3))))))))
  (rA 3))))))
  (.seq (rA 1)
  (.seq (.block (.loop [(1, .any), (2, .any), (5, .any), (8, .bool)] (fun n l h => s38l3_R (s38l3 Ψ n) l h) (fun L3 =>
  .seq (.seq (rA 1)
  (.cond (.leaf)
  (.leaf)))
  (.block (.seq (rA 1)
  (.seq (rA 1)
  (.block (.loop [(1, .any), (2, .any), (5, .any), (8, .bool), (9, .int .i64)] (fun n l h => s38l4_R (s38l4 Ψ (fun y0 y1 y2 y3 h => L3 [y0, y1, y2, (.bool y3)] h) n) l h) (fun L4 =>
  .seq (.seq (rA 4)
  (.cond (.leaf)
  (.leaf)))
  (.seq (.block (.seq (rA 1)
  (.block (.loop [(1, .any), (2, .any), (5, .any), (8, .bool), (9, .int .i64), (10, .int .i64)] (fun n l h => s38l5_R (s38l5 Ψ (fun y0 y1 y2 y3 h => L3 [y0, y1, y2, (.bool y3)] h) (fun y0 y1 y2 y3 y4 h => L4 [y0, y1, y2, (.bool y3), (.int .i64 y4)] h) n) l h) (fun L5 =>
  .seq (.seq (rA 4)
  (.cond (.leaf)
  (.leaf)))
  (.cut [(1, .any), (2, .any), (5, .any), (8, .bool), (9, .int .i64), (10, .int .i64)] (fun l h => J.cons l fun x0 l => J.cons l fun x1 l => J.cons l fun x2 l => J.cons l fun v l => J.bool v fun x3 => J.cons l fun v l => J.int .i64 v fun x4 => J.cons l fun v l => J.int .i64 v fun x5 => J.nil l (s38c6 Ψ (fun y0 y1 y2 y3 h => L3 [y0, y1, y2, (.bool y3)] h) (fun y0 y1 y2 y3 y4 h => L4 [y0, y1, y2, (.bool y3), (.int .i64 y4)] h) (fun y0 y1 y2 y3 y4 y5 h => L5 [y0, y1, y2, (.bool y3), (.int .i64 y4), (.int .i64 y5)] h) x0 x1 x2 x3 x4 x5 h)) (.block (.cut [(1, .any), (2, .any), (5, .any), (8, .bool), (9, .int .i64), (10, .int .i64), (75, .bool)] (fun l h => J.cons l fun x0 l => J.cons l fun x1 l => J.cons l fun x2 l => J.cons l fun v l => J.bool v fun x3 => J.cons l fun v l => J.int .i64 v fun x4 => J.cons l fun v l => J.int .i64 v fun x5 => J.cons l fun v l => J.bool v fun x6 => J.nil l (s38c7 Ψ (fun y0 y1 y2 y3 h => L3 [y0, y1, y2, (.bool y3)] h) (fun y0 y1 y2 y3 y4 h => L4 [y0, y1, y2, (.bool y3), (.int .i64 y4)] h) (fun y0 y1 y2 y3 y4 y5 h => L5 [y0, y1, y2, (.bool y3), (.int .i64 y4), (.int .i64 y5)] h) x0 x1 x2 x3 x4 x5 x6 h)) (.reg [⟨none, [(0, false), (1, false), (2, false), (3, false), (4, false), (5, false), (6, false), (7, false)]⟩, ⟨some (58, true), [(8, false), (9, false), (10, false), (11, false), (12, false), (13, false), (14, false), (15, false)]⟩, ⟨some (66, false), [(16, false), (17, false), (18, false), (19, false), (20, false), (21, false), (22, false)]⟩, ⟨some (58, true), [(23, false)]⟩, ⟨none, [(24, false)]⟩])
  (.cond (.seq (rA 7)
  (.seq (rA 7)
  (rA 1)))
  (.leaf))))
  (rA 3)))))))
  (rA 3)))))))))))
  (.seq (rA 2)
  (.leaf))))))

theorem s38_ok {Ψ : AVal → Heap → Prop} {m_Up : AVal} {m_Val : AVal} {o : AVal} {h : Heap} (H : s38 Ψ m_Up m_Val o h) : ACalls prog 38 [(.agg [m_Up, m_Val]), o] h Ψ :=
  calls_of_evF func38 (by kernel_rfl) (by kernel_rfl) (by kernel_rfl)
    (Eq.mpr (by as_aux_lemma => kernel_rfl : oblF prog f38 (s38_A Ψ) Ψ = (True ∧ True ∧ (True ∧ (∀ (h : Heap) (x0 x1 x2 : AVal) (x3 : Int), ON (s38l1 Ψ 0 x0 x1 x2 x3 h)) ∧ ∀ n1 : Nat, (∀ (h : Heap) (x0 x1 x2 : AVal) (x3 : Int), OI (s38l1 Ψ (n1 + 1) x0 x1 x2 x3 h)) ∧ ((True ∧ True ∧ True) ∧ (True ∧ True ∧ (∀ (h : Heap) (x0 x1 x2 : AVal) (x3 x4 : Int), ON (s38l2 Ψ (s38l1_G (s38l1 Ψ n1)) 0 x0 x1 x2 x3 x4 h)) ∧ ∀ n2 : Nat, (∀ (h : Heap) (x0 x1 x2 : AVal) (x3 x4 : Int), OI (s38l2 Ψ (s38l1_G (s38l1 Ψ n1)) (n2 + 1) x0 x1 x2 x3 x4 h)) ∧ ((True ∧ True ∧ True) ∧ True ∧ True)) ∧ True)) ∧ True ∧ ((∀ (h : Heap) (x0 x1 x2 : AVal) (x3 : Bool), ON (s38l3 Ψ 0 x0 x1 x2 x3 h)) ∧ ∀ n3 : Nat, (∀ (h : Heap) (x0 x1 x2 : AVal) (x3 : Bool), OI (s38l3 Ψ (n3 + 1) x0 x1 x2 x3 h)) ∧ ((True ∧ True ∧ True) ∧ True ∧ True ∧ (∀ (h : Heap) (x0 x1 x2 : AVal) (x3 : Bool) (x4 : Int), ON (s38l4 Ψ (s38l3_G (s38l3 Ψ n3)) 0 x0 x1 x2 x3 x4 h)) ∧ ∀ n4 : Nat, (∀ (h : Heap) (x0 x1 x2 : AVal) (x3 : Bool) (x4 : Int), OI (s38l4 Ψ (s38l3_G (s38l3 Ψ n3)) (n4 + 1) x0 x1 x2 x3 x4 h)) ∧ ((True ∧ True ∧ True) ∧ (True ∧ (∀ (h : Heap) (x0 x1 x2 : AVal) (x3 : Bool) (x4 x5 : Int), ON (s38l5 Ψ (s38l3_G (s38l3 Ψ n3)) (s38l4_G (s38l4 Ψ (s38l3_G (s38l3 Ψ n3)) n4)) 0 x0 x1 x2 x3 x4 x5 h)) ∧ ∀ n5 : Nat, (∀ (h : Heap) (x0 x1 x2 : AVal) (x3 : Bool) (x4 x5 : Int), OI (s38l5 Ψ (s38l3_G (s38l3 Ψ n3)) (s38l4_G (s38l4 Ψ (s38l3_G (s38l3 Ψ n3)) n4)) (n5 + 1) x0 x1 x2 x3 x4 x5 h)) ∧ ((True ∧ True ∧ True) ∧ ((True) ∧ (∀ (h : Heap) (x0 x1 x2 : AVal) (x3 : Bool) (x4 x5 : Int) (x6 : Bool), OI (s38c7 Ψ (s38l3_G (s38l3 Ψ n3)) (s38l4_G (s38l4 Ψ (s38l3_G (s38l3 Ψ n3)) n4)) (s38l5_G (s38l5 Ψ (s38l3_G (s38l3 Ψ n3)) (s38l4_G (s38l4 Ψ (s38l3_G (s38l3 Ψ n3)) n4)) n5)) x0 x1 x2 x3 x4 x5 x6 h)) ∧ ((True ∧ True ∧ True) ∧ True)) ∧ (∀ (h : Heap) (x0 x1 x2 : AVal) (x3 : Bool) (x4 x5 : Int), OI (s38c6 Ψ (s38l3_G (s38l3 Ψ n3)) (s38l4_G (s38l4 Ψ (s38l3_G (s38l3 Ψ n3)) n4)) (s38l5_G (s38l5 Ψ (s38l3_G (s38l3 Ψ n3)) (s38l4_G (s38l4 Ψ (s38l3_G (s38l3 Ψ n3)) n4)) n5)) x0 x1 x2 x3 x4 x5 h)) ∧ (True))) ∧ True))) ∧ True ∧ True)) ⟨trivial, ⟨trivial, ⟨⟨trivial, ⟨fun _ _ _ _ _ H => H, fun _ => ⟨fun _ _ _ _ _ H => H, ⟨⟨trivial, ⟨trivial, trivial⟩⟩, ⟨⟨trivial, ⟨trivial, ⟨fun _ _ _ _ _ _ H => H, fun _ => ⟨fun _ _ _ _ _ _ H => H, ⟨⟨trivial, ⟨trivial, trivial⟩⟩, ⟨trivial, trivial⟩⟩⟩⟩⟩⟩, trivial⟩⟩⟩⟩⟩, ⟨trivial, ⟨⟨fun _ _ _ _ _ H => H, fun _ => ⟨fun _ _ _ _ _ H => H, ⟨⟨trivial, ⟨trivial, trivial⟩⟩, ⟨trivial, ⟨trivial, ⟨fun _ _ _ _ _ _ H => H, fun _ => ⟨fun _ _ _ _ _ _ H => H, ⟨⟨trivial, ⟨trivial, trivial⟩⟩, ⟨⟨trivial, ⟨fun _ _ _ _ _ _ _ H => H, fun _ => ⟨fun _ _ _ _ _ _ _ H => H, ⟨⟨trivial, ⟨trivial, trivial⟩⟩, ⟨⟨trivial, fun _ _ _ _ _ _ _ _ H => H, ⟨⟨trivial, ⟨trivial, trivial⟩⟩, trivial⟩⟩, fun _ _ _ _ _ _ _ H => H, trivial⟩⟩⟩⟩⟩, trivial⟩⟩⟩⟩⟩⟩⟩⟩⟩, ⟨trivial, trivial⟩⟩⟩⟩⟩⟩)
    (Eq.mpr (by as_aux_lemma => kernel_rfl : evF prog f38 (s38_A Ψ) Ψ [(.agg [m_Up, m_Val]), o] h = s38 Ψ m_Up m_Val o h) H)

/- 41 dictum/worlds.Check -/
def s41 (Ψ : AVal → Heap → Prop) (m_Up : AVal) (m_Val : AVal) (h : Heap) : Prop :=
  callG prog 67 [(.agg [m_Up, m_Val]), .nilsl] h fun v h_ =>
  tTup v fun l_ =>
  tCons l_ fun v1 l_1 =>
  tCons l_1 fun v2 l_2 =>
  tInt .i64 v2 fun v3 =>
  tNil l_2 (
    retG (.int .i64 v3) h_ Ψ)

def s41_A (Ψ : AVal → Heap → Prop) : Ann :=
  .seq (.reg [⟨none, [(0, true), (1, false)]⟩])
  (.seq (rA 7)
  (.seq (rA 2)
  (.leaf)))

theorem s41_ok {Ψ : AVal → Heap → Prop} {m_Up : AVal} {m_Val : AVal} {h : Heap} (H : s41 Ψ m_Up m_Val h) : ACalls prog 41 [(.agg [m_Up, m_Val])] h Ψ :=
  calls_of_evF func41 (by kernel_rfl) (by kernel_rfl) (by kernel_rfl)
    (Eq.mpr (by as_aux_lemma => kernel_rfl : oblF prog f41 (s41_A Ψ) Ψ = (True ∧ True ∧ True ∧ True)) ⟨trivial, ⟨trivial, ⟨trivial, trivial⟩⟩⟩)
    (Eq.mpr (by as_aux_lemma => kernel_rfl : evF prog f41 (s41_A Ψ) Ψ [(.agg [m_Up, m_Val])] h = s41 Ψ m_Up m_Val h) H)

/- 43 dictum/worlds.Root -/
abbrev s43l1_T := AVal → AVal → Int → Int → Heap → Prop
def s43l1_R (F : s43l1_T) (l : List AVal) (h : Heap) : Prop := J.cons l fun x0 l => J.cons l fun x1 l => J.cons l fun v l => J.int .i64 v fun x2 => J.cons l fun v l => J.int .i64 v fun x3 => J.nil l (F x0 x1 x2 x3 h)
def s43l1_G (F : s43l1_T) (x0 x1 : AVal) (x2 x3 : Int) (h : Heap) : Prop := gJ [.any, .any, .int .i64, .int .i64] [x0, x1, (.int .i64 x2), (.int .i64 x3)] h (s43l1_R F)
def s43l1_E (F : Nat → s43l1_T) (x0 x1 : AVal) (x2 x3 : Int) (h : Heap) : Prop := gJ [.any, .any, .int .i64, .int .i64] [x0, x1, (.int .i64 x2), (.int .i64 x3)] h (fun l h => ∃ n, s43l1_R (F n) l h)
theorem s43l1_go {F : s43l1_T} {x0 x1 : AVal} {x2 x3 : Int} {h : Heap} (H : F x0 x1 x2 x3 h) : s43l1_G F x0 x1 x2 x3 h := gJ_plain rfl H
theorem s43l1_in {F : Nat → s43l1_T} {x0 x1 : AVal} {x2 x3 : Int} {h : Heap} (n : Nat) (H : F n x0 x1 x2 x3 h) : s43l1_E F x0 x1 x2 x3 h := gJ_plain rfl ⟨n, H⟩

def s43l1 (Ψ : AVal → Heap → Prop) : Nat → s43l1_T
  | 0, _, _, _, _, _ => False
  | n1 + 1, m, leq, t16, t17, h =>
    ifT (decide (t17 < t16)) (
      Sym.newRow 1 [(.int .i64 0)] h fun r1 h_3 =>
      st true h_3 (.ptr r1 0 0) [(.int .i64 t17)] fun h_4 =>
      ldN 2 h_4 m fun l_3 =>
      tCons l_3 fun v4 l_4 =>
      tCons l_4 fun v5 l_5 =>
      tNil l_5 (
        addOff m 0 fun p =>
        ld1 h_4 p fun v6 =>
        lenN v6 fun n2 =>
        callG prog 68 [(.agg [v4, v5]), (.func (.func 73) [] [leq, (.ptr r1 0 0)])] h_4 fun v7 h_5 =>
        (ld1 h_5 p fun v8 =>
        v8 = v6) ∧
        lenN v7 fun n3 =>
        ifT (n3 == n2) (
          ld1 h_5 (.ptr r1 0 0) fun v9 =>
          tInt .i64 v9 fun v10 =>
          retG (.tuple [(.int .i64 v10), (.bool true)]) h_5 Ψ) (
          rg (t17 + 1) (
            s43l1_G (s43l1 Ψ n1) m leq t16 (t17 + 1) h_5)))) (
      retG (.tuple [(.int .i64 0), (.bool false)]) h Ψ)

def s43 (Ψ : AVal → Heap → Prop) (m_Up : AVal) (m_Val : AVal) (h : Heap) : Prop :=
  callG prog 67 [(.agg [m_Up, m_Val]), .nilsl] h fun v h_ =>
  tTup v fun l_ =>
  tCons l_ fun v1 l_1 =>
  tCons l_1 fun v2 l_2 =>
  tInt .i64 v2 fun v3 =>
  tNil l_2 (
    Sym.newRow 1 [.nilfunc] h_ fun r h_1 =>
    chk (sc v1) (
      st true h_1 (.ptr r 0 0) [v1] fun h_2 =>
      ifT (v3 != 0) (
        retG (.tuple [(.int .i64 0), (.bool false)]) h_2 Ψ) (
        lenN m_Up fun n =>
        s43l1_E (s43l1 Ψ) (.lptr [m_Up, m_Val]) (.ptr r 0 0) n 0 h_2)))

def s43_A (Ψ : AVal → Heap → Prop) : Ann :=
  .seq (.reg [⟨none, [(0, true), (1, false), (2, false)]⟩])
  (.seq (rA 8)
  (.seq (.seq (rA 2)
  (.cond (.seq (rA 2)
  (.leaf))
  (.leaf)))
  (.seq (.seq (rA 4)
  (.block (.loop [(1, .any), (4, .any), (16, .int .i64), (17, .int .i64)] (fun n l h => s43l1_R (s43l1 Ψ n) l h) (fun L1 =>
  .seq (rA 1)
  (.seq (.cond (.leaf)
  (.leaf))
  (.seq (.block (.seq (rA 3)
  (.seq (.draw [(0, false), (1, false), (4, false), (5, false), (6, false), (2, false), (3, false), (7, false)] [0, 0, 3, 7, 0, 16, 48, 127])
  (.cond (.seq (rA 3)
  (.leaf))
  (.leaf)))))
  (rA 2)))))))
  (.seq (rA 2)
  (.leaf)))))

theorem s43_ok {Ψ : AVal → Heap → Prop} {m_Up : AVal} {m_Val : AVal} {h : Heap} (H : s43 Ψ m_Up m_Val h) : ACalls prog 43 [(.agg [m_Up, m_Val])] h Ψ :=
  calls_of_evF func43 (by kernel_rfl) (by kernel_rfl) (by kernel_rfl)
    (Eq.mpr (by as_aux_lemma => kernel_rfl : oblF prog f43 (s43_A Ψ) Ψ = (True ∧ True ∧ (True ∧ (True ∧ True) ∧ True) ∧ (True ∧ (∀ (h : Heap) (x0 x1 : AVal) (x2 x3 : Int), ON (s43l1 Ψ 0 x0 x1 x2 x3 h)) ∧ ∀ n1 : Nat, (∀ (h : Heap) (x0 x1 : AVal) (x2 x3 : Int), OI (s43l1 Ψ (n1 + 1) x0 x1 x2 x3 h)) ∧ (True ∧ (True ∧ True) ∧ (True ∧ True ∧ (True ∧ True) ∧ True) ∧ True)) ∧ True ∧ True)) ⟨trivial, ⟨trivial, ⟨⟨trivial, ⟨⟨trivial, trivial⟩, trivial⟩⟩, ⟨⟨trivial, ⟨fun _ _ _ _ _ H => H, fun _ => ⟨fun _ _ _ _ _ H => H, ⟨trivial, ⟨⟨trivial, trivial⟩, ⟨⟨trivial, ⟨trivial, ⟨⟨trivial, trivial⟩, trivial⟩⟩⟩, trivial⟩⟩⟩⟩⟩⟩, ⟨trivial, trivial⟩⟩⟩⟩⟩)
    (Eq.mpr (by as_aux_lemma => kernel_rfl : evF prog f43 (s43_A Ψ) Ψ [(.agg [m_Up, m_Val])] h = s43 Ψ m_Up m_Val h) H)

/- 46 slices.Contains[[]string,string] -/
def s46 (Ψ : AVal → Heap → Prop) (s : AVal) (v : ByteArray) (h : Heap) : Prop :=
  callG prog 75 [s, (.str v)] h fun v1 h_ =>
  tInt .i64 v1 fun v2 =>
  retG (.bool (decide (0 ≤ v2))) h_ Ψ

def s46_A (Ψ : AVal → Heap → Prop) : Ann :=
  .seq (rA 1)
  (.seq (rA 5)
  (.leaf))

theorem s46_ok {Ψ : AVal → Heap → Prop} {s : AVal} {v : ByteArray} {h : Heap} (H : s46 Ψ s v h) : ACalls prog 46 [s, (.str v)] h Ψ :=
  calls_of_evF func46 (by kernel_rfl) (by kernel_rfl) (by kernel_rfl)
    (Eq.mpr (by as_aux_lemma => kernel_rfl : oblF prog f46 (s46_A Ψ) Ψ = (True ∧ True ∧ True)) ⟨trivial, ⟨trivial, trivial⟩⟩)
    (Eq.mpr (by as_aux_lemma => kernel_rfl : evF prog f46 (s46_A Ψ) Ψ [s, (.str v)] h = s46 Ψ s v h) H)

/- 48 dictum/dictumref03.Word -/
abbrev s48l2_T := ByteArray → Int → Heap → Prop
def s48l2_R (F : s48l2_T) (l : List AVal) (h : Heap) : Prop := J.cons l fun v l => J.str v fun x0 => J.cons l fun v l => J.int .i64 v fun x1 => J.nil l (F x0 x1 h)
def s48l2_G (F : s48l2_T) (x0 : ByteArray) (x1 : Int) (h : Heap) : Prop := gJ [.str, .int .i64] [(.str x0), (.int .i64 x1)] h (s48l2_R F)
def s48l2_E (F : Nat → s48l2_T) (x0 : ByteArray) (x1 : Int) (h : Heap) : Prop := gJ [.str, .int .i64] [(.str x0), (.int .i64 x1)] h (fun l h => ∃ n, s48l2_R (F n) l h)
theorem s48l2_go {F : s48l2_T} {x0 : ByteArray} {x1 : Int} {h : Heap} (H : F x0 x1 h) : s48l2_G F x0 x1 h := gJ_plain rfl H
theorem s48l2_in {F : Nat → s48l2_T} {x0 : ByteArray} {x1 : Int} {h : Heap} (n : Nat) (H : F n x0 x1 h) : s48l2_E F x0 x1 h := gJ_plain rfl ⟨n, H⟩

def s48c3 (Ψ : AVal → Heap → Prop) (L2 : s48l2_T) (s3 : ByteArray) (i1 : Int) (t55 : Bool) (h : Heap) : Prop :=
  ifT t55 (
    retG (.bool false) h Ψ) (
    rg (i1 + 1) (
      L2 s3 (i1 + 1) h))

abbrev s48l4_T := ByteArray → AVal → Int → Heap → Prop
def s48l4_R (F : s48l4_T) (l : List AVal) (h : Heap) : Prop := J.cons l fun v l => J.str v fun x0 => J.cons l fun x1 l => J.cons l fun v l => J.int .i64 v fun x2 => J.nil l (F x0 x1 x2 h)
def s48l4_G (F : s48l4_T) (x0 : ByteArray) (x1 : AVal) (x2 : Int) (h : Heap) : Prop := gJ [.str, .any, .int .i64] [(.str x0), x1, (.int .i64 x2)] h (s48l4_R F)
def s48l4_E (F : Nat → s48l4_T) (x0 : ByteArray) (x1 : AVal) (x2 : Int) (h : Heap) : Prop := gJ [.str, .any, .int .i64] [(.str x0), x1, (.int .i64 x2)] h (fun l h => ∃ n, s48l4_R (F n) l h)
theorem s48l4_go {F : s48l4_T} {x0 : ByteArray} {x1 : AVal} {x2 : Int} {h : Heap} (H : F x0 x1 x2 h) : s48l4_G F x0 x1 x2 h := gJ_plain rfl H
theorem s48l4_in {F : Nat → s48l4_T} {x0 : ByteArray} {x1 : AVal} {x2 : Int} {h : Heap} (n : Nat) (H : F n x0 x1 x2 h) : s48l4_E F x0 x1 x2 h := gJ_plain rfl ⟨n, H⟩

def s48l4 (Ψ : AVal → Heap → Prop) : Nat → s48l4_T
  | 0, _, _, _, _ => False
  | n1 + 1, s4, l_, i2, h =>
    lenN l_ fun n2 =>
    ifT (decide (i2 < n2)) (
      ixS 1 l_ i2 fun p =>
      ld1 h p fun v3 =>
      tStr v3 fun v4 =>
      ifT (strEq v4 s4) (
        retG (.bool false) h Ψ) (
        rg (i2 + 1) (
          s48l4_G (s48l4 Ψ n1) s4 l_ (i2 + 1) h))) (
      retG (.bool true) h Ψ)

def s48l2 (Ψ : AVal → Heap → Prop) : Nat → s48l2_T
  | 0, _, _, _ => False
  | n + 1, s2, i, h =>
    ifT (decide (i < (s2.size : Int))) (
      ((0 : Int) ≤ i ∧ i < (s2.size : Int)) ∧
      callG prog 76 [(.int .u8 (btA s2 i))] h fun v h_ =>
      tBool v fun v1 =>
      ifT (!v1) (
        ((0 : Int) ≤ i ∧ i < (s2.size : Int)) ∧
        ifT (decide (48 ≤ (btA s2 i))) (
          ((0 : Int) ≤ i ∧ i < (s2.size : Int)) ∧
          ifT (!(decide ((btA s2 i) ≤ 57))) (
            ((0 : Int) ≤ i ∧ i < (s2.size : Int)) ∧
            ifT ((btA s2 i) != 95) (
              ((0 : Int) ≤ i ∧ i < (s2.size : Int)) ∧
              s48c3 Ψ (s48l2_G (s48l2 Ψ n)) s2 i ((btA s2 i) != 39) h_) (
              s48c3 Ψ (s48l2_G (s48l2 Ψ n)) s2 i false h_)) (
            s48c3 Ψ (s48l2_G (s48l2 Ψ n)) s2 i false h_)) (
          ((0 : Int) ≤ i ∧ i < (s2.size : Int)) ∧
          ifT ((btA s2 i) != 95) (
            ((0 : Int) ≤ i ∧ i < (s2.size : Int)) ∧
            s48c3 Ψ (s48l2_G (s48l2 Ψ n)) s2 i ((btA s2 i) != 39) h_) (
            s48c3 Ψ (s48l2_G (s48l2 Ψ n)) s2 i false h_))) (
        s48c3 Ψ (s48l2_G (s48l2 Ψ n)) s2 i false h_)) (
      callG prog 77 [] h fun v2 h_1 =>
      s48l4_E (s48l4 Ψ) s2 v2 0 h_1)

def s48c1 (Ψ : AVal → Heap → Prop) (s1 : ByteArray) (t19 : Bool) (h : Heap) : Prop :=
  ifT t19 (
    retG (.bool false) h Ψ) (
    s48l2_E (s48l2 Ψ) s1 1 h)

def s48 (Ψ : AVal → Heap → Prop) (s : ByteArray) (h : Heap) : Prop :=
  ifT (decide ((s.size : Int) < 1)) (
    s48c1 Ψ s true h) (
    ifT (decide (31 < (s.size : Int))) (
      s48c1 Ψ s true h) (
      ((0 : Int) ≤ 0 ∧ 0 < (s.size : Int)) ∧
      callG prog 76 [(.int .u8 (btA s 0))] h fun v5 h_2 =>
      tBool v5 fun v6 =>
      s48c1 Ψ s (!v6) h_2))

def s48_A (Ψ : AVal → Heap → Prop) : Ann :=
  .seq (rA 1)
  (.seq (.cut [(0, .str), (19, .bool)] (fun l h => J.cons l fun v l => J.str v fun x0 => J.cons l fun v l => J.bool v fun x1 => J.nil l (s48c1 Ψ x0 x1 h)) (.reg [⟨none, [(0, false), (1, false), (2, false), (3, false)]⟩, ⟨some (9, false), [(4, false), (5, false), (6, false)]⟩, ⟨none, [(7, false), (8, false)]⟩, ⟨some (14, false), [(9, false), (10, false), (11, false), (12, false)]⟩, ⟨none, [(13, false)]⟩])
  (.cond (.seq (rA 1)
  (.leaf))
  (.leaf)))
  (.seq (.seq (rA 1)
  (.block (.loop [(0, .str), (3, .int .i64)] (fun n l h => s48l2_R (s48l2 Ψ n) l h) (fun L2 =>
  .seq (.seq (rA 4)
  (.cond (.leaf)
  (.leaf)))
  (.seq (.block (.cut [(0, .str), (3, .int .i64), (55, .bool)] (fun l h => J.cons l fun v l => J.str v fun x0 => J.cons l fun v l => J.int .i64 v fun x1 => J.cons l fun v l => J.bool v fun x2 => J.nil l (s48c3 Ψ (fun y0 y1 h => L2 [(.str y0), (.int .i64 y1)] h) x0 x1 x2 h)) (.reg [⟨none, [(0, false), (1, false), (2, false), (3, false), (4, false), (5, false)]⟩, ⟨some (31, true), [(6, false), (7, false), (8, false), (9, false), (10, false)]⟩, ⟨some (36, true), [(11, false), (12, false), (13, false), (14, false)]⟩, ⟨some (31, true), [(15, false), (16, false)]⟩, ⟨none, [(17, false), (18, false)]⟩, ⟨some (44, true), [(19, false), (20, false), (21, false), (22, false)]⟩, ⟨none, [(23, false), (24, false)]⟩, ⟨some (50, true), [(25, false), (26, false), (27, false), (28, false)]⟩, ⟨none, [(29, false)]⟩])
  (.cond (.seq (rA 1)
  (.leaf))
  (.leaf))))
  (rA 3))))))
  (.seq (rA 2)
  (.seq (.seq (rA 1)
  (.block (.loop [(0, .str), (4, .any), (5, .int .i64)] (fun n l h => s48l4_R (s48l4 Ψ n) l h) (fun L4 =>
  .seq (.seq (rA 4)
  (.cond (.leaf)
  (.leaf)))
  (.seq (.block (.seq (rA 6)
  (.cond (.seq (rA 1)
  (.leaf))
  (.leaf))))
  (rA 3))))))
  (.seq (rA 1)
  (.leaf))))))

theorem s48_ok {Ψ : AVal → Heap → Prop} {s : ByteArray} {h : Heap} (H : s48 Ψ s h) : ACalls prog 48 [(.str s)] h Ψ :=
  calls_of_evF func48 (by kernel_rfl) (by kernel_rfl) (by kernel_rfl)
    (Eq.mpr (by as_aux_lemma => kernel_rfl : oblF prog f48 (s48_A Ψ) Ψ = (True ∧ ((True) ∧ (∀ (h : Heap) (x0 : ByteArray) (x1 : Bool), OI (s48c1 Ψ x0 x1 h)) ∧ ((True ∧ True) ∧ True)) ∧ (True ∧ (∀ (h : Heap) (x0 : ByteArray) (x1 : Int), ON (s48l2 Ψ 0 x0 x1 h)) ∧ ∀ n2 : Nat, (∀ (h : Heap) (x0 : ByteArray) (x1 : Int), OI (s48l2 Ψ (n2 + 1) x0 x1 h)) ∧ ((True ∧ True ∧ True) ∧ ((True) ∧ (∀ (h : Heap) (x0 : ByteArray) (x1 : Int) (x2 : Bool), OI (s48c3 Ψ (s48l2_G (s48l2 Ψ n2)) x0 x1 x2 h)) ∧ ((True ∧ True) ∧ True)) ∧ True)) ∧ True ∧ (True ∧ (∀ (h : Heap) (x0 : ByteArray) (x1 : AVal) (x2 : Int), ON (s48l4 Ψ 0 x0 x1 x2 h)) ∧ ∀ n4 : Nat, (∀ (h : Heap) (x0 : ByteArray) (x1 : AVal) (x2 : Int), OI (s48l4 Ψ (n4 + 1) x0 x1 x2 h)) ∧ ((True ∧ True ∧ True) ∧ (True ∧ (True ∧ True) ∧ True) ∧ True)) ∧ True ∧ True)) ⟨trivial, ⟨⟨trivial, fun _ _ _ H => H, ⟨⟨trivial, trivial⟩, trivial⟩⟩, ⟨⟨trivial, ⟨fun _ _ _ H => H, fun _ => ⟨fun _ _ _ H => H, ⟨⟨trivial, ⟨trivial, trivial⟩⟩, ⟨⟨trivial, fun _ _ _ _ H => H, ⟨⟨trivial, trivial⟩, trivial⟩⟩, trivial⟩⟩⟩⟩⟩, ⟨trivial, ⟨⟨trivial, ⟨fun _ _ _ _ H => H, fun _ => ⟨fun _ _ _ _ H => H, ⟨⟨trivial, ⟨trivial, trivial⟩⟩, ⟨⟨trivial, ⟨⟨trivial, trivial⟩, trivial⟩⟩, trivial⟩⟩⟩⟩⟩, ⟨trivial, trivial⟩⟩⟩⟩⟩⟩)
    (Eq.mpr (by as_aux_lemma => kernel_rfl : evF prog f48 (s48_A Ψ) Ψ [(.str s)] h = s48 Ψ s h) H)

/- 51 slices.ContainsFunc[[]int,int] -/
def s51 (Ψ : AVal → Heap → Prop) (s : AVal) (f : AVal) (h : Heap) : Prop :=
  callG prog 79 [s, f] h fun v h_ =>
  tInt .i64 v fun v1 =>
  retG (.bool (decide (0 ≤ v1))) h_ Ψ

def s51_A (Ψ : AVal → Heap → Prop) : Ann :=
  .seq (rA 1)
  (.seq (rA 5)
  (.leaf))

theorem s51_ok {Ψ : AVal → Heap → Prop} {s : AVal} {f : AVal} {h : Heap} (H : s51 Ψ s f h) : ACalls prog 51 [s, f] h Ψ :=
  calls_of_evF func51 (by kernel_rfl) (by kernel_rfl) (by kernel_rfl)
    (Eq.mpr (by as_aux_lemma => kernel_rfl : oblF prog f51 (s51_A Ψ) Ψ = (True ∧ True ∧ True)) ⟨trivial, ⟨trivial, trivial⟩⟩)
    (Eq.mpr (by as_aux_lemma => kernel_rfl : evF prog f51 (s51_A Ψ) Ψ [s, f] h = s51 Ψ s f h) H)

/- 54 slices.Contains[[]int,int] -/
def s54 (Ψ : AVal → Heap → Prop) (s : AVal) (v : Int) (h : Heap) : Prop :=
  callG prog 80 [s, (.int .i64 v)] h fun v1 h_ =>
  tInt .i64 v1 fun v2 =>
  retG (.bool (decide (0 ≤ v2))) h_ Ψ

def s54_A (Ψ : AVal → Heap → Prop) : Ann :=
  .seq (rA 1)
  (.seq (rA 5)
  (.leaf))

theorem s54_ok {Ψ : AVal → Heap → Prop} {s : AVal} {v : Int} {h : Heap} (H : s54 Ψ s v h) : ACalls prog 54 [s, (.int .i64 v)] h Ψ :=
  calls_of_evF func54 (by kernel_rfl) (by kernel_rfl) (by kernel_rfl)
    (Eq.mpr (by as_aux_lemma => kernel_rfl : oblF prog f54 (s54_A Ψ) Ψ = (True ∧ True ∧ True)) ⟨trivial, ⟨trivial, trivial⟩⟩)
    (Eq.mpr (by as_aux_lemma => kernel_rfl : evF prog f54 (s54_A Ψ) Ψ [s, (.int .i64 v)] h = s54 Ψ s v h) H)

/- 57 dictum/morph.reckon$1 -/
abbrev s57l1_T := AVal → AVal → Int → Int → Heap → Prop
def s57l1_R (F : s57l1_T) (l : List AVal) (h : Heap) : Prop := J.cons l fun x0 l => J.cons l fun x1 l => J.cons l fun v l => J.int .i64 v fun x2 => J.cons l fun v l => J.int .i64 v fun x3 => J.nil l (F x0 x1 x2 x3 h)
def s57l1_G (F : s57l1_T) (x0 x1 : AVal) (x2 x3 : Int) (h : Heap) : Prop := gJ [.any, .any, .int .i64, .int .i64] [x0, x1, (.int .i64 x2), (.int .i64 x3)] h (s57l1_R F)
def s57l1_E (F : Nat → s57l1_T) (x0 x1 : AVal) (x2 x3 : Int) (h : Heap) : Prop := gJ [.any, .any, .int .i64, .int .i64] [x0, x1, (.int .i64 x2), (.int .i64 x3)] h (fun l h => ∃ n, s57l1_R (F n) l h)
theorem s57l1_go {F : s57l1_T} {x0 x1 : AVal} {x2 x3 : Int} {h : Heap} (H : F x0 x1 x2 x3 h) : s57l1_G F x0 x1 x2 x3 h := gJ_plain rfl H
theorem s57l1_in {F : Nat → s57l1_T} {x0 x1 : AVal} {x2 x3 : Int} {h : Heap} (n : Nat) (H : F n x0 x1 x2 x3 h) : s57l1_E F x0 x1 x2 x3 h := gJ_plain rfl ⟨n, H⟩

def s57l1 (Ψ : AVal → Heap → Prop) : Nat → s57l1_T
  | 0, _, _, _, _, _ => False
  | n1 + 1, t3, t17, t18, t19, h =>
    ifT (decide (t19 < t18)) (
      ixS 1 t17 t19 fun p2 =>
      ld1 h p2 fun v7 =>
      tInt .i64 v7 fun v8 =>
      ld1 h t3 fun v9 =>
      callV prog v9 [(.int .i64 v8)] h fun v10 h_1 =>
      rg (t19 + 1) (
        s57l1_G (s57l1 Ψ n1) t3 t17 t18 (t19 + 1) h_1)) (
      retG (.tuple []) h Ψ)

def s57 (Ψ : AVal → Heap → Prop) (v : Int) (c0 : AVal) (c1 : AVal) (c2 : AVal) (h : Heap) : Prop :=
  ld1 h c0 fun v1 =>
  mapGet (.int .i64 0) h v1 (.int .i64 v) fun v2 b =>
  tInt .i64 v2 fun v3 =>
  ifT (decide (0 < v3)) (
    retG (.tuple []) h Ψ) (
    ld1 h c0 fun v4 =>
    mapPut h v4 (.int .i64 v) (.int .i64 1) fun h_ =>
    addOff c1 0 fun p =>
    ld1 h_ p fun v5 =>
    ixS 1 v5 v fun p1 =>
    ld1 h_ p1 fun v6 =>
    lenN v6 fun n =>
    s57l1_E (s57l1 Ψ) c2 v6 n 0 h_)

def s57_A (Ψ : AVal → Heap → Prop) : Ann :=
  .seq (.seq (rA 4)
  (.cond (.leaf)
  (.leaf)))
  (.seq (rA 3)
  (.seq (rA 7)
  (.block (.loop [(3, .any), (17, .any), (18, .int .i64), (19, .int .i64)] (fun n l h => s57l1_R (s57l1 Ψ n) l h) (fun L1 =>
  .seq (rA 1)
  (.seq (.cond (.leaf)
  (.leaf))
  (.seq (.block (.seq (rA 3)
  (rA 3)))
  (rA 2))))))))

theorem s57_ok {Ψ : AVal → Heap → Prop} {v : Int} {c0 : AVal} {c1 : AVal} {c2 : AVal} {h : Heap} (H : s57 Ψ v c0 c1 c2 h) : ACalls prog 57 [(.int .i64 v), c0, c1, c2] h Ψ :=
  calls_of_evF func57 (by kernel_rfl) (by kernel_rfl) (by kernel_rfl)
    (Eq.mpr (by as_aux_lemma => kernel_rfl : oblF prog f57 (s57_A Ψ) Ψ = ((True ∧ True ∧ True) ∧ True ∧ True ∧ (∀ (h : Heap) (x0 x1 : AVal) (x2 x3 : Int), ON (s57l1 Ψ 0 x0 x1 x2 x3 h)) ∧ ∀ n1 : Nat, (∀ (h : Heap) (x0 x1 : AVal) (x2 x3 : Int), OI (s57l1 Ψ (n1 + 1) x0 x1 x2 x3 h)) ∧ (True ∧ (True ∧ True) ∧ (True ∧ True) ∧ True))) ⟨⟨trivial, ⟨trivial, trivial⟩⟩, ⟨trivial, ⟨trivial, ⟨fun _ _ _ _ _ H => H, fun _ => ⟨fun _ _ _ _ _ H => H, ⟨trivial, ⟨⟨trivial, trivial⟩, ⟨⟨trivial, trivial⟩, trivial⟩⟩⟩⟩⟩⟩⟩⟩)
    (Eq.mpr (by as_aux_lemma => kernel_rfl : evF prog f57 (s57_A Ψ) Ψ [(.int .i64 v), c0, c1, c2] h = s57 Ψ v c0 c1 c2 h) H)

/- 59 dictum/dictumref17.Order -/
abbrev s59l1_T := AVal → Int → AVal → Int → Heap → Prop
def s59l1_R (F : s59l1_T) (l : List AVal) (h : Heap) : Prop := J.cons l fun x0 l => J.cons l fun v l => J.int .i64 v fun x1 => J.cons l fun x2 l => J.cons l fun v l => J.int .i64 v fun x3 => J.nil l (F x0 x1 x2 x3 h)
def s59l1_G (F : s59l1_T) (x0 : AVal) (x1 : Int) (x2 : AVal) (x3 : Int) (h : Heap) : Prop := gJ [.any, .int .i64, .any, .int .i64] [x0, (.int .i64 x1), x2, (.int .i64 x3)] h (s59l1_R F)
def s59l1_E (F : Nat → s59l1_T) (x0 : AVal) (x1 : Int) (x2 : AVal) (x3 : Int) (h : Heap) : Prop := gJ [.any, .int .i64, .any, .int .i64] [x0, (.int .i64 x1), x2, (.int .i64 x3)] h (fun l h => ∃ n, s59l1_R (F n) l h)
theorem s59l1_go {F : s59l1_T} {x0 : AVal} {x1 : Int} {x2 : AVal} {x3 : Int} {h : Heap} (H : F x0 x1 x2 x3 h) : s59l1_G F x0 x1 x2 x3 h := gJ_plain rfl H
theorem s59l1_in {F : Nat → s59l1_T} {x0 : AVal} {x1 : Int} {x2 : AVal} {x3 : Int} {h : Heap} (n : Nat) (H : F n x0 x1 x2 x3 h) : s59l1_E F x0 x1 x2 x3 h := gJ_plain rfl ⟨n, H⟩

abbrev s59l2_T := AVal → Int → AVal → Int → AVal → Int → Heap → Prop
def s59l2_R (F : s59l2_T) (l : List AVal) (h : Heap) : Prop := J.cons l fun x0 l => J.cons l fun v l => J.int .i64 v fun x1 => J.cons l fun x2 l => J.cons l fun v l => J.int .i64 v fun x3 => J.cons l fun x4 l => J.cons l fun v l => J.int .i64 v fun x5 => J.nil l (F x0 x1 x2 x3 x4 x5 h)
def s59l2_G (F : s59l2_T) (x0 : AVal) (x1 : Int) (x2 : AVal) (x3 : Int) (x4 : AVal) (x5 : Int) (h : Heap) : Prop := gJ [.any, .int .i64, .any, .int .i64, .any, .int .i64] [x0, (.int .i64 x1), x2, (.int .i64 x3), x4, (.int .i64 x5)] h (s59l2_R F)
def s59l2_E (F : Nat → s59l2_T) (x0 : AVal) (x1 : Int) (x2 : AVal) (x3 : Int) (x4 : AVal) (x5 : Int) (h : Heap) : Prop := gJ [.any, .int .i64, .any, .int .i64, .any, .int .i64] [x0, (.int .i64 x1), x2, (.int .i64 x3), x4, (.int .i64 x5)] h (fun l h => ∃ n, s59l2_R (F n) l h)
theorem s59l2_go {F : s59l2_T} {x0 : AVal} {x1 : Int} {x2 : AVal} {x3 : Int} {x4 : AVal} {x5 : Int} {h : Heap} (H : F x0 x1 x2 x3 x4 x5 h) : s59l2_G F x0 x1 x2 x3 x4 x5 h := gJ_plain rfl H
theorem s59l2_in {F : Nat → s59l2_T} {x0 : AVal} {x1 : Int} {x2 : AVal} {x3 : Int} {x4 : AVal} {x5 : Int} {h : Heap} (n : Nat) (H : F n x0 x1 x2 x3 x4 x5 h) : s59l2_E F x0 x1 x2 x3 x4 x5 h := gJ_plain rfl ⟨n, H⟩

abbrev s59l3_T := AVal → Int → AVal → Int → AVal → Int → AVal → Int → Heap → Prop
def s59l3_R (F : s59l3_T) (l : List AVal) (h : Heap) : Prop := J.cons l fun x0 l => J.cons l fun v l => J.int .i64 v fun x1 => J.cons l fun x2 l => J.cons l fun v l => J.int .i64 v fun x3 => J.cons l fun x4 l => J.cons l fun v l => J.int .i64 v fun x5 => J.cons l fun x6 l => J.cons l fun v l => J.int .i64 v fun x7 => J.nil l (F x0 x1 x2 x3 x4 x5 x6 x7 h)
def s59l3_G (F : s59l3_T) (x0 : AVal) (x1 : Int) (x2 : AVal) (x3 : Int) (x4 : AVal) (x5 : Int) (x6 : AVal) (x7 : Int) (h : Heap) : Prop := gJ [.any, .int .i64, .any, .int .i64, .any, .int .i64, .any, .int .i64] [x0, (.int .i64 x1), x2, (.int .i64 x3), x4, (.int .i64 x5), x6, (.int .i64 x7)] h (s59l3_R F)
def s59l3_E (F : Nat → s59l3_T) (x0 : AVal) (x1 : Int) (x2 : AVal) (x3 : Int) (x4 : AVal) (x5 : Int) (x6 : AVal) (x7 : Int) (h : Heap) : Prop := gJ [.any, .int .i64, .any, .int .i64, .any, .int .i64, .any, .int .i64] [x0, (.int .i64 x1), x2, (.int .i64 x3), x4, (.int .i64 x5), x6, (.int .i64 x7)] h (fun l h => ∃ n, s59l3_R (F n) l h)
theorem s59l3_go {F : s59l3_T} {x0 : AVal} {x1 : Int} {x2 : AVal} {x3 : Int} {x4 : AVal} {x5 : Int} {x6 : AVal} {x7 : Int} {h : Heap} (H : F x0 x1 x2 x3 x4 x5 x6 x7 h) : s59l3_G F x0 x1 x2 x3 x4 x5 x6 x7 h := gJ_plain rfl H
theorem s59l3_in {F : Nat → s59l3_T} {x0 : AVal} {x1 : Int} {x2 : AVal} {x3 : Int} {x4 : AVal} {x5 : Int} {x6 : AVal} {x7 : Int} {h : Heap} (n : Nat) (H : F n x0 x1 x2 x3 x4 x5 x6 x7 h) : s59l3_E F x0 x1 x2 x3 x4 x5 x6 x7 h := gJ_plain rfl ⟨n, H⟩

def s59c4 (Ψ : AVal → Heap → Prop) (L1 : s59l1_T) (L2 : s59l2_T) (L3 : s59l3_T) (m3 : AVal) (n9 : Int) (out3 : AVal) (a3 : Int) (wait2 : AVal) (i2 : Int) (row1 : AVal) (k1 : Int) (h : Heap) : Prop :=
  rg (k1 + 1) (
    L3 m3 n9 out3 a3 wait2 i2 row1 (k1 + 1) h)

def s59c5 (Ψ : AVal → Heap → Prop) (L1 : s59l1_T) (L2 : s59l2_T) (L3 : s59l3_T) (m4 : AVal) (n10 : Int) (out4 : AVal) (a4 : Int) (wait3 : AVal) (i3 : Int) (row2 : AVal) (k2 b : Int) (t65 : Bool) (h : Heap) : Prop :=
  ifT t65 (
    retG (.tuple [.nilsl, (.bool false)]) h Ψ) (
    ixS 1 out4 a4 fun p7 =>
    ld1 h p7 fun v9 =>
    ixS 1 v9 b fun p8 =>
    ld1 h p8 fun v10 =>
    tBool v10 fun v11 =>
    ifT (!v11) (
      ixS 1 out4 a4 fun p9 =>
      ld1 h p9 fun v12 =>
      ixS 1 v12 b fun p10 =>
      st true h p10 [(.bool true)] fun h_5 =>
      appC 1 8 h_5 wait3 (.lsl 1 [(.int .i64 b)]) fun v13 h_6 =>
      s59c4 Ψ L1 L2 L3 m4 n10 out4 a4 v13 i3 row2 k2 h_6) (
      s59c4 Ψ L1 L2 L3 m4 n10 out4 a4 wait3 i3 row2 k2 h))

def s59l3 (Ψ : AVal → Heap → Prop) (L1 : s59l1_T) (L2 : s59l2_T) : Nat → s59l3_T
  | 0, _, _, _, _, _, _, _, _, _ => False
  | n7 + 1, m2, n6, out2, a2, wait1, i1, row, k, h =>
    lenN row fun n8 =>
    ifT (decide (k < n8)) (
      ixS 1 row k fun p6 =>
      ld1 h p6 fun v7 =>
      tInt .i64 v7 fun v8 =>
      ifT (decide (v8 < 0)) (
        s59c5 Ψ L1 L2 (s59l3_G (s59l3 Ψ L1 L2 n7)) m2 n6 out2 a2 wait1 i1 row k v8 true h) (
        s59c5 Ψ L1 L2 (s59l3_G (s59l3 Ψ L1 L2 n7)) m2 n6 out2 a2 wait1 i1 row k v8 (decide (n6 ≤ v8)) h)) (
      rg (i1 + 1) (
        L2 m2 n6 out2 a2 wait1 (i1 + 1) h))

def s59l2 (Ψ : AVal → Heap → Prop) (L1 : s59l1_T) : Nat → s59l2_T
  | 0, _, _, _, _, _, _, _ => False
  | n4 + 1, m1, n3, out1, a1, wait, i, h =>
    lenN wait fun n5 =>
    ifT (decide (i < n5)) (
      addOff m1 0 fun p3 =>
      ld1 h p3 fun v3 =>
      ixS 1 wait i fun p4 =>
      ld1 h p4 fun v4 =>
      tInt .i64 v4 fun v5 =>
      ixS 1 v3 v5 fun p5 =>
      ld1 h p5 fun v6 =>
      s59l3_E (s59l3 Ψ L1 (s59l2_G (s59l2 Ψ L1 n4))) m1 n3 out1 a1 wait i v6 0 h) (
      rg (a1 + 1) (
        L1 m1 n3 out1 (a1 + 1) h))

def s59l1 (Ψ : AVal → Heap → Prop) : Nat → s59l1_T
  | 0, _, _, _, _, _ => False
  | n2 + 1, m, n1, out, a, h =>
    ifT (decide (a < n1)) (
      mkS false 1 1 (.bool false) h n1 n1 fun v1 h_1 =>
      ixS 1 out a fun p =>
      chk (sc v1) (
        st true h_1 p [v1] fun h_2 =>
        ixS 1 out a fun p1 =>
        ld1 h_2 p1 fun v2 =>
        ixS 1 v2 a fun p2 =>
        st true h_2 p2 [(.bool true)] fun h_3 =>
        Sym.newRow 1 [(.int .i64 a)] h_3 fun r h_4 =>
        s59l2_E (s59l2 Ψ (s59l1_G (s59l1 Ψ n2))) m n1 out a (.sl r 1 0 1) 0 h_4)) (
      retG (.tuple [out, (.bool true)]) h Ψ)

def s59 (Ψ : AVal → Heap → Prop) (m_Up : AVal) (m_Val : AVal) (h : Heap) : Prop :=
  lenN m_Up fun n =>
  mkS false 1 24 .nilsl h n n fun v h_ =>
  s59l1_E (s59l1 Ψ) (.lptr [m_Up, m_Val]) n v 0 h_

def s59_A (Ψ : AVal → Heap → Prop) : Ann :=
  .seq (.reg [⟨none, [(0, true), (1, false), (2, false)]⟩])
  (.seq (rA 4)
  (.seq (rA 3)
  (.seq (.seq (rA 1)
  (.block (.loop [(1, .any), (4, .int .i64), (5, .any), (6, .int .i64)] (fun n l h => s59l1_R (s59l1 Ψ n) l h) (fun L1 =>
  .seq (.seq (rA 3)
  (.cond (.leaf)
  (.leaf)))
  (.seq (.block (.seq (rA 6)
  (.seq (rA 7)
  (.seq (rA 3)
  (.seq (rA 1)
  (.block (.loop [(1, .any), (4, .int .i64), (5, .any), (6, .int .i64), (7, .any), (8, .int .i64)] (fun n l h => s59l2_R (s59l2 Ψ (fun y0 y1 y2 y3 h => L1 [y0, (.int .i64 y1), y2, (.int .i64 y3)] h) n) l h) (fun L2 =>
  .seq (.seq (rA 4)
  (.cond (.leaf)
  (.leaf)))
  (.seq (.block (.seq (.draw [(0, false), (1, false), (2, false), (3, false), (4, false), (5, false), (6, false), (7, false), (8, false)] [0, 1, 0, 0, 12, 28, 63, 127, 255])
  (.seq (rA 1)
  (.block (.loop [(1, .any), (4, .int .i64), (5, .any), (6, .int .i64), (7, .any), (8, .int .i64), (9, .any), (10, .int .i64)] (fun n l h => s59l3_R (s59l3 Ψ (fun y0 y1 y2 y3 h => L1 [y0, (.int .i64 y1), y2, (.int .i64 y3)] h) (fun y0 y1 y2 y3 y4 y5 h => L2 [y0, (.int .i64 y1), y2, (.int .i64 y3), y4, (.int .i64 y5)] h) n) l h) (fun L3 =>
  .seq (.seq (rA 4)
  (.cond (.leaf)
  (.leaf)))
  (.cut [(1, .any), (4, .int .i64), (5, .any), (6, .int .i64), (7, .any), (8, .int .i64), (9, .any), (10, .int .i64)] (fun l h => J.cons l fun x0 l => J.cons l fun v l => J.int .i64 v fun x1 => J.cons l fun x2 l => J.cons l fun v l => J.int .i64 v fun x3 => J.cons l fun x4 l => J.cons l fun v l => J.int .i64 v fun x5 => J.cons l fun x6 l => J.cons l fun v l => J.int .i64 v fun x7 => J.nil l (s59c4 Ψ (fun y0 y1 y2 y3 h => L1 [y0, (.int .i64 y1), y2, (.int .i64 y3)] h) (fun y0 y1 y2 y3 y4 y5 h => L2 [y0, (.int .i64 y1), y2, (.int .i64 y3), y4, (.int .i64 y5)] h) (fun y0 y1 y2 y3 y4 y5 y6 y7 h => L3 [y0, (.int .i64 y1), y2, (.int .i64 y3), y4, (.int .i64 y5), y6, (.int .i64 y7)] h) x0 x1 x2 x3 x4 x5 x6 x7 h)) (.block (.seq (rA 5)
  (.seq (.cut [(1, .any), (4, .int .i64), (5, .any), (6, .int .i64), (7, .any), (8, .int .i64), (9, .any), (10, .int .i64), (11, .int .i64), (65, .bool)] (fun l h => J.cons l fun x0 l => J.cons l fun v l => J.int .i64 v fun x1 => J.cons l fun x2 l => J.cons l fun v l => J.int .i64 v fun x3 => J.cons l fun x4 l => J.cons l fun v l => J.int .i64 v fun x5 => J.cons l fun x6 l => J.cons l fun v l => J.int .i64 v fun x7 => J.cons l fun v l => J.int .i64 v fun x8 => J.cons l fun v l => J.bool v fun x9 => J.nil l (s59c5 Ψ (fun y0 y1 y2 y3 h => L1 [y0, (.int .i64 y1), y2, (.int .i64 y3)] h) (fun y0 y1 y2 y3 y4 y5 h => L2 [y0, (.int .i64 y1), y2, (.int .i64 y3), y4, (.int .i64 y5)] h) (fun y0 y1 y2 y3 y4 y5 y6 y7 h => L3 [y0, (.int .i64 y1), y2, (.int .i64 y3), y4, (.int .i64 y5), y6, (.int .i64 y7)] h) x0 x1 x2 x3 x4 x5 x6 x7 x8 x9 h)) (.reg [⟨none, [(0, false), (1, false), (2, false)]⟩, ⟨some (61, false), [(3, false), (4, false), (5, false)]⟩, ⟨none, [(6, false)]⟩])
  (.cond (.seq (rA 2)
  (.leaf))
  (.leaf)))
  (.seq (rA 8)
  (.cond (.seq (rA 7)
  (.reg [⟨none, [(0, false), (1, false), (2, true), (3, false), (4, false)]⟩]))
  (.leaf))))))
  (rA 3))))))))
  (rA 3))))))))))
  (rA 3))))))
  (.seq (rA 3)
  (.leaf)))))

theorem s59_ok {Ψ : AVal → Heap → Prop} {m_Up : AVal} {m_Val : AVal} {h : Heap} (H : s59 Ψ m_Up m_Val h) : ACalls prog 59 [(.agg [m_Up, m_Val])] h Ψ :=
  calls_of_evF func59 (by kernel_rfl) (by kernel_rfl) (by kernel_rfl)
    (Eq.mpr (by as_aux_lemma => kernel_rfl : oblF prog f59 (s59_A Ψ) Ψ = (True ∧ True ∧ True ∧ (True ∧ (∀ (h : Heap) (x0 : AVal) (x1 : Int) (x2 : AVal) (x3 : Int), ON (s59l1 Ψ 0 x0 x1 x2 x3 h)) ∧ ∀ n1 : Nat, (∀ (h : Heap) (x0 : AVal) (x1 : Int) (x2 : AVal) (x3 : Int), OI (s59l1 Ψ (n1 + 1) x0 x1 x2 x3 h)) ∧ ((True ∧ True ∧ True) ∧ (True ∧ True ∧ True ∧ True ∧ (∀ (h : Heap) (x0 : AVal) (x1 : Int) (x2 : AVal) (x3 : Int) (x4 : AVal) (x5 : Int), ON (s59l2 Ψ (s59l1_G (s59l1 Ψ n1)) 0 x0 x1 x2 x3 x4 x5 h)) ∧ ∀ n2 : Nat, (∀ (h : Heap) (x0 : AVal) (x1 : Int) (x2 : AVal) (x3 : Int) (x4 : AVal) (x5 : Int), OI (s59l2 Ψ (s59l1_G (s59l1 Ψ n1)) (n2 + 1) x0 x1 x2 x3 x4 x5 h)) ∧ ((True ∧ True ∧ True) ∧ (True ∧ True ∧ (∀ (h : Heap) (x0 : AVal) (x1 : Int) (x2 : AVal) (x3 : Int) (x4 : AVal) (x5 : Int) (x6 : AVal) (x7 : Int), ON (s59l3 Ψ (s59l1_G (s59l1 Ψ n1)) (s59l2_G (s59l2 Ψ (s59l1_G (s59l1 Ψ n1)) n2)) 0 x0 x1 x2 x3 x4 x5 x6 x7 h)) ∧ ∀ n3 : Nat, (∀ (h : Heap) (x0 : AVal) (x1 : Int) (x2 : AVal) (x3 : Int) (x4 : AVal) (x5 : Int) (x6 : AVal) (x7 : Int), OI (s59l3 Ψ (s59l1_G (s59l1 Ψ n1)) (s59l2_G (s59l2 Ψ (s59l1_G (s59l1 Ψ n1)) n2)) (n3 + 1) x0 x1 x2 x3 x4 x5 x6 x7 h)) ∧ ((True ∧ True ∧ True) ∧ (True ∧ ((True) ∧ (∀ (h : Heap) (x0 : AVal) (x1 : Int) (x2 : AVal) (x3 : Int) (x4 : AVal) (x5 : Int) (x6 : AVal) (x7 x8 : Int) (x9 : Bool), OI (s59c5 Ψ (s59l1_G (s59l1 Ψ n1)) (s59l2_G (s59l2 Ψ (s59l1_G (s59l1 Ψ n1)) n2)) (s59l3_G (s59l3 Ψ (s59l1_G (s59l1 Ψ n1)) (s59l2_G (s59l2 Ψ (s59l1_G (s59l1 Ψ n1)) n2)) n3)) x0 x1 x2 x3 x4 x5 x6 x7 x8 x9 h)) ∧ ((True ∧ True) ∧ True)) ∧ True ∧ (True ∧ True) ∧ True) ∧ (∀ (h : Heap) (x0 : AVal) (x1 : Int) (x2 : AVal) (x3 : Int) (x4 : AVal) (x5 : Int) (x6 : AVal) (x7 : Int), OI (s59c4 Ψ (s59l1_G (s59l1 Ψ n1)) (s59l2_G (s59l2 Ψ (s59l1_G (s59l1 Ψ n1)) n2)) (s59l3_G (s59l3 Ψ (s59l1_G (s59l1 Ψ n1)) (s59l2_G (s59l2 Ψ (s59l1_G (s59l1 Ψ n1)) n2)) n3)) x0 x1 x2 x3 x4 x5 x6 x7 h)) ∧ (True))) ∧ True)) ∧ True)) ∧ True ∧ True)) ⟨trivial, ⟨trivial, ⟨trivial, ⟨⟨trivial, ⟨fun _ _ _ _ _ H => H, fun _ => ⟨fun _ _ _ _ _ H => H, ⟨⟨trivial, ⟨trivial, trivial⟩⟩, ⟨⟨trivial, ⟨trivial, ⟨trivial, ⟨trivial, ⟨fun _ _ _ _ _ _ _ H => H, fun _ => ⟨fun _ _ _ _ _ _ _ H => H, ⟨⟨trivial, ⟨trivial, trivial⟩⟩, ⟨⟨trivial, ⟨trivial, ⟨fun _ _ _ _ _ _ _ _ _ H => H, fun _ => ⟨fun _ _ _ _ _ _ _ _ _ H => H, ⟨⟨trivial, ⟨trivial, trivial⟩⟩, ⟨⟨trivial, ⟨⟨trivial, fun _ _ _ _ _ _ _ _ _ _ _ H => H, ⟨⟨trivial, trivial⟩, trivial⟩⟩, ⟨trivial, ⟨⟨trivial, trivial⟩, trivial⟩⟩⟩⟩, fun _ _ _ _ _ _ _ _ _ H => H, trivial⟩⟩⟩⟩⟩⟩, trivial⟩⟩⟩⟩⟩⟩⟩⟩, trivial⟩⟩⟩⟩⟩, ⟨trivial, trivial⟩⟩⟩⟩⟩)
    (Eq.mpr (by as_aux_lemma => kernel_rfl : evF prog f59 (s59_A Ψ) Ψ [(.agg [m_Up, m_Val])] h = s59 Ψ m_Up m_Val h) H)

/- 61 dictum/dictumref17.has -/
abbrev s61l1_T := AVal → ByteArray → Int → Heap → Prop
def s61l1_R (F : s61l1_T) (l : List AVal) (h : Heap) : Prop := J.cons l fun x0 l => J.cons l fun v l => J.str v fun x1 => J.cons l fun v l => J.int .i64 v fun x2 => J.nil l (F x0 x1 x2 h)
def s61l1_G (F : s61l1_T) (x0 : AVal) (x1 : ByteArray) (x2 : Int) (h : Heap) : Prop := gJ [.any, .str, .int .i64] [x0, (.str x1), (.int .i64 x2)] h (s61l1_R F)
def s61l1_E (F : Nat → s61l1_T) (x0 : AVal) (x1 : ByteArray) (x2 : Int) (h : Heap) : Prop := gJ [.any, .str, .int .i64] [x0, (.str x1), (.int .i64 x2)] h (fun l h => ∃ n, s61l1_R (F n) l h)
theorem s61l1_go {F : s61l1_T} {x0 : AVal} {x1 : ByteArray} {x2 : Int} {h : Heap} (H : F x0 x1 x2 h) : s61l1_G F x0 x1 x2 h := gJ_plain rfl H
theorem s61l1_in {F : Nat → s61l1_T} {x0 : AVal} {x1 : ByteArray} {x2 : Int} {h : Heap} (n : Nat) (H : F n x0 x1 x2 h) : s61l1_E F x0 x1 x2 h := gJ_plain rfl ⟨n, H⟩

def s61l1 (Ψ : AVal → Heap → Prop) : Nat → s61l1_T
  | 0, _, _, _, _ => False
  | n + 1, l_1, s1, i, h =>
    lenN l_1 fun n1 =>
    ifT (decide (i < n1)) (
      ixS 1 l_1 i fun p =>
      ld1 h p fun v =>
      tStr v fun v1 =>
      ifT (strEq v1 s1) (
        retG (.bool true) h Ψ) (
        rg (i + 1) (
          s61l1_G (s61l1 Ψ n) l_1 s1 (i + 1) h))) (
      retG (.bool false) h Ψ)

def s61 (Ψ : AVal → Heap → Prop) (l_ : AVal) (s : ByteArray) (h : Heap) : Prop :=
  s61l1_E (s61l1 Ψ) l_ s 0 h

def s61_A (Ψ : AVal → Heap → Prop) : Ann :=
  .seq (rA 1)
  (.seq (.seq (rA 1)
  (.block (.loop [(0, .any), (1, .str), (5, .int .i64)] (fun n l h => s61l1_R (s61l1 Ψ n) l h) (fun L1 =>
  .seq (.seq (rA 4)
  (.cond (.leaf)
  (.leaf)))
  (.seq (.block (.seq (rA 6)
  (.cond (.seq (rA 1)
  (.leaf))
  (.leaf))))
  (rA 3))))))
  (.seq (rA 1)
  (.leaf)))

theorem s61_ok {Ψ : AVal → Heap → Prop} {l_ : AVal} {s : ByteArray} {h : Heap} (H : s61 Ψ l_ s h) : ACalls prog 61 [l_, (.str s)] h Ψ :=
  calls_of_evF func61 (by kernel_rfl) (by kernel_rfl) (by kernel_rfl)
    (Eq.mpr (by as_aux_lemma => kernel_rfl : oblF prog f61 (s61_A Ψ) Ψ = (True ∧ (True ∧ (∀ (h : Heap) (x0 : AVal) (x1 : ByteArray) (x2 : Int), ON (s61l1 Ψ 0 x0 x1 x2 h)) ∧ ∀ n1 : Nat, (∀ (h : Heap) (x0 : AVal) (x1 : ByteArray) (x2 : Int), OI (s61l1 Ψ (n1 + 1) x0 x1 x2 h)) ∧ ((True ∧ True ∧ True) ∧ (True ∧ (True ∧ True) ∧ True) ∧ True)) ∧ True ∧ True)) ⟨trivial, ⟨⟨trivial, ⟨fun _ _ _ _ H => H, fun _ => ⟨fun _ _ _ _ H => H, ⟨⟨trivial, ⟨trivial, trivial⟩⟩, ⟨⟨trivial, ⟨⟨trivial, trivial⟩, trivial⟩⟩, trivial⟩⟩⟩⟩⟩, ⟨trivial, trivial⟩⟩⟩)
    (Eq.mpr (by as_aux_lemma => kernel_rfl : evF prog f61 (s61_A Ψ) Ψ [l_, (.str s)] h = s61 Ψ l_ s h) H)

/- 63 dictum/morph.numbered[string] -/
abbrev s63l1_T := AVal → AVal → AVal → Int → Int → Heap → Prop
def s63l1_R (F : s63l1_T) (l : List AVal) (h : Heap) : Prop := J.cons l fun x0 l => J.cons l fun x1 l => J.cons l fun x2 l => J.cons l fun v l => J.int .i64 v fun x3 => J.cons l fun v l => J.int .i64 v fun x4 => J.nil l (F x0 x1 x2 x3 x4 h)
def s63l1_G (F : s63l1_T) (x0 x1 x2 : AVal) (x3 x4 : Int) (h : Heap) : Prop := gJ [.any, .any, .any, .int .i64, .int .i64] [x0, x1, x2, (.int .i64 x3), (.int .i64 x4)] h (s63l1_R F)
def s63l1_E (F : Nat → s63l1_T) (x0 x1 x2 : AVal) (x3 x4 : Int) (h : Heap) : Prop := gJ [.any, .any, .any, .int .i64, .int .i64] [x0, x1, x2, (.int .i64 x3), (.int .i64 x4)] h (fun l h => ∃ n, s63l1_R (F n) l h)
theorem s63l1_go {F : s63l1_T} {x0 x1 x2 : AVal} {x3 x4 : Int} {h : Heap} (H : F x0 x1 x2 x3 x4 h) : s63l1_G F x0 x1 x2 x3 x4 h := gJ_plain rfl H
theorem s63l1_in {F : Nat → s63l1_T} {x0 x1 x2 : AVal} {x3 x4 : Int} {h : Heap} (n : Nat) (H : F n x0 x1 x2 x3 x4 h) : s63l1_E F x0 x1 x2 x3 x4 h := gJ_plain rfl ⟨n, H⟩

def s63c2 (Ψ : AVal → Heap → Prop) (L1 : s63l1_T) (at_1 out1 : AVal) (i : Int) (k : ByteArray) (t14_1 : AVal) (t15_1 t16_1 : Int) (h : Heap) : Prop :=
  mapGet (.int .i64 0) h at_1 (.str k) fun v3 b =>
  tInt .i64 v3 fun v4 =>
  ixS 1 out1 i fun p1 =>
  st true h p1 [(.int .i64 v4)] fun h_2 =>
  rg (t16_1 + 1) (
    L1 at_1 out1 t14_1 t15_1 (t16_1 + 1) h_2)

def s63l1 (Ψ : AVal → Heap → Prop) : Nat → s63l1_T
  | 0, _, _, _, _, _, _ => False
  | n2 + 1, at_, out, t14, t15, t16, h =>
    ifT (decide (t16 < t15)) (
      ixS 1 t14 t16 fun p =>
      ld1 h p fun v1 =>
      tStr v1 fun v2 =>
      mapGet (.int .i64 0) h at_ (.str v2) fun v5 b1 =>
      tInt .i64 v5 fun v6 =>
      ifT (!b1) (
        lenM h at_ fun n3 =>
        mapPut h at_ (.str v2) (.int .i64 n3) fun h_3 =>
        s63c2 Ψ (s63l1_G (s63l1 Ψ n2)) at_ out t16 v2 t14 t15 t16 h_3) (
        s63c2 Ψ (s63l1_G (s63l1 Ψ n2)) at_ out t16 v2 t14 t15 t16 h)) (
      lenM h at_ fun n4 =>
      retG (.tuple [out, (.int .i64 n4)]) h Ψ)

def s63 (Ψ : AVal → Heap → Prop) (l_ : AVal) (h : Heap) : Prop :=
  newMap h fun r h_ =>
  lenN l_ fun n =>
  mkS false 1 8 (.int .i64 0) h_ n n fun v h_1 =>
  lenN l_ fun n1 =>
  s63l1_E (s63l1 Ψ) (.mapr r) v l_ n1 0 h_1

def s63_A (Ψ : AVal → Heap → Prop) : Ann :=
  .seq (rA 2)
  (.seq (rA 2)
  (.seq (rA 4)
  (.seq (.seq (rA 3)
  (.block (.loop [(4, .any), (5, .any), (14, .any), (15, .int .i64), (16, .int .i64)] (fun n l h => s63l1_R (s63l1 Ψ n) l h) (fun L1 =>
  .seq (rA 1)
  (.seq (.cond (.leaf)
  (.leaf))
  (.seq (.block (.seq (rA 5)
  (.cut [(4, .any), (5, .any), (6, .int .i64), (7, .str), (14, .any), (15, .int .i64), (16, .int .i64)] (fun l h => J.cons l fun x0 l => J.cons l fun x1 l => J.cons l fun v l => J.int .i64 v fun x2 => J.cons l fun v l => J.str v fun x3 => J.cons l fun x4 l => J.cons l fun v l => J.int .i64 v fun x5 => J.cons l fun v l => J.int .i64 v fun x6 => J.nil l (s63c2 Ψ (fun y0 y1 y2 y3 y4 h => L1 [y0, y1, y2, (.int .i64 y3), (.int .i64 y4)] h) x0 x1 x2 x3 x4 x5 x6 h)) (.seq (rA 8)
  (.seq (rA 2)
  (.cond (rA 5)
  (.leaf))))
  (rA 7))))
  (rA 2)))))))
  (.seq (rA 5)
  (.leaf)))))

theorem s63_ok {Ψ : AVal → Heap → Prop} {l_ : AVal} {h : Heap} (H : s63 Ψ l_ h) : ACalls prog 63 [l_] h Ψ :=
  calls_of_evF func63 (by kernel_rfl) (by kernel_rfl) (by kernel_rfl)
    (Eq.mpr (by as_aux_lemma => kernel_rfl : oblF prog f63 (s63_A Ψ) Ψ = (True ∧ True ∧ True ∧ (True ∧ (∀ (h : Heap) (x0 x1 x2 : AVal) (x3 x4 : Int), ON (s63l1 Ψ 0 x0 x1 x2 x3 x4 h)) ∧ ∀ n1 : Nat, (∀ (h : Heap) (x0 x1 x2 : AVal) (x3 x4 : Int), OI (s63l1 Ψ (n1 + 1) x0 x1 x2 x3 x4 h)) ∧ (True ∧ (True ∧ True) ∧ (True ∧ (True ∧ True ∧ True ∧ True) ∧ (∀ (h : Heap) (x0 x1 : AVal) (x2 : Int) (x3 : ByteArray) (x4 : AVal) (x5 x6 : Int), OI (s63c2 Ψ (s63l1_G (s63l1 Ψ n1)) x0 x1 x2 x3 x4 x5 x6 h)) ∧ (True)) ∧ True)) ∧ True ∧ True)) ⟨trivial, ⟨trivial, ⟨trivial, ⟨⟨trivial, ⟨fun _ _ _ _ _ _ H => H, fun _ => ⟨fun _ _ _ _ _ _ H => H, ⟨trivial, ⟨⟨trivial, trivial⟩, ⟨⟨trivial, ⟨⟨trivial, ⟨trivial, ⟨trivial, trivial⟩⟩⟩, fun _ _ _ _ _ _ _ _ H => H, trivial⟩⟩, trivial⟩⟩⟩⟩⟩⟩, ⟨trivial, trivial⟩⟩⟩⟩⟩)
    (Eq.mpr (by as_aux_lemma => kernel_rfl : evF prog f63 (s63_A Ψ) Ψ [l_] h = s63 Ψ l_ h) H)

/- 65 dictum/dictumref17.Tidy -/
abbrev s65l1_T := AVal → AVal → AVal → AVal → Int → Heap → Prop
def s65l1_R (F : s65l1_T) (l : List AVal) (h : Heap) : Prop := J.cons l fun x0 l => J.cons l fun x1 l => J.cons l fun x2 l => J.cons l fun x3 l => J.cons l fun v l => J.int .i64 v fun x4 => J.nil l (F x0 x1 x2 x3 x4 h)
def s65l1_G (F : s65l1_T) (x0 x1 x2 x3 : AVal) (x4 : Int) (h : Heap) : Prop := gJ [.any, .any, .any, .any, .int .i64] [x0, x1, x2, x3, (.int .i64 x4)] h (s65l1_R F)
def s65l1_E (F : Nat → s65l1_T) (x0 x1 x2 x3 : AVal) (x4 : Int) (h : Heap) : Prop := gJ [.any, .any, .any, .any, .int .i64] [x0, x1, x2, x3, (.int .i64 x4)] h (fun l h => ∃ n, s65l1_R (F n) l h)
theorem s65l1_go {F : s65l1_T} {x0 x1 x2 x3 : AVal} {x4 : Int} {h : Heap} (H : F x0 x1 x2 x3 x4 h) : s65l1_G F x0 x1 x2 x3 x4 h := gJ_plain rfl H
theorem s65l1_in {F : Nat → s65l1_T} {x0 x1 x2 x3 : AVal} {x4 : Int} {h : Heap} (n : Nat) (H : F n x0 x1 x2 x3 x4 h) : s65l1_E F x0 x1 x2 x3 x4 h := gJ_plain rfl ⟨n, H⟩

abbrev s65l2_T := AVal → AVal → AVal → AVal → Int → AVal → Int → Heap → Prop
def s65l2_R (F : s65l2_T) (l : List AVal) (h : Heap) : Prop := J.cons l fun x0 l => J.cons l fun x1 l => J.cons l fun x2 l => J.cons l fun x3 l => J.cons l fun v l => J.int .i64 v fun x4 => J.cons l fun x5 l => J.cons l fun v l => J.int .i64 v fun x6 => J.nil l (F x0 x1 x2 x3 x4 x5 x6 h)
def s65l2_G (F : s65l2_T) (x0 x1 x2 x3 : AVal) (x4 : Int) (x5 : AVal) (x6 : Int) (h : Heap) : Prop := gJ [.any, .any, .any, .any, .int .i64, .any, .int .i64] [x0, x1, x2, x3, (.int .i64 x4), x5, (.int .i64 x6)] h (s65l2_R F)
def s65l2_E (F : Nat → s65l2_T) (x0 x1 x2 x3 : AVal) (x4 : Int) (x5 : AVal) (x6 : Int) (h : Heap) : Prop := gJ [.any, .any, .any, .any, .int .i64, .any, .int .i64] [x0, x1, x2, x3, (.int .i64 x4), x5, (.int .i64 x6)] h (fun l h => ∃ n, s65l2_R (F n) l h)
theorem s65l2_go {F : s65l2_T} {x0 x1 x2 x3 : AVal} {x4 : Int} {x5 : AVal} {x6 : Int} {h : Heap} (H : F x0 x1 x2 x3 x4 x5 x6 h) : s65l2_G F x0 x1 x2 x3 x4 x5 x6 h := gJ_plain rfl H
theorem s65l2_in {F : Nat → s65l2_T} {x0 x1 x2 x3 : AVal} {x4 : Int} {x5 : AVal} {x6 : Int} {h : Heap} (n : Nat) (H : F n x0 x1 x2 x3 x4 x5 x6 h) : s65l2_E F x0 x1 x2 x3 x4 x5 x6 h := gJ_plain rfl ⟨n, H⟩

def s65c3 (Ψ : AVal → Heap → Prop) (L1 : s65l1_T) (L2 : s65l2_T) (m2 t2_2 o2 out2 : AVal) (a2 : Int) (row1 : AVal) (b1 : Int) (h : Heap) : Prop :=
  rg (b1 + 1) (
    L2 m2 t2_2 o2 out2 a2 row1 (b1 + 1) h)

abbrev s65l5_T := AVal → AVal → AVal → AVal → Int → AVal → Int → Bool → Int → Heap → Prop
def s65l5_R (F : s65l5_T) (l : List AVal) (h : Heap) : Prop := J.cons l fun x0 l => J.cons l fun x1 l => J.cons l fun x2 l => J.cons l fun x3 l => J.cons l fun v l => J.int .i64 v fun x4 => J.cons l fun x5 l => J.cons l fun v l => J.int .i64 v fun x6 => J.cons l fun v l => J.bool v fun x7 => J.cons l fun v l => J.int .i64 v fun x8 => J.nil l (F x0 x1 x2 x3 x4 x5 x6 x7 x8 h)
def s65l5_G (F : s65l5_T) (x0 x1 x2 x3 : AVal) (x4 : Int) (x5 : AVal) (x6 : Int) (x7 : Bool) (x8 : Int) (h : Heap) : Prop := gJ [.any, .any, .any, .any, .int .i64, .any, .int .i64, .bool, .int .i64] [x0, x1, x2, x3, (.int .i64 x4), x5, (.int .i64 x6), (.bool x7), (.int .i64 x8)] h (s65l5_R F)
def s65l5_E (F : Nat → s65l5_T) (x0 x1 x2 x3 : AVal) (x4 : Int) (x5 : AVal) (x6 : Int) (x7 : Bool) (x8 : Int) (h : Heap) : Prop := gJ [.any, .any, .any, .any, .int .i64, .any, .int .i64, .bool, .int .i64] [x0, x1, x2, x3, (.int .i64 x4), x5, (.int .i64 x6), (.bool x7), (.int .i64 x8)] h (fun l h => ∃ n, s65l5_R (F n) l h)
theorem s65l5_go {F : s65l5_T} {x0 x1 x2 x3 : AVal} {x4 : Int} {x5 : AVal} {x6 : Int} {x7 : Bool} {x8 : Int} {h : Heap} (H : F x0 x1 x2 x3 x4 x5 x6 x7 x8 h) : s65l5_G F x0 x1 x2 x3 x4 x5 x6 x7 x8 h := gJ_plain rfl H
theorem s65l5_in {F : Nat → s65l5_T} {x0 x1 x2 x3 : AVal} {x4 : Int} {x5 : AVal} {x6 : Int} {x7 : Bool} {x8 : Int} {h : Heap} (n : Nat) (H : F n x0 x1 x2 x3 x4 x5 x6 x7 x8 h) : s65l5_E F x0 x1 x2 x3 x4 x5 x6 x7 x8 h := gJ_plain rfl ⟨n, H⟩

def s65c7 (Ψ : AVal → Heap → Prop) (L1 : s65l1_T) (L2 : s65l2_T) (L5 : s65l5_T) (m6 t2_6 o6 out6 : AVal) (a6 : Int) (row5 : AVal) (b5 : Int) (next3 : Bool) (c2 : Int) (h : Heap) : Prop :=
  rg (c2 + 1) (
    L5 m6 t2_6 o6 out6 a6 row5 b5 next3 (c2 + 1) h)

def s65c6 (Ψ : AVal → Heap → Prop) (L1 : s65l1_T) (L2 : s65l2_T) (L5 : s65l5_T) (m5 t2_5 o5 out5 : AVal) (a5 : Int) (row4 : AVal) (b4 : Int) (next2 : Bool) (c1 : Int) (t51 : Bool) (h : Heap) : Prop :=
  ifT t51 (
    ifT (c1 == a5) (
      s65c7 Ψ L1 L2 L5 m5 t2_5 o5 out5 a5 row4 b4 true c1 h) (
      ifT (c1 == b4) (
        s65c7 Ψ L1 L2 L5 m5 t2_5 o5 out5 a5 row4 b4 true c1 h) (
        ixS 1 o5 a5 fun p =>
        ld1 h p fun v6 =>
        ixS 1 v6 c1 fun p1 =>
        ld1 h p1 fun v7 =>
        tBool v7 fun v8 =>
        ifT (!v8) (
          s65c7 Ψ L1 L2 L5 m5 t2_5 o5 out5 a5 row4 b4 true c1 h) (
          ixS 1 o5 c1 fun p2 =>
          ld1 h p2 fun v9 =>
          ixS 1 v9 b4 fun p3 =>
          ld1 h p3 fun v10 =>
          tBool v10 fun v11 =>
          s65c7 Ψ L1 L2 L5 m5 t2_5 o5 out5 a5 row4 b4 (!v11) c1 h)))) (
    ifT next2 (
      appC 1 8 h row4 (.lsl 1 [(.int .i64 b4)]) fun v12 h_5 =>
      s65c3 Ψ L1 L2 m5 t2_5 o5 out5 a5 v12 b4 h_5) (
      s65c3 Ψ L1 L2 m5 t2_5 o5 out5 a5 row4 b4 h))

def s65l5 (Ψ : AVal → Heap → Prop) (L1 : s65l1_T) (L2 : s65l2_T) : Nat → s65l5_T
  | 0, _, _, _, _, _, _, _, _, _, _ => False
  | n4 + 1, m4, t2_4, o4, out4, a4, row3, b3, next1, c, h =>
    lenN o4 fun n5 =>
    ifT (decide (c < n5)) (
      s65c6 Ψ L1 L2 (s65l5_G (s65l5 Ψ L1 L2 n4)) m4 t2_4 o4 out4 a4 row3 b3 next1 c next1 h) (
      s65c6 Ψ L1 L2 (s65l5_G (s65l5 Ψ L1 L2 n4)) m4 t2_4 o4 out4 a4 row3 b3 next1 c false h)

def s65c4 (Ψ : AVal → Heap → Prop) (L1 : s65l1_T) (L2 : s65l2_T) (m3 t2_3 o3 out3 : AVal) (a3 : Int) (row2 : AVal) (b2 : Int) (next : Bool) (h : Heap) : Prop :=
  s65l5_E (s65l5 Ψ L1 L2) m3 t2_3 o3 out3 a3 row2 b2 next 0 h

def s65l2 (Ψ : AVal → Heap → Prop) (L1 : s65l1_T) : Nat → s65l2_T
  | 0, _, _, _, _, _, _, _, _ => False
  | n2 + 1, m1, t2_1, o1, out1, a1, row, b, h =>
    lenN o1 fun n3 =>
    ifT (decide (b < n3)) (
      ifT (a1 != b) (
        ixS 1 o1 a1 fun p4 =>
        ld1 h p4 fun v13 =>
        ixS 1 v13 b fun p5 =>
        ld1 h p5 fun v14 =>
        tBool v14 fun v15 =>
        s65c4 Ψ L1 (s65l2_G (s65l2 Ψ L1 n2)) m1 t2_1 o1 out1 a1 row b v15 h) (
        s65c4 Ψ L1 (s65l2_G (s65l2 Ψ L1 n2)) m1 t2_1 o1 out1 a1 row b false h)) (
      addOff out1 0 fun p6 =>
      ld1 h p6 fun v16 =>
      chk (sc row) (
        appC 1 24 h v16 (.lsl 1 [row]) fun v17 h_6 =>
        addOff out1 0 fun p7 =>
        chk (sc v17) (
          st true h_6 p7 [v17] fun h_7 =>
          addOff out1 1 fun p8 =>
          ld1 h_7 p8 fun v18 =>
          addOff m1 1 fun p9 =>
          ld1 h_7 p9 fun v19 =>
          ixS 1 v19 a1 fun p10 =>
          ld1 h_7 p10 fun v20 =>
          Sym.newRow 1 [] h_7 fun r2 h_8 =>
          (ld1 h_8 p10 fun v21 =>
          v21 = v20) ∧
          (ld1 h_8 p9 fun v22 =>
          v22 = v19) ∧
          (ld1 h_8 p8 fun v23 =>
          v23 = v18) ∧
          appC 1 16 h_8 (.sl r2 1 0 0) v20 fun v24 h_9 =>
          (ld1 h_9 p8 fun v25 =>
          v25 = v18) ∧
          chk (sc v24) (
            (ld1 h_9 p8 fun v26 =>
            v26 = v18) ∧
            appC 1 24 h_9 v18 (.lsl 1 [v24]) fun v27 h_10 =>
            addOff out1 1 fun p11 =>
            chk (sc v27) (
              st true h_10 p11 [v27] fun h_11 =>
              rg (a1 + 1) (
                L1 m1 t2_1 o1 out1 (a1 + 1) h_11))))))

def s65l1 (Ψ : AVal → Heap → Prop) : Nat → s65l1_T
  | 0, _, _, _, _, _, _ => False
  | n + 1, m, t2, o, out, a, h =>
    lenN o fun n1 =>
    ifT (decide (a < n1)) (
      s65l2_E (s65l2 Ψ (s65l1_G (s65l1 Ψ n))) m t2 o out a .nilsl 0 h) (
      ldN 2 h out fun l_6 =>
      tCons l_6 fun v28 l_7 =>
      tCons l_7 fun v29 l_8 =>
      tNil l_8 (
        st false h t2 [v28, v29] fun h_12 =>
        ldN 2 h_12 t2 fun l_9 =>
        tCons l_9 fun v30 l_10 =>
        tCons l_10 fun v31 l_11 =>
        tNil l_11 (
          retG (.tuple [(.agg [v30, v31]), (.int .i64 0)]) h_12 Ψ)))

def s65 (Ψ : AVal → Heap → Prop) (m_Up : AVal) (m_Val : AVal) (h : Heap) : Prop :=
  Sym.newRow 2 [(.agg [.nilsl, .nilsl])] h fun r h_ =>
  callG prog 31 [(.agg [m_Up, m_Val])] h_ fun v h_1 =>
  tTup v fun l_ =>
  tCons l_ fun v1 l_1 =>
  tCons l_1 fun v2 l_2 =>
  tBool v2 fun v3 =>
  tNil l_2 (
    ifT (!v3) (
      st false h_1 (.ptr r 0 0) [.nilsl, .nilsl] fun h_2 =>
      ldN 2 h_2 (.ptr r 0 0) fun l_3 =>
      tCons l_3 fun v4 l_4 =>
      tCons l_4 fun v5 l_5 =>
      tNil l_5 (
        retG (.tuple [(.agg [v4, v5]), (.int .i64 170)]) h_2 Ψ)) (
      Sym.newRow 2 [(.agg [.nilsl, .nilsl])] h_1 fun r1 h_3 =>
      st false h_3 (.ptr r1 0 0) [.nilsl, .nilsl] fun h_4 =>
      s65l1_E (s65l1 Ψ) (.lptr [m_Up, m_Val]) (.ptr r 0 0) v1 (.ptr r1 0 0) 0 h_4))

def s65_A (Ψ : AVal → Heap → Prop) : Ann :=
  .seq (.reg [⟨none, [(0, true), (1, false), (2, false)]⟩])
  (.seq (rA 7)
  (.seq (.seq (rA 2)
  (.cond (.seq (rA 3)
  (.leaf))
  (.leaf)))
  (.seq (rA 3)
  (.seq (.seq (rA 1)
  (.block (.loop [(1, .any), (2, .any), (4, .any), (6, .any), (7, .int .i64)] (fun n l h => s65l1_R (s65l1 Ψ n) l h) (fun L1 =>
  .seq (.seq (rA 4)
  (.cond (.leaf)
  (.leaf)))
  (.seq (.block (.seq (rA 1)
  (.seq (.seq (rA 1)
  (.block (.loop [(1, .any), (2, .any), (4, .any), (6, .any), (7, .int .i64), (8, .any), (9, .int .i64)] (fun n l h => s65l2_R (s65l2 Ψ (fun y0 y1 y2 y3 y4 h => L1 [y0, y1, y2, y3, (.int .i64 y4)] h) n) l h) (fun L2 =>
  .seq (.seq (rA 4)
  (.cond (.leaf)
  (.leaf)))
  (.cut [(1, .any), (2, .any), (4, .any), (6, .any), (7, .int .i64), (8, .any), (9, .int .i64)] (fun l h => J.cons l fun x0 l => J.cons l fun x1 l => J.cons l fun x2 l => J.cons l fun x3 l => J.cons l fun v l => J.int .i64 v fun x4 => J.cons l fun x5 l => J.cons l fun v l => J.int .i64 v fun x6 => J.nil l (s65c3 Ψ (fun y0 y1 y2 y3 y4 h => L1 [y0, y1, y2, y3, (.int .i64 y4)] h) (fun y0 y1 y2 y3 y4 y5 y6 h => L2 [y0, y1, y2, y3, (.int .i64 y4), y5, (.int .i64 y6)] h) x0 x1 x2 x3 x4 x5 x6 h)) (.block (.cut [(1, .any), (2, .any), (4, .any), (6, .any), (7, .int .i64), (8, .any), (9, .int .i64), (10, .bool)] (fun l h => J.cons l fun x0 l => J.cons l fun x1 l => J.cons l fun x2 l => J.cons l fun x3 l => J.cons l fun v l => J.int .i64 v fun x4 => J.cons l fun x5 l => J.cons l fun v l => J.int .i64 v fun x6 => J.cons l fun v l => J.bool v fun x7 => J.nil l (s65c4 Ψ (fun y0 y1 y2 y3 y4 h => L1 [y0, y1, y2, y3, (.int .i64 y4)] h) (fun y0 y1 y2 y3 y4 y5 y6 h => L2 [y0, y1, y2, y3, (.int .i64 y4), y5, (.int .i64 y6)] h) x0 x1 x2 x3 x4 x5 x6 x7 h)) (.reg [⟨none, [(0, false), (1, false), (2, false), (3, false)]⟩, ⟨some (36, true), [(4, false), (5, false), (6, false), (7, false), (8, false), (9, false), (10, false)]⟩, ⟨none, [(11, false), (12, false)]⟩])
  (.seq (.seq (rA 1)
  (.block (.loop [(1, .any), (2, .any), (4, .any), (6, .any), (7, .int .i64), (8, .any), (9, .int .i64), (10, .bool), (11, .int .i64)] (fun n l h => s65l5_R (s65l5 Ψ (fun y0 y1 y2 y3 y4 h => L1 [y0, y1, y2, y3, (.int .i64 y4)] h) (fun y0 y1 y2 y3 y4 y5 y6 h => L2 [y0, y1, y2, y3, (.int .i64 y4), y5, (.int .i64 y6)] h) n) l h) (fun L5 =>
  .seq (.cut [(1, .any), (2, .any), (4, .any), (6, .any), (7, .int .i64), (8, .any), (9, .int .i64), (10, .bool), (11, .int .i64), (51, .bool)] (fun l h => J.cons l fun x0 l => J.cons l fun x1 l => J.cons l fun x2 l => J.cons l fun x3 l => J.cons l fun v l => J.int .i64 v fun x4 => J.cons l fun x5 l => J.cons l fun v l => J.int .i64 v fun x6 => J.cons l fun v l => J.bool v fun x7 => J.cons l fun v l => J.int .i64 v fun x8 => J.cons l fun v l => J.bool v fun x9 => J.nil l (s65c6 Ψ (fun y0 y1 y2 y3 y4 h => L1 [y0, y1, y2, y3, (.int .i64 y4)] h) (fun y0 y1 y2 y3 y4 y5 y6 h => L2 [y0, y1, y2, y3, (.int .i64 y4), y5, (.int .i64 y6)] h) (fun y0 y1 y2 y3 y4 y5 y6 y7 y8 h => L5 [y0, y1, y2, y3, (.int .i64 y4), y5, (.int .i64 y6), (.bool y7), (.int .i64 y8)] h) x0 x1 x2 x3 x4 x5 x6 x7 x8 x9 h)) (.reg [⟨none, [(0, false), (1, false), (2, false), (3, false), (4, false)]⟩, ⟨some (49, true), [(5, false)]⟩, ⟨none, [(6, false)]⟩])
  (.cond (.leaf)
  (.leaf)))
  (.cut [(1, .any), (2, .any), (4, .any), (6, .any), (7, .int .i64), (8, .any), (9, .int .i64), (10, .bool), (11, .int .i64)] (fun l h => J.cons l fun x0 l => J.cons l fun x1 l => J.cons l fun x2 l => J.cons l fun x3 l => J.cons l fun v l => J.int .i64 v fun x4 => J.cons l fun x5 l => J.cons l fun v l => J.int .i64 v fun x6 => J.cons l fun v l => J.bool v fun x7 => J.cons l fun v l => J.int .i64 v fun x8 => J.nil l (s65c7 Ψ (fun y0 y1 y2 y3 y4 h => L1 [y0, y1, y2, y3, (.int .i64 y4)] h) (fun y0 y1 y2 y3 y4 y5 y6 h => L2 [y0, y1, y2, y3, (.int .i64 y4), y5, (.int .i64 y6)] h) (fun y0 y1 y2 y3 y4 y5 y6 y7 y8 h => L5 [y0, y1, y2, y3, (.int .i64 y4), y5, (.int .i64 y6), (.bool y7), (.int .i64 y8)] h) x0 x1 x2 x3 x4 x5 x6 x7 x8 h)) (.block (.reg [⟨none, [(0, false), (1, false), (2, false), (3, false)]⟩, ⟨some (57, false), [(4, false), (5, false), (6, false)]⟩, ⟨none, [(7, false), (8, false)]⟩, ⟨some (62, false), [(9, false), (10, false), (11, false), (12, false), (13, false), (14, false), (15, false), (16, false)]⟩, ⟨none, [(17, false), (18, false)]⟩, ⟨some (72, false), [(19, false), (20, false), (21, false), (22, false), (23, false), (24, false), (25, false), (26, false)]⟩, ⟨none, [(27, false), (28, false)]⟩]))
  (rA 3))))))
  (.seq (rA 1)
  (.cond (.reg [⟨none, [(0, false), (1, false), (2, true), (3, false), (4, false)]⟩])
  (.leaf))))))
  (rA 3))))))
  (.seq (.reg [⟨none, [(0, false), (1, false), (2, false), (3, true), (4, false), (5, false), (6, false)]⟩])
  (.draw [(0, false), (1, false), (3, false), (4, false), (5, false), (6, false), (7, false), (2, false), (8, false), (9, true), (10, false), (11, false), (12, false)] [0, 1, 0, 0, 8, 0, 56, 120, 252, 508, 1023, 2047, 4095])))))
  (rA 3))))))
  (.seq (rA 3)
  (.leaf))))))

theorem s65_ok {Ψ : AVal → Heap → Prop} {m_Up : AVal} {m_Val : AVal} {h : Heap} (H : s65 Ψ m_Up m_Val h) : ACalls prog 65 [(.agg [m_Up, m_Val])] h Ψ :=
  calls_of_evF func65 (by kernel_rfl) (by kernel_rfl) (by kernel_rfl)
    (Eq.mpr (by as_aux_lemma => kernel_rfl : oblF prog f65 (s65_A Ψ) Ψ = (True ∧ True ∧ (True ∧ (True ∧ True) ∧ True) ∧ True ∧ (True ∧ (∀ (h : Heap) (x0 x1 x2 x3 : AVal) (x4 : Int), ON (s65l1 Ψ 0 x0 x1 x2 x3 x4 h)) ∧ ∀ n1 : Nat, (∀ (h : Heap) (x0 x1 x2 x3 : AVal) (x4 : Int), OI (s65l1 Ψ (n1 + 1) x0 x1 x2 x3 x4 h)) ∧ ((True ∧ True ∧ True) ∧ (True ∧ (True ∧ (∀ (h : Heap) (x0 x1 x2 x3 : AVal) (x4 : Int) (x5 : AVal) (x6 : Int), ON (s65l2 Ψ (s65l1_G (s65l1 Ψ n1)) 0 x0 x1 x2 x3 x4 x5 x6 h)) ∧ ∀ n2 : Nat, (∀ (h : Heap) (x0 x1 x2 x3 : AVal) (x4 : Int) (x5 : AVal) (x6 : Int), OI (s65l2 Ψ (s65l1_G (s65l1 Ψ n1)) (n2 + 1) x0 x1 x2 x3 x4 x5 x6 h)) ∧ ((True ∧ True ∧ True) ∧ ((True) ∧ (∀ (h : Heap) (x0 x1 x2 x3 : AVal) (x4 : Int) (x5 : AVal) (x6 : Int) (x7 : Bool), OI (s65c4 Ψ (s65l1_G (s65l1 Ψ n1)) (s65l2_G (s65l2 Ψ (s65l1_G (s65l1 Ψ n1)) n2)) x0 x1 x2 x3 x4 x5 x6 x7 h)) ∧ ((True ∧ (∀ (h : Heap) (x0 x1 x2 x3 : AVal) (x4 : Int) (x5 : AVal) (x6 : Int) (x7 : Bool) (x8 : Int), ON (s65l5 Ψ (s65l1_G (s65l1 Ψ n1)) (s65l2_G (s65l2 Ψ (s65l1_G (s65l1 Ψ n1)) n2)) 0 x0 x1 x2 x3 x4 x5 x6 x7 x8 h)) ∧ ∀ n5 : Nat, (∀ (h : Heap) (x0 x1 x2 x3 : AVal) (x4 : Int) (x5 : AVal) (x6 : Int) (x7 : Bool) (x8 : Int), OI (s65l5 Ψ (s65l1_G (s65l1 Ψ n1)) (s65l2_G (s65l2 Ψ (s65l1_G (s65l1 Ψ n1)) n2)) (n5 + 1) x0 x1 x2 x3 x4 x5 x6 x7 x8 h)) ∧ (((True) ∧ (∀ (h : Heap) (x0 x1 x2 x3 : AVal) (x4 : Int) (x5 : AVal) (x6 : Int) (x7 : Bool) (x8 : Int) (x9 : Bool), OI (s65c6 Ψ (s65l1_G (s65l1 Ψ n1)) (s65l2_G (s65l2 Ψ (s65l1_G (s65l1 Ψ n1)) n2)) (s65l5_G (s65l5 Ψ (s65l1_G (s65l1 Ψ n1)) (s65l2_G (s65l2 Ψ (s65l1_G (s65l1 Ψ n1)) n2)) n5)) x0 x1 x2 x3 x4 x5 x6 x7 x8 x9 h)) ∧ (True ∧ True)) ∧ (True) ∧ (∀ (h : Heap) (x0 x1 x2 x3 : AVal) (x4 : Int) (x5 : AVal) (x6 : Int) (x7 : Bool) (x8 : Int), OI (s65c7 Ψ (s65l1_G (s65l1 Ψ n1)) (s65l2_G (s65l2 Ψ (s65l1_G (s65l1 Ψ n1)) n2)) (s65l5_G (s65l5 Ψ (s65l1_G (s65l1 Ψ n1)) (s65l2_G (s65l2 Ψ (s65l1_G (s65l1 Ψ n1)) n2)) n5)) x0 x1 x2 x3 x4 x5 x6 x7 x8 h)) ∧ (True))) ∧ True ∧ True ∧ True)) ∧ (∀ (h : Heap) (x0 x1 x2 x3 : AVal) (x4 : Int) (x5 : AVal) (x6 : Int), OI (s65c3 Ψ (s65l1_G (s65l1 Ψ n1)) (s65l2_G (s65l2 Ψ (s65l1_G (s65l1 Ψ n1)) n2)) x0 x1 x2 x3 x4 x5 x6 h)) ∧ (True))) ∧ True ∧ True) ∧ True)) ∧ True ∧ True)) ⟨trivial, ⟨trivial, ⟨⟨trivial, ⟨⟨trivial, trivial⟩, trivial⟩⟩, ⟨trivial, ⟨⟨trivial, ⟨fun _ _ _ _ _ _ H => H, fun _ => ⟨fun _ _ _ _ _ _ H => H, ⟨⟨trivial, ⟨trivial, trivial⟩⟩, ⟨⟨trivial, ⟨⟨trivial, ⟨fun _ _ _ _ _ _ _ _ H => H, fun _ => ⟨fun _ _ _ _ _ _ _ _ H => H, ⟨⟨trivial, ⟨trivial, trivial⟩⟩, ⟨⟨trivial, fun _ _ _ _ _ _ _ _ _ H => H, ⟨⟨trivial, ⟨fun _ _ _ _ _ _ _ _ _ _ H => H, fun _ => ⟨fun _ _ _ _ _ _ _ _ _ _ H => H, ⟨⟨trivial, fun _ _ _ _ _ _ _ _ _ _ _ H => H, ⟨trivial, trivial⟩⟩, ⟨trivial, fun _ _ _ _ _ _ _ _ _ _ H => H, trivial⟩⟩⟩⟩⟩, ⟨trivial, ⟨trivial, trivial⟩⟩⟩⟩, fun _ _ _ _ _ _ _ _ H => H, trivial⟩⟩⟩⟩⟩, ⟨trivial, trivial⟩⟩⟩, trivial⟩⟩⟩⟩⟩, ⟨trivial, trivial⟩⟩⟩⟩⟩⟩)
    (Eq.mpr (by as_aux_lemma => kernel_rfl : evF prog f65 (s65_A Ψ) Ψ [(.agg [m_Up, m_Val])] h = s65 Ψ m_Up m_Val h) H)

/- 67 dictum/worlds.asked -/
abbrev s67l1_T := AVal → AVal → AVal → Int → Int → Heap → Prop
def s67l1_R (F : s67l1_T) (l : List AVal) (h : Heap) : Prop := J.cons l fun x0 l => J.cons l fun x1 l => J.cons l fun x2 l => J.cons l fun v l => J.int .i64 v fun x3 => J.cons l fun v l => J.int .i64 v fun x4 => J.nil l (F x0 x1 x2 x3 x4 h)
def s67l1_G (F : s67l1_T) (x0 x1 x2 : AVal) (x3 x4 : Int) (h : Heap) : Prop := gJ [.any, .any, .any, .int .i64, .int .i64] [x0, x1, x2, (.int .i64 x3), (.int .i64 x4)] h (s67l1_R F)
def s67l1_E (F : Nat → s67l1_T) (x0 x1 x2 : AVal) (x3 x4 : Int) (h : Heap) : Prop := gJ [.any, .any, .any, .int .i64, .int .i64] [x0, x1, x2, (.int .i64 x3), (.int .i64 x4)] h (fun l h => ∃ n, s67l1_R (F n) l h)
theorem s67l1_go {F : s67l1_T} {x0 x1 x2 : AVal} {x3 x4 : Int} {h : Heap} (H : F x0 x1 x2 x3 x4 h) : s67l1_G F x0 x1 x2 x3 x4 h := gJ_plain rfl H
theorem s67l1_in {F : Nat → s67l1_T} {x0 x1 x2 : AVal} {x3 x4 : Int} {h : Heap} (n : Nat) (H : F n x0 x1 x2 x3 x4 h) : s67l1_E F x0 x1 x2 x3 x4 h := gJ_plain rfl ⟨n, H⟩

def s67c2 (Ψ : AVal → Heap → Prop) (L1 : s67l1_T) (m1 leq1 t17_1 : AVal) (t18_1 t19_1 : Int) (t31 : Bool) (h : Heap) : Prop :=
  ifT t31 (
    retG (.tuple [.nilfunc, (.int .i64 2)]) h Ψ) (
    rg (t19_1 + 1) (
      L1 m1 leq1 t17_1 t18_1 (t19_1 + 1) h))

def s67l1 (Ψ : AVal → Heap → Prop) : Nat → s67l1_T
  | 0, _, _, _, _, _, _ => False
  | n1 + 1, m, leq, t17, t18, t19, h =>
    ifT (decide (t19 < t18)) (
      ixS 1 t17 t19 fun p =>
      ld1 h p fun v4 =>
      tInt .i64 v4 fun v5 =>
      ifT (decide (v5 < 0)) (
        s67c2 Ψ (s67l1_G (s67l1 Ψ n1)) m leq t17 t18 t19 true h) (
        addOff m 0 fun p1 =>
        ld1 h p1 fun v6 =>
        lenN v6 fun n2 =>
        s67c2 Ψ (s67l1_G (s67l1 Ψ n1)) m leq t17 t18 t19 (decide (n2 ≤ v5)) h)) (
      retG (.tuple [leq, (.int .i64 0)]) h Ψ)

def s67 (Ψ : AVal → Heap → Prop) (m_Up : AVal) (m_Val : AVal) (worlds : AVal) (h : Heap) : Prop :=
  callG prog 83 [(.agg [m_Up, m_Val])] h fun v h_ =>
  tTup v fun l_ =>
  tCons l_ fun v1 l_1 =>
  tCons l_1 fun v2 l_2 =>
  tBool v2 fun v3 =>
  tNil l_2 (
    ifT (!v3) (
      retG (.tuple [.nilfunc, (.int .i64 170)]) h_ Ψ) (
      lenN worlds fun n =>
      s67l1_E (s67l1 Ψ) (.lptr [m_Up, m_Val]) v1 worlds n 0 h_))

def s67_A (Ψ : AVal → Heap → Prop) : Ann :=
  .seq (.reg [⟨none, [(0, true), (1, false), (2, false)]⟩])
  (.seq (rA 7)
  (.seq (.seq (rA 2)
  (.cond (.seq (rA 2)
  (.leaf))
  (.leaf)))
  (.seq (.seq (rA 3)
  (.block (.loop [(2, .any), (6, .any), (17, .any), (18, .int .i64), (19, .int .i64)] (fun n l h => s67l1_R (s67l1 Ψ n) l h) (fun L1 =>
  .seq (rA 1)
  (.seq (.cond (.leaf)
  (.leaf))
  (.seq (.block (.seq (rA 3)
  (.cut [(2, .any), (6, .any), (17, .any), (18, .int .i64), (19, .int .i64), (31, .bool)] (fun l h => J.cons l fun x0 l => J.cons l fun x1 l => J.cons l fun x2 l => J.cons l fun v l => J.int .i64 v fun x3 => J.cons l fun v l => J.int .i64 v fun x4 => J.cons l fun v l => J.bool v fun x5 => J.nil l (s67c2 Ψ (fun y0 y1 y2 y3 y4 h => L1 [y0, y1, y2, (.int .i64 y3), (.int .i64 y4)] h) x0 x1 x2 x3 x4 x5 h)) (.reg [⟨none, [(0, false), (1, false), (2, false)]⟩, ⟨some (25, false), [(3, false), (4, false), (5, false), (6, false), (7, false)]⟩, ⟨none, [(8, false)]⟩])
  (.cond (.seq (rA 2)
  (.leaf))
  (.leaf)))))
  (rA 2)))))))
  (.seq (rA 3)
  (.leaf)))))

theorem s67_ok {Ψ : AVal → Heap → Prop} {m_Up : AVal} {m_Val : AVal} {worlds : AVal} {h : Heap} (H : s67 Ψ m_Up m_Val worlds h) : ACalls prog 67 [(.agg [m_Up, m_Val]), worlds] h Ψ :=
  calls_of_evF func67 (by kernel_rfl) (by kernel_rfl) (by kernel_rfl)
    (Eq.mpr (by as_aux_lemma => kernel_rfl : oblF prog f67 (s67_A Ψ) Ψ = (True ∧ True ∧ (True ∧ (True ∧ True) ∧ True) ∧ (True ∧ (∀ (h : Heap) (x0 x1 x2 : AVal) (x3 x4 : Int), ON (s67l1 Ψ 0 x0 x1 x2 x3 x4 h)) ∧ ∀ n1 : Nat, (∀ (h : Heap) (x0 x1 x2 : AVal) (x3 x4 : Int), OI (s67l1 Ψ (n1 + 1) x0 x1 x2 x3 x4 h)) ∧ (True ∧ (True ∧ True) ∧ (True ∧ (True) ∧ (∀ (h : Heap) (x0 x1 x2 : AVal) (x3 x4 : Int) (x5 : Bool), OI (s67c2 Ψ (s67l1_G (s67l1 Ψ n1)) x0 x1 x2 x3 x4 x5 h)) ∧ ((True ∧ True) ∧ True)) ∧ True)) ∧ True ∧ True)) ⟨trivial, ⟨trivial, ⟨⟨trivial, ⟨⟨trivial, trivial⟩, trivial⟩⟩, ⟨⟨trivial, ⟨fun _ _ _ _ _ _ H => H, fun _ => ⟨fun _ _ _ _ _ _ H => H, ⟨trivial, ⟨⟨trivial, trivial⟩, ⟨⟨trivial, ⟨trivial, fun _ _ _ _ _ _ _ H => H, ⟨⟨trivial, trivial⟩, trivial⟩⟩⟩, trivial⟩⟩⟩⟩⟩⟩, ⟨trivial, trivial⟩⟩⟩⟩⟩)
    (Eq.mpr (by as_aux_lemma => kernel_rfl : evF prog f67 (s67_A Ψ) Ψ [(.agg [m_Up, m_Val]), worlds] h = s67 Ψ m_Up m_Val worlds h) H)

/- 69 dictum/worlds.Tidy$1 -/
def s69 (Ψ : AVal → Heap → Prop) (b : Int) (c0 : AVal) (c1 : AVal) (h : Heap) : Prop :=
  ld1 h c0 fun v =>
  tInt .i64 v fun v1 =>
  ifT (v1 != b) (
    ld1 h c1 fun v2 =>
    ld1 h c0 fun v3 =>
    tInt .i64 v3 fun v4 =>
    callV prog v2 [(.int .i64 v4), (.int .i64 b)] h fun v5 h_ =>
    tBool v5 fun v6 =>
    retG (.bool v6) h_ Ψ) (
    retG (.bool false) h Ψ)

def s69_A (Ψ : AVal → Heap → Prop) : Ann :=
  .seq (rA 1)
  (.seq (.reg [⟨none, [(0, false), (1, false), (2, false), (3, false)]⟩, ⟨some (8, true), [(4, false), (5, false), (6, false), (7, false)]⟩, ⟨none, [(8, false), (9, false)]⟩])
  (.leaf))

theorem s69_ok {Ψ : AVal → Heap → Prop} {b : Int} {c0 : AVal} {c1 : AVal} {h : Heap} (H : s69 Ψ b c0 c1 h) : ACalls prog 69 [(.int .i64 b), c0, c1] h Ψ :=
  calls_of_evF func69 (by kernel_rfl) (by kernel_rfl) (by kernel_rfl)
    (Eq.mpr (by as_aux_lemma => kernel_rfl : oblF prog f69 (s69_A Ψ) Ψ = (True ∧ True ∧ True)) ⟨trivial, ⟨trivial, trivial⟩⟩)
    (Eq.mpr (by as_aux_lemma => kernel_rfl : evF prog f69 (s69_A Ψ) Ψ [(.int .i64 b), c0, c1] h = s69 Ψ b c0 c1 h) H)

/- 71 dictum/worlds.Tidy$2$1 -/
def s71 (Ψ : AVal → Heap → Prop) (c : Int) (c0 : AVal) (c1 : AVal) (h : Heap) : Prop :=
  ld1 h c0 fun v =>
  tInt .i64 v fun v1 =>
  ifT (c != v1) (
    ld1 h c1 fun v2 =>
    ld1 h c0 fun v3 =>
    tInt .i64 v3 fun v4 =>
    callV prog v2 [(.int .i64 c), (.int .i64 v4)] h fun v5 h_ =>
    tBool v5 fun v6 =>
    retG (.bool v6) h_ Ψ) (
    retG (.bool false) h Ψ)

def s71_A (Ψ : AVal → Heap → Prop) : Ann :=
  .seq (rA 1)
  (.seq (.reg [⟨none, [(0, false), (1, false), (2, false), (3, false)]⟩, ⟨some (8, true), [(4, false), (5, false), (6, false), (7, false)]⟩, ⟨none, [(8, false), (9, false)]⟩])
  (.leaf))

theorem s71_ok {Ψ : AVal → Heap → Prop} {c : Int} {c0 : AVal} {c1 : AVal} {h : Heap} (H : s71 Ψ c c0 c1 h) : ACalls prog 71 [(.int .i64 c), c0, c1] h Ψ :=
  calls_of_evF func71 (by kernel_rfl) (by kernel_rfl) (by kernel_rfl)
    (Eq.mpr (by as_aux_lemma => kernel_rfl : oblF prog f71 (s71_A Ψ) Ψ = (True ∧ True ∧ True)) ⟨trivial, ⟨trivial, trivial⟩⟩)
    (Eq.mpr (by as_aux_lemma => kernel_rfl : evF prog f71 (s71_A Ψ) Ψ [(.int .i64 c), c0, c1] h = s71 Ψ c c0 c1 h) H)

/- 73 dictum/worlds.Root$1 -/
def s73 (Ψ : AVal → Heap → Prop) (b : Int) (c0 : AVal) (c1 : AVal) (h : Heap) : Prop :=
  ld1 h c0 fun v =>
  ld1 h c1 fun v1 =>
  tInt .i64 v1 fun v2 =>
  callV prog v [(.int .i64 v2), (.int .i64 b)] h fun v3 h_ =>
  tBool v3 fun v4 =>
  retG (.bool v4) h_ Ψ

def s73_A (Ψ : AVal → Heap → Prop) : Ann :=
  .seq (rA 1)
  (.seq (rA 5)
  (.leaf))

theorem s73_ok {Ψ : AVal → Heap → Prop} {b : Int} {c0 : AVal} {c1 : AVal} {h : Heap} (H : s73 Ψ b c0 c1 h) : ACalls prog 73 [(.int .i64 b), c0, c1] h Ψ :=
  calls_of_evF func73 (by kernel_rfl) (by kernel_rfl) (by kernel_rfl)
    (Eq.mpr (by as_aux_lemma => kernel_rfl : oblF prog f73 (s73_A Ψ) Ψ = (True ∧ True ∧ True)) ⟨trivial, ⟨trivial, trivial⟩⟩)
    (Eq.mpr (by as_aux_lemma => kernel_rfl : evF prog f73 (s73_A Ψ) Ψ [(.int .i64 b), c0, c1] h = s73 Ψ b c0 c1 h) H)

/- 75 slices.Index[[]string,string] -/
abbrev s75l1_T := AVal → ByteArray → Int → Int → Heap → Prop
def s75l1_R (F : s75l1_T) (l : List AVal) (h : Heap) : Prop := J.cons l fun x0 l => J.cons l fun v l => J.str v fun x1 => J.cons l fun v l => J.int .i64 v fun x2 => J.cons l fun v l => J.int .i64 v fun x3 => J.nil l (F x0 x1 x2 x3 h)
def s75l1_G (F : s75l1_T) (x0 : AVal) (x1 : ByteArray) (x2 x3 : Int) (h : Heap) : Prop := gJ [.any, .str, .int .i64, .int .i64] [x0, (.str x1), (.int .i64 x2), (.int .i64 x3)] h (s75l1_R F)
def s75l1_E (F : Nat → s75l1_T) (x0 : AVal) (x1 : ByteArray) (x2 x3 : Int) (h : Heap) : Prop := gJ [.any, .str, .int .i64, .int .i64] [x0, (.str x1), (.int .i64 x2), (.int .i64 x3)] h (fun l h => ∃ n, s75l1_R (F n) l h)
theorem s75l1_go {F : s75l1_T} {x0 : AVal} {x1 : ByteArray} {x2 x3 : Int} {h : Heap} (H : F x0 x1 x2 x3 h) : s75l1_G F x0 x1 x2 x3 h := gJ_plain rfl H
theorem s75l1_in {F : Nat → s75l1_T} {x0 : AVal} {x1 : ByteArray} {x2 x3 : Int} {h : Heap} (n : Nat) (H : F n x0 x1 x2 x3 h) : s75l1_E F x0 x1 x2 x3 h := gJ_plain rfl ⟨n, H⟩

def s75l1 (Ψ : AVal → Heap → Prop) : Nat → s75l1_T
  | 0, _, _, _, _, _ => False
  | n1 + 1, s1, v1, t7, t8, h =>
    ifT (decide (t8 < t7)) (
      ixS 1 s1 t8 fun p =>
      ld1 h p fun v2 =>
      tStr v2 fun v3 =>
      ifT (strEq v1 v3) (
        retG (.int .i64 t8) h Ψ) (
        rg (t8 + 1) (
          s75l1_G (s75l1 Ψ n1) s1 v1 t7 (t8 + 1) h))) (
      retG (.int .i64 (-1)) h Ψ)

def s75 (Ψ : AVal → Heap → Prop) (s : AVal) (v : ByteArray) (h : Heap) : Prop :=
  lenN s fun n =>
  s75l1_E (s75l1 Ψ) s v n 0 h

def s75_A (Ψ : AVal → Heap → Prop) : Ann :=
  .seq (rA 1)
  (.seq (.seq (rA 3)
  (.block (.loop [(0, .any), (1, .str), (7, .int .i64), (8, .int .i64)] (fun n l h => s75l1_R (s75l1 Ψ n) l h) (fun L1 =>
  .seq (rA 1)
  (.seq (.cond (.leaf)
  (.leaf))
  (.seq (.block (.seq (rA 2)
  (.seq (rA 6)
  (.cond (.seq (rA 2)
  (.leaf))
  (.leaf)))))
  (rA 2)))))))
  (.seq (rA 1)
  (.leaf)))

theorem s75_ok {Ψ : AVal → Heap → Prop} {s : AVal} {v : ByteArray} {h : Heap} (H : s75 Ψ s v h) : ACalls prog 75 [s, (.str v)] h Ψ :=
  calls_of_evF func75 (by kernel_rfl) (by kernel_rfl) (by kernel_rfl)
    (Eq.mpr (by as_aux_lemma => kernel_rfl : oblF prog f75 (s75_A Ψ) Ψ = (True ∧ (True ∧ (∀ (h : Heap) (x0 : AVal) (x1 : ByteArray) (x2 x3 : Int), ON (s75l1 Ψ 0 x0 x1 x2 x3 h)) ∧ ∀ n1 : Nat, (∀ (h : Heap) (x0 : AVal) (x1 : ByteArray) (x2 x3 : Int), OI (s75l1 Ψ (n1 + 1) x0 x1 x2 x3 h)) ∧ (True ∧ (True ∧ True) ∧ (True ∧ True ∧ (True ∧ True) ∧ True) ∧ True)) ∧ True ∧ True)) ⟨trivial, ⟨⟨trivial, ⟨fun _ _ _ _ _ H => H, fun _ => ⟨fun _ _ _ _ _ H => H, ⟨trivial, ⟨⟨trivial, trivial⟩, ⟨⟨trivial, ⟨trivial, ⟨⟨trivial, trivial⟩, trivial⟩⟩⟩, trivial⟩⟩⟩⟩⟩⟩, ⟨trivial, trivial⟩⟩⟩)
    (Eq.mpr (by as_aux_lemma => kernel_rfl : evF prog f75 (s75_A Ψ) Ψ [s, (.str v)] h = s75 Ψ s v h) H)

/- 77 dictum/dictumref03.Reserved -/
def s77 (Ψ : AVal → Heap → Prop) (h : Heap) : Prop :=
  retG (.lsl 1 [(.str (ByteArray.mk #[97, 98, 111, 114, 116])), (.str (ByteArray.mk #[99, 97, 115, 101])), (.str (ByteArray.mk #[102, 97, 108, 115, 101])), (.str (ByteArray.mk #[102, 115, 116])), (.str (ByteArray.mk #[102, 117, 110])), (.str (ByteArray.mk #[105, 110])), (.str (ByteArray.mk #[105, 110, 108])), (.str (ByteArray.mk #[105, 110, 114])), (.str (ByteArray.mk #[108, 101, 116])), (.str (ByteArray.mk #[111, 102])), (.str (ByteArray.mk #[115, 110, 100])), (.str (ByteArray.mk #[116, 114, 117, 101]))]) h Ψ

def s77_A (Ψ : AVal → Heap → Prop) : Ann :=
  .seq (rA 1)
  (.seq (.reg [⟨none, [(0, true), (1, false)]⟩])
  (.leaf))

theorem s77_ok {Ψ : AVal → Heap → Prop} {h : Heap} (H : s77 Ψ  h) : ACalls prog 77 [] h Ψ :=
  calls_of_evF func77 (by kernel_rfl) (by kernel_rfl) (by kernel_rfl)
    (Eq.mpr (by as_aux_lemma => kernel_rfl : oblF prog f77 (s77_A Ψ) Ψ = (True ∧ True ∧ True)) ⟨trivial, ⟨trivial, trivial⟩⟩)
    (Eq.mpr (by as_aux_lemma => kernel_rfl : evF prog f77 (s77_A Ψ) Ψ [] h = s77 Ψ  h) H)

/- 80 slices.Index[[]int,int] -/
abbrev s80l1_T := AVal → Int → Int → Int → Heap → Prop
def s80l1_R (F : s80l1_T) (l : List AVal) (h : Heap) : Prop := J.cons l fun x0 l => J.cons l fun v l => J.int .i64 v fun x1 => J.cons l fun v l => J.int .i64 v fun x2 => J.cons l fun v l => J.int .i64 v fun x3 => J.nil l (F x0 x1 x2 x3 h)
def s80l1_G (F : s80l1_T) (x0 : AVal) (x1 x2 x3 : Int) (h : Heap) : Prop := gJ [.any, .int .i64, .int .i64, .int .i64] [x0, (.int .i64 x1), (.int .i64 x2), (.int .i64 x3)] h (s80l1_R F)
def s80l1_E (F : Nat → s80l1_T) (x0 : AVal) (x1 x2 x3 : Int) (h : Heap) : Prop := gJ [.any, .int .i64, .int .i64, .int .i64] [x0, (.int .i64 x1), (.int .i64 x2), (.int .i64 x3)] h (fun l h => ∃ n, s80l1_R (F n) l h)
theorem s80l1_go {F : s80l1_T} {x0 : AVal} {x1 x2 x3 : Int} {h : Heap} (H : F x0 x1 x2 x3 h) : s80l1_G F x0 x1 x2 x3 h := gJ_plain rfl H
theorem s80l1_in {F : Nat → s80l1_T} {x0 : AVal} {x1 x2 x3 : Int} {h : Heap} (n : Nat) (H : F n x0 x1 x2 x3 h) : s80l1_E F x0 x1 x2 x3 h := gJ_plain rfl ⟨n, H⟩

def s80l1 (Ψ : AVal → Heap → Prop) : Nat → s80l1_T
  | 0, _, _, _, _, _ => False
  | n1 + 1, s1, v1, t7, t8, h =>
    ifT (decide (t8 < t7)) (
      ixS 1 s1 t8 fun p =>
      ld1 h p fun v2 =>
      tInt .i64 v2 fun v3 =>
      ifT (v1 == v3) (
        retG (.int .i64 t8) h Ψ) (
        rg (t8 + 1) (
          s80l1_G (s80l1 Ψ n1) s1 v1 t7 (t8 + 1) h))) (
      retG (.int .i64 (-1)) h Ψ)

def s80 (Ψ : AVal → Heap → Prop) (s : AVal) (v : Int) (h : Heap) : Prop :=
  lenN s fun n =>
  s80l1_E (s80l1 Ψ) s v n 0 h

def s80_A (Ψ : AVal → Heap → Prop) : Ann :=
  .seq (rA 1)
  (.seq (.seq (rA 3)
  (.block (.loop [(0, .any), (1, .int .i64), (7, .int .i64), (8, .int .i64)] (fun n l h => s80l1_R (s80l1 Ψ n) l h) (fun L1 =>
  .seq (rA 1)
  (.seq (.cond (.leaf)
  (.leaf))
  (.seq (.block (.seq (rA 2)
  (.seq (rA 6)
  (.cond (.seq (rA 2)
  (.leaf))
  (.leaf)))))
  (rA 2)))))))
  (.seq (rA 1)
  (.leaf)))

theorem s80_ok {Ψ : AVal → Heap → Prop} {s : AVal} {v : Int} {h : Heap} (H : s80 Ψ s v h) : ACalls prog 80 [s, (.int .i64 v)] h Ψ :=
  calls_of_evF func80 (by kernel_rfl) (by kernel_rfl) (by kernel_rfl)
    (Eq.mpr (by as_aux_lemma => kernel_rfl : oblF prog f80 (s80_A Ψ) Ψ = (True ∧ (True ∧ (∀ (h : Heap) (x0 : AVal) (x1 x2 x3 : Int), ON (s80l1 Ψ 0 x0 x1 x2 x3 h)) ∧ ∀ n1 : Nat, (∀ (h : Heap) (x0 : AVal) (x1 x2 x3 : Int), OI (s80l1 Ψ (n1 + 1) x0 x1 x2 x3 h)) ∧ (True ∧ (True ∧ True) ∧ (True ∧ True ∧ (True ∧ True) ∧ True) ∧ True)) ∧ True ∧ True)) ⟨trivial, ⟨⟨trivial, ⟨fun _ _ _ _ _ H => H, fun _ => ⟨fun _ _ _ _ _ H => H, ⟨trivial, ⟨⟨trivial, trivial⟩, ⟨⟨trivial, ⟨trivial, ⟨⟨trivial, trivial⟩, trivial⟩⟩⟩, trivial⟩⟩⟩⟩⟩⟩, ⟨trivial, trivial⟩⟩⟩)
    (Eq.mpr (by as_aux_lemma => kernel_rfl : evF prog f80 (s80_A Ψ) Ψ [s, (.int .i64 v)] h = s80 Ψ s v h) H)

/- 82 slices.isNaN[int] -/
def s82 (Ψ : AVal → Heap → Prop) (x : Int) (h : Heap) : Prop :=
  retG (.bool (x != x)) h Ψ

def s82_A (Ψ : AVal → Heap → Prop) : Ann :=
  .seq (rA 1)
  (.seq (rA 4)
  (.leaf))

theorem s82_ok {Ψ : AVal → Heap → Prop} {x : Int} {h : Heap} (H : s82 Ψ x h) : ACalls prog 82 [(.int .i64 x)] h Ψ :=
  calls_of_evF func82 (by kernel_rfl) (by kernel_rfl) (by kernel_rfl)
    (Eq.mpr (by as_aux_lemma => kernel_rfl : oblF prog f82 (s82_A Ψ) Ψ = (True ∧ True ∧ True)) ⟨trivial, ⟨trivial, trivial⟩⟩)
    (Eq.mpr (by as_aux_lemma => kernel_rfl : evF prog f82 (s82_A Ψ) Ψ [(.int .i64 x)] h = s82 Ψ x h) H)

/- 86 cmp.isNaN[int] -/
def s86 (Ψ : AVal → Heap → Prop) (x : Int) (h : Heap) : Prop :=
  retG (.bool (x != x)) h Ψ

def s86_A (Ψ : AVal → Heap → Prop) : Ann :=
  .seq (rA 1)
  (.seq (rA 4)
  (.leaf))

theorem s86_ok {Ψ : AVal → Heap → Prop} {x : Int} {h : Heap} (H : s86 Ψ x h) : ACalls prog 86 [(.int .i64 x)] h Ψ :=
  calls_of_evF func86 (by kernel_rfl) (by kernel_rfl) (by kernel_rfl)
    (Eq.mpr (by as_aux_lemma => kernel_rfl : oblF prog f86 (s86_A Ψ) Ψ = (True ∧ True ∧ True)) ⟨trivial, ⟨trivial, trivial⟩⟩)
    (Eq.mpr (by as_aux_lemma => kernel_rfl : evF prog f86 (s86_A Ψ) Ψ [(.int .i64 x)] h = s86 Ψ x h) H)

/- 88 dictum/worlds.rising -/
abbrev s88l1_T := AVal → AVal → Int → Int → Heap → Prop
def s88l1_R (F : s88l1_T) (l : List AVal) (h : Heap) : Prop := J.cons l fun x0 l => J.cons l fun x1 l => J.cons l fun v l => J.int .i64 v fun x2 => J.cons l fun v l => J.int .i64 v fun x3 => J.nil l (F x0 x1 x2 x3 h)
def s88l1_G (F : s88l1_T) (x0 x1 : AVal) (x2 x3 : Int) (h : Heap) : Prop := gJ [.any, .any, .int .i64, .int .i64] [x0, x1, (.int .i64 x2), (.int .i64 x3)] h (s88l1_R F)
def s88l1_E (F : Nat → s88l1_T) (x0 x1 : AVal) (x2 x3 : Int) (h : Heap) : Prop := gJ [.any, .any, .int .i64, .int .i64] [x0, x1, (.int .i64 x2), (.int .i64 x3)] h (fun l h => ∃ n, s88l1_R (F n) l h)
theorem s88l1_go {F : s88l1_T} {x0 x1 : AVal} {x2 x3 : Int} {h : Heap} (H : F x0 x1 x2 x3 h) : s88l1_G F x0 x1 x2 x3 h := gJ_plain rfl H
theorem s88l1_in {F : Nat → s88l1_T} {x0 x1 : AVal} {x2 x3 : Int} {h : Heap} (n : Nat) (H : F n x0 x1 x2 x3 h) : s88l1_E F x0 x1 x2 x3 h := gJ_plain rfl ⟨n, H⟩

def s88c2 (Ψ : AVal → Heap → Prop) (L1 : s88l1_T) (l_2 t5_1 : AVal) (t6_1 t7_1 : Int) (t27 : Bool) (h : Heap) : Prop :=
  ifT t27 (
    retG (.bool false) h Ψ) (
    rg (t7_1 + 1) (
      L1 l_2 t5_1 t6_1 (t7_1 + 1) h))

def s88l1 (Ψ : AVal → Heap → Prop) : Nat → s88l1_T
  | 0, _, _, _, _, _ => False
  | n1 + 1, l_1, t5, t6, t7, h =>
    ifT (decide (t7 < t6)) (
      ixS 1 t5 t7 fun p =>
      ld1 h p fun v =>
      tStr v fun v1 =>
      callG prog 42 [(.str v1)] h fun v2 h_ =>
      tBool v2 fun v3 =>
      ifT (!v3) (
        s88c2 Ψ (s88l1_G (s88l1 Ψ n1)) l_1 t5 t6 t7 true h_) (
        ifT (decide (0 < t7)) (
          rg (t7 - 1) (
            ixS 1 l_1 (t7 - 1) fun p1 =>
            ld1 h_ p1 fun v4 =>
            tStr v4 fun v5 =>
            s88c2 Ψ (s88l1_G (s88l1 Ψ n1)) l_1 t5 t6 t7 (!strLt v5 v1) h_)) (
          s88c2 Ψ (s88l1_G (s88l1 Ψ n1)) l_1 t5 t6 t7 false h_))) (
      retG (.bool true) h Ψ)

def s88 (Ψ : AVal → Heap → Prop) (l_ : AVal) (h : Heap) : Prop :=
  lenN l_ fun n =>
  s88l1_E (s88l1 Ψ) l_ l_ n 0 h

def s88_A (Ψ : AVal → Heap → Prop) : Ann :=
  .seq (rA 1)
  (.seq (.seq (rA 3)
  (.block (.loop [(0, .any), (5, .any), (6, .int .i64), (7, .int .i64)] (fun n l h => s88l1_R (s88l1 Ψ n) l h) (fun L1 =>
  .seq (rA 1)
  (.seq (.cond (.leaf)
  (.leaf))
  (.seq (.block (.seq (rA 5)
  (.cut [(0, .any), (5, .any), (6, .int .i64), (7, .int .i64), (27, .bool)] (fun l h => J.cons l fun x0 l => J.cons l fun x1 l => J.cons l fun v l => J.int .i64 v fun x2 => J.cons l fun v l => J.int .i64 v fun x3 => J.cons l fun v l => J.bool v fun x4 => J.nil l (s88c2 Ψ (fun y0 y1 y2 y3 h => L1 [y0, y1, (.int .i64 y2), (.int .i64 y3)] h) x0 x1 x2 x3 x4 h)) (.reg [⟨none, [(0, false), (1, false), (2, false), (3, false)]⟩, ⟨some (15, false), [(4, false), (5, false), (6, false)]⟩, ⟨some (18, true), [(7, false), (8, false), (9, false), (10, false), (11, false), (12, false), (13, false)]⟩, ⟨some (15, false), [(14, false)]⟩, ⟨none, [(15, false)]⟩])
  (.cond (.seq (rA 1)
  (.leaf))
  (.leaf)))))
  (rA 2)))))))
  (.seq (rA 1)
  (.leaf)))

theorem s88_ok {Ψ : AVal → Heap → Prop} {l_ : AVal} {h : Heap} (H : s88 Ψ l_ h) : ACalls prog 88 [l_] h Ψ :=
  calls_of_evF func88 (by kernel_rfl) (by kernel_rfl) (by kernel_rfl)
    (Eq.mpr (by as_aux_lemma => kernel_rfl : oblF prog f88 (s88_A Ψ) Ψ = (True ∧ (True ∧ (∀ (h : Heap) (x0 x1 : AVal) (x2 x3 : Int), ON (s88l1 Ψ 0 x0 x1 x2 x3 h)) ∧ ∀ n1 : Nat, (∀ (h : Heap) (x0 x1 : AVal) (x2 x3 : Int), OI (s88l1 Ψ (n1 + 1) x0 x1 x2 x3 h)) ∧ (True ∧ (True ∧ True) ∧ (True ∧ (True) ∧ (∀ (h : Heap) (x0 x1 : AVal) (x2 x3 : Int) (x4 : Bool), OI (s88c2 Ψ (s88l1_G (s88l1 Ψ n1)) x0 x1 x2 x3 x4 h)) ∧ ((True ∧ True) ∧ True)) ∧ True)) ∧ True ∧ True)) ⟨trivial, ⟨⟨trivial, ⟨fun _ _ _ _ _ H => H, fun _ => ⟨fun _ _ _ _ _ H => H, ⟨trivial, ⟨⟨trivial, trivial⟩, ⟨⟨trivial, ⟨trivial, fun _ _ _ _ _ _ H => H, ⟨⟨trivial, trivial⟩, trivial⟩⟩⟩, trivial⟩⟩⟩⟩⟩⟩, ⟨trivial, trivial⟩⟩⟩)
    (Eq.mpr (by as_aux_lemma => kernel_rfl : evF prog f88 (s88_A Ψ) Ψ [l_] h = s88 Ψ l_ h) H)

/- 90 dictum/worlds.reckon$1 -/
def s90 (Ψ : AVal → Heap → Prop) (a : Int) (b : Int) (c0 : AVal) (h : Heap) : Prop :=
  ld1 h c0 fun v =>
  ixS 1 v a fun p =>
  ld1 h p fun v1 =>
  ixS 1 v1 b fun p1 =>
  ld1 h p1 fun v2 =>
  tBool v2 fun v3 =>
  retG (.bool v3) h Ψ

def s90_A (Ψ : AVal → Heap → Prop) : Ann :=
  .seq (rA 1)
  (.seq (rA 8)
  (.leaf))

theorem s90_ok {Ψ : AVal → Heap → Prop} {a : Int} {b : Int} {c0 : AVal} {h : Heap} (H : s90 Ψ a b c0 h) : ACalls prog 90 [(.int .i64 a), (.int .i64 b), c0] h Ψ :=
  calls_of_evF func90 (by kernel_rfl) (by kernel_rfl) (by kernel_rfl)
    (Eq.mpr (by as_aux_lemma => kernel_rfl : oblF prog f90 (s90_A Ψ) Ψ = (True ∧ True ∧ True)) ⟨trivial, ⟨trivial, trivial⟩⟩)
    (Eq.mpr (by as_aux_lemma => kernel_rfl : evF prog f90 (s90_A Ψ) Ψ [(.int .i64 a), (.int .i64 b), c0] h = s90 Ψ a b c0 h) H)

end Go.Proofs.Ytinficcdpggiaaa

/- The functions that the proof meets, each as a text that Lean has checked against the program. No condition. -/
import Derived.Test.YtinficcdpggiaaaM3
import Derived.Test.YtinficcdpggiaaaChecked
namespace Go.Proofs.Ytinficcdpggiaaa
open Go Go.Sym Go.Proofs.Try
set_option maxRecDepth 100000
set_option linter.unusedVariables false

/- 5 dictum/dictumlaw19.MorphKeeps -/
def s5c3 (Ψ : AVal → Heap → Prop) (w3 : Int) (m2 l_43 : AVal) (t111 : Bool) (h : Heap) : Prop :=
  ifT t111 (
    retG (.bool false) h Ψ) (
    ldN 2 h m2 fun l_44 =>
    tCons l_44 fun v46 l_45 =>
    tCons l_45 fun v47 l_46 =>
    tNil l_46 (
      callG prog 17 [(.agg [v46, v47]), (.int .i64 w3)] h fun v48 h_12 =>
      tTup v48 fun l_47 =>
      tCons l_47 fun v49 l_48 =>
      tCons l_48 fun v50 l_49 =>
      tCons l_49 fun v51 l_50 =>
      tInt .i64 v51 fun v52 =>
      tNil l_50 (
        tAgg v49 fun l_51 =>
        tCons l_51 fun v53 l_52 =>
        tCons l_52 fun v54 l_53 =>
        tNil l_53 (
          Sym.newRow 2 [(.agg [.nilsl, .nilsl])] h_12 fun r2 h_13 =>
          st false h_13 (.ptr r2 0 0) [v53, v54] fun h_14 =>
          ifT (v52 != 0) (
            callG prog 20 [] h_14 fun v55 h_15 =>
            tBool v55 fun v56 =>
            retG (.bool v56) h_15 Ψ) (
            ldN 2 h_14 (.ptr r2 0 0) fun l_54 =>
            tCons l_54 fun v57 l_55 =>
            tCons l_55 fun v58 l_56 =>
            tNil l_56 (
              ldN 2 h_14 m2 fun l_57 =>
              tCons l_57 fun v59 l_58 =>
              tCons l_58 fun v60 l_59 =>
              tNil l_59 (
                callG prog 25 [(.agg [v57, v58]), (.agg [v59, v60]), v50] h_14 fun v61 h_16 =>
                tTup v61 fun l_60 =>
                tCons l_60 fun v62 l_61 =>
                tBool v62 fun v63 =>
                tCons l_61 fun v64 l_62 =>
                tInt .i64 v64 fun v65 =>
                tNil l_62 (
                  ifT v63 (
                    ifT (v65 == 0) (
                      ldN 2 h_16 (.ptr r2 0 0) fun l_63 =>
                      tCons l_63 fun v66 l_64 =>
                      tCons l_64 fun v67 l_65 =>
                      tNil l_65 (
                        ldN 2 h_16 m2 fun l_66 =>
                        tCons l_66 fun v68 l_67 =>
                        tCons l_67 fun v69 l_68 =>
                        tNil l_68 (
                          callG prog 26 [(.agg [v66, v67]), (.agg [v68, v69]), v50, l_43] h_16 fun v70 h_17 =>
                          tBool v70 fun v71 =>
                          ifT v71 (
                            callG prog 20 [] h_17 fun v72 h_18 =>
                            tBool v72 fun v73 =>
                            retG (.bool v73) h_18 Ψ) (
                            retG (.bool false) h_17 Ψ)))) (
                      retG (.bool false) h_16 Ψ)) (
                    retG (.bool false) h_16 Ψ)))))))))

def s5c2 (Ψ : AVal → Heap → Prop) (w2 : Int) (m1 l_23 : AVal) (t80 : Bool) (h : Heap) : Prop :=
  ifT t80 (
    retG (.bool false) h Ψ) (
    ldN 2 h m1 fun l_24 =>
    tCons l_24 fun v26 l_25 =>
    tCons l_25 fun v27 l_26 =>
    tNil l_26 (
      callG prog 9 [(.agg [v26, v27]), (.int .i64 w2)] h fun v28 h_7 =>
      tTup v28 fun l_27 =>
      tCons l_27 fun v29 l_28 =>
      tCons l_28 fun v30 l_29 =>
      tCons l_29 fun v31 l_30 =>
      tInt .i64 v31 fun v32 =>
      tNil l_30 (
        tAgg v29 fun l_31 =>
        tCons l_31 fun v33 l_32 =>
        tCons l_32 fun v34 l_33 =>
        tNil l_33 (
          Sym.newRow 2 [(.agg [.nilsl, .nilsl])] h_7 fun r1 h_8 =>
          st false h_8 (.ptr r1 0 0) [v33, v34] fun h_9 =>
          ifT (v32 != 0) (
            callG prog 20 [] h_9 fun v35 h_10 =>
            tBool v35 fun v36 =>
            retG (.bool v36) h_10 Ψ) (
            ldN 2 h_9 (.ptr r1 0 0) fun l_34 =>
            tCons l_34 fun v37 l_35 =>
            tCons l_35 fun v38 l_36 =>
            tNil l_36 (
              ldN 2 h_9 m1 fun l_37 =>
              tCons l_37 fun v39 l_38 =>
              tCons l_38 fun v40 l_39 =>
              tNil l_39 (
                callG prog 25 [(.agg [v37, v38]), (.agg [v39, v40]), v30] h_9 fun v41 h_11 =>
                tTup v41 fun l_40 =>
                tCons l_40 fun v42 l_41 =>
                tBool v42 fun v43 =>
                tCons l_41 fun v44 l_42 =>
                tInt .i64 v44 fun v45 =>
                tNil l_42 (
                  ifT (!v43) (
                    s5c3 Ψ w2 m1 l_23 true h_11) (
                    ifT (v45 != 0) (
                      s5c3 Ψ w2 m1 l_23 true h_11) (
                      ldN 2 h_11 (.ptr r1 0 0) fun l_69 =>
                      tCons l_69 fun v74 l_70 =>
                      tCons l_70 fun v75 l_71 =>
                      tNil l_71 (
                        ldN 2 h_11 m1 fun l_72 =>
                        tCons l_72 fun v76 l_73 =>
                        tCons l_73 fun v77 l_74 =>
                        tNil l_74 (
                          callG prog 26 [(.agg [v74, v75]), (.agg [v76, v77]), v30, l_23] h_11 fun v78 h_19 =>
                          tBool v78 fun v79 =>
                          s5c3 Ψ w2 m1 l_23 (!v79) h_19))))))))))))

def s5c1 (Ψ : AVal → Heap → Prop) (w1 : Int) (m l_3 : AVal) (t50 : Bool) (h : Heap) : Prop :=
  ifT t50 (
    retG (.bool false) h Ψ) (
    ldN 2 h m fun l_4 =>
    tCons l_4 fun v6 l_5 =>
    tCons l_5 fun v7 l_6 =>
    tNil l_6 (
      callG prog 12 [(.agg [v6, v7])] h fun v8 h_2 =>
      tTup v8 fun l_7 =>
      tCons l_7 fun v9 l_8 =>
      tCons l_8 fun v10 l_9 =>
      tCons l_9 fun v11 l_10 =>
      tInt .i64 v11 fun v12 =>
      tNil l_10 (
        tAgg v9 fun l_11 =>
        tCons l_11 fun v13 l_12 =>
        tCons l_12 fun v14 l_13 =>
        tNil l_13 (
          Sym.newRow 2 [(.agg [.nilsl, .nilsl])] h_2 fun r h_3 =>
          st false h_3 (.ptr r 0 0) [v13, v14] fun h_4 =>
          ifT (v12 != 0) (
            callG prog 20 [] h_4 fun v15 h_5 =>
            tBool v15 fun v16 =>
            retG (.bool v16) h_5 Ψ) (
            ldN 2 h_4 m fun l_14 =>
            tCons l_14 fun v17 l_15 =>
            tCons l_15 fun v18 l_16 =>
            tNil l_16 (
              ldN 2 h_4 (.ptr r 0 0) fun l_17 =>
              tCons l_17 fun v19 l_18 =>
              tCons l_18 fun v20 l_19 =>
              tNil l_19 (
                callG prog 25 [(.agg [v17, v18]), (.agg [v19, v20]), v10] h_4 fun v21 h_6 =>
                tTup v21 fun l_20 =>
                tCons l_20 fun v22 l_21 =>
                tBool v22 fun v23 =>
                tCons l_21 fun v24 l_22 =>
                tInt .i64 v24 fun v25 =>
                tNil l_22 (
                  ifT (!v23) (
                    s5c2 Ψ w1 m l_3 true h_6) (
                    ifT (v25 != 0) (
                      s5c2 Ψ w1 m l_3 true h_6) (
                      ldN 2 h_6 m fun l_75 =>
                      tCons l_75 fun v80 l_76 =>
                      tCons l_76 fun v81 l_77 =>
                      tNil l_77 (
                        ldN 2 h_6 (.ptr r 0 0) fun l_78 =>
                        tCons l_78 fun v82 l_79 =>
                        tCons l_79 fun v83 l_80 =>
                        tNil l_80 (
                          callG prog 26 [(.agg [v80, v81]), (.agg [v82, v83]), v10, l_3] h_6 fun v84 h_20 =>
                          tBool v84 fun v85 =>
                          s5c2 Ψ w1 m l_3 (!v85) h_20))))))))))))

def s5 (Ψ : AVal → Heap → Prop) (m_Up : AVal) (m_Val : AVal) (n_Up : AVal) (n_Val : AVal) (f : AVal) (w : Int) (rows : AVal) (h : Heap) : Prop :=
  callG prog 24 [rows] h fun v h_ =>
  callG prog 25 [(.agg [m_Up, m_Val]), (.agg [n_Up, n_Val]), f] h_ fun v1 h_1 =>
  tTup v1 fun l_ =>
  tCons l_ fun v2 l_1 =>
  tBool v2 fun v3 =>
  tCons l_1 fun v4 l_2 =>
  tInt .i64 v4 fun v5 =>
  tNil l_2 (
    ifT (v5 == 0) (
      ifT v3 (
        callG prog 26 [(.agg [m_Up, m_Val]), (.agg [n_Up, n_Val]), f, v] h_1 fun v86 h_21 =>
        tBool v86 fun v87 =>
        s5c1 Ψ w (.lptr [m_Up, m_Val]) v (!v87) h_21) (
        s5c1 Ψ w (.lptr [m_Up, m_Val]) v false h_1)) (
      s5c1 Ψ w (.lptr [m_Up, m_Val]) v false h_1))

def s5_A (Ψ : AVal → Heap → Prop) : Ann :=
  .seq (.reg [⟨none, [(0, true), (1, true), (2, false)]⟩])
  (.seq (rA 3)
  (.seq (rA 9)
  (.seq (.cut [(3, .int .i64), (5, .any), (11, .any), (50, .bool)] (fun l h => J.cons l fun v l => J.int .i64 v fun x0 => J.cons l fun x1 l => J.cons l fun x2 l => J.cons l fun v l => J.bool v fun x3 => J.nil l (s5c1 Ψ x0 x1 x2 x3 h)) (.reg [⟨none, [(0, false), (1, false), (2, false)]⟩, ⟨some (40, true), [(3, false)]⟩, ⟨none, [(4, false), (5, false)]⟩, ⟨some (43, true), [(6, false), (7, false), (8, false), (9, false), (10, false), (11, false)]⟩, ⟨none, [(12, false)]⟩])
  (.cond (.seq (rA 1)
  (.leaf))
  (.leaf)))
  (.seq (rA 10)
  (.seq (.seq (rA 2)
  (.cond (.seq (rA 2)
  (.leaf))
  (.leaf)))
  (.seq (rA 9)
  (.seq (.cut [(3, .int .i64), (5, .any), (11, .any), (80, .bool)] (fun l h => J.cons l fun v l => J.int .i64 v fun x0 => J.cons l fun x1 l => J.cons l fun x2 l => J.cons l fun v l => J.bool v fun x3 => J.nil l (s5c2 Ψ x0 x1 x2 x3 h)) (.reg [⟨none, [(0, false), (1, false), (2, false)]⟩, ⟨some (69, false), [(3, false), (4, false)]⟩, ⟨none, [(5, false), (6, false)]⟩, ⟨some (73, false), [(7, false), (8, false), (9, false), (10, false), (11, false), (12, false)]⟩, ⟨none, [(13, false)]⟩])
  (.cond (.seq (rA 1)
  (.leaf))
  (.leaf)))
  (.seq (rA 11)
  (.seq (.seq (rA 2)
  (.cond (.seq (rA 2)
  (.leaf))
  (.leaf)))
  (.seq (rA 9)
  (.seq (.cut [(3, .int .i64), (5, .any), (11, .any), (111, .bool)] (fun l h => J.cons l fun v l => J.int .i64 v fun x0 => J.cons l fun x1 l => J.cons l fun x2 l => J.cons l fun v l => J.bool v fun x3 => J.nil l (s5c3 Ψ x0 x1 x2 x3 h)) (.reg [⟨none, [(0, false), (1, false), (2, false)]⟩, ⟨some (100, false), [(3, false), (4, false)]⟩, ⟨none, [(5, false), (6, false)]⟩, ⟨some (104, false), [(7, false), (8, false), (9, false), (10, false), (11, false), (12, false)]⟩, ⟨none, [(13, false)]⟩])
  (.cond (.seq (rA 1)
  (.leaf))
  (.leaf)))
  (.seq (rA 11)
  (.seq (.seq (rA 2)
  (.cond (.seq (rA 2)
  (.leaf))
  (.leaf)))
  (.seq (rA 9)
  (.seq (.reg [⟨none, [(0, false), (1, false)]⟩, ⟨some (130, true), [(2, false), (3, false)]⟩, ⟨none, [(4, false), (5, false)]⟩, ⟨some (134, true), [(6, false), (7, false), (8, false), (9, false), (10, false)]⟩, ⟨none, [(11, false), (12, false)]⟩, ⟨some (141, true), [(13, false)]⟩, ⟨none, [(14, false), (15, false)]⟩])
  (.leaf))))))))))))))))

theorem s5_ok {Ψ : AVal → Heap → Prop} {m_Up : AVal} {m_Val : AVal} {n_Up : AVal} {n_Val : AVal} {f : AVal} {w : Int} {rows : AVal} {h : Heap} (H : s5 Ψ m_Up m_Val n_Up n_Val f w rows h) : ACalls prog 5 [(.agg [m_Up, m_Val]), (.agg [n_Up, n_Val]), f, (.int .i64 w), rows] h Ψ :=
  calls_of_evF func5 (by kernel_rfl) (by kernel_rfl) (by kernel_rfl)
    (Eq.mpr (by as_aux_lemma => kernel_rfl : oblF prog f5 (s5_A Ψ) Ψ = (True ∧ True ∧ True ∧ ((True) ∧ (∀ (h : Heap) (x0 : Int) (x1 x2 : AVal) (x3 : Bool), OI (s5c1 Ψ x0 x1 x2 x3 h)) ∧ ((True ∧ True) ∧ True)) ∧ True ∧ (True ∧ (True ∧ True) ∧ True) ∧ True ∧ ((True) ∧ (∀ (h : Heap) (x0 : Int) (x1 x2 : AVal) (x3 : Bool), OI (s5c2 Ψ x0 x1 x2 x3 h)) ∧ ((True ∧ True) ∧ True)) ∧ True ∧ (True ∧ (True ∧ True) ∧ True) ∧ True ∧ ((True) ∧ (∀ (h : Heap) (x0 : Int) (x1 x2 : AVal) (x3 : Bool), OI (s5c3 Ψ x0 x1 x2 x3 h)) ∧ ((True ∧ True) ∧ True)) ∧ True ∧ (True ∧ (True ∧ True) ∧ True) ∧ True ∧ True ∧ True)) ⟨trivial, ⟨trivial, ⟨trivial, ⟨⟨trivial, fun _ _ _ _ _ H => H, ⟨⟨trivial, trivial⟩, trivial⟩⟩, ⟨trivial, ⟨⟨trivial, ⟨⟨trivial, trivial⟩, trivial⟩⟩, ⟨trivial, ⟨⟨trivial, fun _ _ _ _ _ H => H, ⟨⟨trivial, trivial⟩, trivial⟩⟩, ⟨trivial, ⟨⟨trivial, ⟨⟨trivial, trivial⟩, trivial⟩⟩, ⟨trivial, ⟨⟨trivial, fun _ _ _ _ _ H => H, ⟨⟨trivial, trivial⟩, trivial⟩⟩, ⟨trivial, ⟨⟨trivial, ⟨⟨trivial, trivial⟩, trivial⟩⟩, ⟨trivial, ⟨trivial, trivial⟩⟩⟩⟩⟩⟩⟩⟩⟩⟩⟩⟩⟩⟩⟩⟩)
    (Eq.mpr (by as_aux_lemma => kernel_rfl : evF prog f5 (s5_A Ψ) Ψ [(.agg [m_Up, m_Val]), (.agg [n_Up, n_Val]), f, (.int .i64 w), rows] h = s5 Ψ m_Up m_Val n_Up n_Val f w rows h) H)

/- 8 dictum/dictumref17.Copy -/
abbrev s8l1_T := AVal → AVal → AVal → Int → Heap → Prop
def s8l1_R (F : s8l1_T) (l : List AVal) (h : Heap) : Prop := J.cons l fun x0 l => J.cons l fun x1 l => J.cons l fun x2 l => J.cons l fun v l => J.int .i64 v fun x3 => J.nil l (F x0 x1 x2 x3 h)
def s8l1_G (F : s8l1_T) (x0 x1 x2 : AVal) (x3 : Int) (h : Heap) : Prop := gJ [.any, .any, .any, .int .i64] [x0, x1, x2, (.int .i64 x3)] h (s8l1_R F)
def s8l1_E (F : Nat → s8l1_T) (x0 x1 x2 : AVal) (x3 : Int) (h : Heap) : Prop := gJ [.any, .any, .any, .int .i64] [x0, x1, x2, (.int .i64 x3)] h (fun l h => ∃ n, s8l1_R (F n) l h)
theorem s8l1_go {F : s8l1_T} {x0 x1 x2 : AVal} {x3 : Int} {h : Heap} (H : F x0 x1 x2 x3 h) : s8l1_G F x0 x1 x2 x3 h := gJ_plain rfl H
theorem s8l1_in {F : Nat → s8l1_T} {x0 x1 x2 : AVal} {x3 : Int} {h : Heap} (n : Nat) (H : F n x0 x1 x2 x3 h) : s8l1_E F x0 x1 x2 x3 h := gJ_plain rfl ⟨n, H⟩

abbrev s8l2_T := AVal → AVal → AVal → Int → Heap → Prop
def s8l2_R (F : s8l2_T) (l : List AVal) (h : Heap) : Prop := J.cons l fun x0 l => J.cons l fun x1 l => J.cons l fun x2 l => J.cons l fun v l => J.int .i64 v fun x3 => J.nil l (F x0 x1 x2 x3 h)
def s8l2_G (F : s8l2_T) (x0 x1 x2 : AVal) (x3 : Int) (h : Heap) : Prop := gJ [.any, .any, .any, .int .i64] [x0, x1, x2, (.int .i64 x3)] h (s8l2_R F)
def s8l2_E (F : Nat → s8l2_T) (x0 x1 x2 : AVal) (x3 : Int) (h : Heap) : Prop := gJ [.any, .any, .any, .int .i64] [x0, x1, x2, (.int .i64 x3)] h (fun l h => ∃ n, s8l2_R (F n) l h)
theorem s8l2_go {F : s8l2_T} {x0 x1 x2 : AVal} {x3 : Int} {h : Heap} (H : F x0 x1 x2 x3 h) : s8l2_G F x0 x1 x2 x3 h := gJ_plain rfl H
theorem s8l2_in {F : Nat → s8l2_T} {x0 x1 x2 : AVal} {x3 : Int} {h : Heap} (n : Nat) (H : F n x0 x1 x2 x3 h) : s8l2_E F x0 x1 x2 x3 h := gJ_plain rfl ⟨n, H⟩

def s8l2 (Ψ : AVal → Heap → Prop) : Nat → s8l2_T
  | 0, _, _, _, _, _ => False
  | n2 + 1, m1, t2_1, out1, i1, h =>
    addOff m1 1 fun p5 =>
    ld1 h p5 fun v11 =>
    lenN v11 fun n3 =>
    ifT (decide (i1 < n3)) (
      addOff out1 1 fun p6 =>
      ld1 h p6 fun v12 =>
      addOff m1 1 fun p7 =>
      ld1 h p7 fun v13 =>
      ixS 1 v13 i1 fun p8 =>
      ld1 h p8 fun v14 =>
      Sym.newRow 1 [] h fun r3 h_7 =>
      (ld1 h_7 p8 fun v15 =>
      v15 = v14) ∧
      (ld1 h_7 p7 fun v16 =>
      v16 = v13) ∧
      (ld1 h_7 p6 fun v17 =>
      v17 = v12) ∧
      appC 1 16 h_7 (.sl r3 1 0 0) v14 fun v18 h_8 =>
      (ld1 h_8 p6 fun v19 =>
      v19 = v12) ∧
      chk (sc v18) (
        (ld1 h_8 p6 fun v20 =>
        v20 = v12) ∧
        appC 1 24 h_8 v12 (.lsl 1 [v18]) fun v21 h_9 =>
        addOff out1 1 fun p9 =>
        chk (sc v21) (
          st true h_9 p9 [v21] fun h_10 =>
          rg (i1 + 1) (
            s8l2_G (s8l2 Ψ n2) m1 t2_1 out1 (i1 + 1) h_10)))) (
      ldN 2 h out1 fun l_ =>
      tCons l_ fun v22 l_1 =>
      tCons l_1 fun v23 l_2 =>
      tNil l_2 (
        st false h t2_1 [v22, v23] fun h_11 =>
        ldN 2 h_11 t2_1 fun l_3 =>
        tCons l_3 fun v24 l_4 =>
        tCons l_4 fun v25 l_5 =>
        tNil l_5 (
          retG (.agg [v24, v25]) h_11 Ψ)))

def s8l1 (Ψ : AVal → Heap → Prop) : Nat → s8l1_T
  | 0, _, _, _, _, _ => False
  | n + 1, m, t2, out, i, h =>
    addOff m 0 fun p =>
    ld1 h p fun v =>
    lenN v fun n1 =>
    ifT (decide (i < n1)) (
      addOff out 0 fun p1 =>
      ld1 h p1 fun v1 =>
      addOff m 0 fun p2 =>
      ld1 h p2 fun v2 =>
      ixS 1 v2 i fun p3 =>
      ld1 h p3 fun v3 =>
      Sym.newRow 1 [] h fun r2 h_3 =>
      (ld1 h_3 p3 fun v4 =>
      v4 = v3) ∧
      (ld1 h_3 p2 fun v5 =>
      v5 = v2) ∧
      (ld1 h_3 p1 fun v6 =>
      v6 = v1) ∧
      appC 1 8 h_3 (.sl r2 1 0 0) v3 fun v7 h_4 =>
      (ld1 h_4 p1 fun v8 =>
      v8 = v1) ∧
      chk (sc v7) (
        (ld1 h_4 p1 fun v9 =>
        v9 = v1) ∧
        appC 1 24 h_4 v1 (.lsl 1 [v7]) fun v10 h_5 =>
        addOff out 0 fun p4 =>
        chk (sc v10) (
          st true h_5 p4 [v10] fun h_6 =>
          rg (i + 1) (
            s8l1_G (s8l1 Ψ n) m t2 out (i + 1) h_6)))) (
      s8l2_E (s8l2 Ψ) m t2 out 0 h)

def s8 (Ψ : AVal → Heap → Prop) (m_Up : AVal) (m_Val : AVal) (h : Heap) : Prop :=
  Sym.newRow 2 [(.agg [.nilsl, .nilsl])] h fun r h_ =>
  Sym.newRow 2 [(.agg [.nilsl, .nilsl])] h_ fun r1 h_1 =>
  st false h_1 (.ptr r1 0 0) [.nilsl, .nilsl] fun h_2 =>
  s8l1_E (s8l1 Ψ) (.lptr [m_Up, m_Val]) (.ptr r 0 0) (.ptr r1 0 0) 0 h_2

def s8_A (Ψ : AVal → Heap → Prop) : Ann :=
  .seq (.reg [⟨none, [(0, true), (1, false)]⟩])
  (.seq (rA 3)
  (.seq (.seq (rA 1)
  (.block (.loop [(1, .any), (2, .any), (3, .any), (4, .int .i64)] (fun n l h => s8l1_R (s8l1 Ψ n) l h) (fun L1 =>
  .seq (.seq (rA 5)
  (.cond (.leaf)
  (.leaf)))
  (.seq (.block (.draw [(0, false), (1, false), (3, false), (4, false), (5, false), (6, false), (7, false), (2, false), (8, false), (9, true), (10, false), (11, false), (12, false)] [0, 1, 0, 0, 8, 0, 56, 120, 252, 508, 1023, 2047, 4095]))
  (rA 3))))))
  (.seq (.seq (rA 1)
  (.block (.loop [(1, .any), (2, .any), (3, .any), (5, .int .i64)] (fun n l h => s8l2_R (s8l2 Ψ n) l h) (fun L2 =>
  .seq (.seq (rA 5)
  (.cond (.leaf)
  (.leaf)))
  (.seq (.block (.draw [(0, false), (1, false), (3, false), (4, false), (5, false), (6, false), (7, false), (2, false), (8, false), (9, true), (10, false), (11, false), (12, false)] [0, 1, 0, 0, 8, 0, 56, 120, 252, 508, 1023, 2047, 4095]))
  (rA 3))))))
  (.seq (rA 2)
  (.leaf)))))

theorem s8_ok {Ψ : AVal → Heap → Prop} {m_Up : AVal} {m_Val : AVal} {h : Heap} (H : s8 Ψ m_Up m_Val h) : ACalls prog 8 [(.agg [m_Up, m_Val])] h Ψ :=
  calls_of_evF func8 (by kernel_rfl) (by kernel_rfl) (by kernel_rfl)
    (Eq.mpr (by as_aux_lemma => kernel_rfl : oblF prog f8 (s8_A Ψ) Ψ = (True ∧ True ∧ (True ∧ (∀ (h : Heap) (x0 x1 x2 : AVal) (x3 : Int), ON (s8l1 Ψ 0 x0 x1 x2 x3 h)) ∧ ∀ n1 : Nat, (∀ (h : Heap) (x0 x1 x2 : AVal) (x3 : Int), OI (s8l1 Ψ (n1 + 1) x0 x1 x2 x3 h)) ∧ ((True ∧ True ∧ True) ∧ True ∧ True)) ∧ (True ∧ (∀ (h : Heap) (x0 x1 x2 : AVal) (x3 : Int), ON (s8l2 Ψ 0 x0 x1 x2 x3 h)) ∧ ∀ n2 : Nat, (∀ (h : Heap) (x0 x1 x2 : AVal) (x3 : Int), OI (s8l2 Ψ (n2 + 1) x0 x1 x2 x3 h)) ∧ ((True ∧ True ∧ True) ∧ True ∧ True)) ∧ True ∧ True)) ⟨trivial, ⟨trivial, ⟨⟨trivial, ⟨fun _ _ _ _ _ H => H, fun _ => ⟨fun _ _ _ _ _ H => H, ⟨⟨trivial, ⟨trivial, trivial⟩⟩, ⟨trivial, trivial⟩⟩⟩⟩⟩, ⟨⟨trivial, ⟨fun _ _ _ _ _ H => H, fun _ => ⟨fun _ _ _ _ _ H => H, ⟨⟨trivial, ⟨trivial, trivial⟩⟩, ⟨trivial, trivial⟩⟩⟩⟩⟩, ⟨trivial, trivial⟩⟩⟩⟩⟩)
    (Eq.mpr (by as_aux_lemma => kernel_rfl : evF prog f8 (s8_A Ψ) Ψ [(.agg [m_Up, m_Val])] h = s8 Ψ m_Up m_Val h) H)

/- 11 dictum/dictumlaw19.told -/
def s11 (Ψ : AVal → Heap → Prop) (m_Up : AVal) (m_Val : AVal) (l_ : AVal) (e : Int) (n_Up : AVal) (n_Val : AVal) (k : AVal) (f : Int) (h : Heap) : Prop :=
  callG prog 19 [(.agg [m_Up, m_Val]), (.agg [n_Up, n_Val])] h fun v h_ =>
  tBool v fun v1 =>
  ifT v1 (
    callG prog 16 [l_, k] h_ fun v2 h_1 =>
    tBool v2 fun v3 =>
    ifT v3 (
      retG (.bool (e == f)) h_1 Ψ) (
      retG (.bool false) h_1 Ψ)) (
    retG (.bool false) h_ Ψ)

def s11_A (Ψ : AVal → Heap → Prop) : Ann :=
  .seq (.reg [⟨none, [(0, true), (1, true), (2, false)]⟩])
  (.seq (.reg [⟨none, [(0, false), (1, false), (2, false), (3, false)]⟩, ⟨some (16, true), [(4, false), (5, false), (6, false)]⟩, ⟨none, [(7, false), (8, false)]⟩, ⟨some (21, true), [(9, false), (10, false), (11, false)]⟩, ⟨none, [(12, false), (13, false)]⟩])
  (.leaf))

theorem s11_ok {Ψ : AVal → Heap → Prop} {m_Up : AVal} {m_Val : AVal} {l_ : AVal} {e : Int} {n_Up : AVal} {n_Val : AVal} {k : AVal} {f : Int} {h : Heap} (H : s11 Ψ m_Up m_Val l_ e n_Up n_Val k f h) : ACalls prog 11 [(.agg [m_Up, m_Val]), l_, (.int .i64 e), (.agg [n_Up, n_Val]), k, (.int .i64 f)] h Ψ :=
  calls_of_evF func11 (by kernel_rfl) (by kernel_rfl) (by kernel_rfl)
    (Eq.mpr (by as_aux_lemma => kernel_rfl : oblF prog f11 (s11_A Ψ) Ψ = (True ∧ True ∧ True)) ⟨trivial, ⟨trivial, trivial⟩⟩)
    (Eq.mpr (by as_aux_lemma => kernel_rfl : evF prog f11 (s11_A Ψ) Ψ [(.agg [m_Up, m_Val]), l_, (.int .i64 e), (.agg [n_Up, n_Val]), k, (.int .i64 f)] h = s11 Ψ m_Up m_Val l_ e n_Up n_Val k f h) H)

/- 14 dictum/morph.Classes -/
def s14 (Ψ : AVal → Heap → Prop) (m_Up : AVal) (m_Val : AVal) (h : Heap) : Prop :=
  callG prog 28 [(.agg [m_Up, m_Val])] h fun v h_ =>
  tTup v fun l_ =>
  tCons l_ fun v1 l_1 =>
  tCons l_1 fun v2 l_2 =>
  tInt .i64 v2 fun v3 =>
  tNil l_2 (
    ifT (v3 != 0) (
      retG (.tuple [.nilsl, (.int .i64 v3)]) h_ Ψ) (
      callG prog 34 [(.agg [m_Up, m_Val]), v1] h_ fun v4 h_1 =>
      retG (.tuple [v4, (.int .i64 0)]) h_1 Ψ))

def s14_A (Ψ : AVal → Heap → Prop) : Ann :=
  .seq (.reg [⟨none, [(0, true), (1, false), (2, false)]⟩])
  (.seq (rA 7)
  (.seq (.seq (rA 2)
  (.cond (.seq (rA 3)
  (.leaf))
  (.leaf)))
  (.seq (rA 5)
  (.leaf))))

theorem s14_ok {Ψ : AVal → Heap → Prop} {m_Up : AVal} {m_Val : AVal} {h : Heap} (H : s14 Ψ m_Up m_Val h) : ACalls prog 14 [(.agg [m_Up, m_Val])] h Ψ :=
  calls_of_evF func14 (by kernel_rfl) (by kernel_rfl) (by kernel_rfl)
    (Eq.mpr (by as_aux_lemma => kernel_rfl : oblF prog f14 (s14_A Ψ) Ψ = (True ∧ True ∧ (True ∧ (True ∧ True) ∧ True) ∧ True ∧ True)) ⟨trivial, ⟨trivial, ⟨⟨trivial, ⟨⟨trivial, trivial⟩, trivial⟩⟩, ⟨trivial, trivial⟩⟩⟩⟩)
    (Eq.mpr (by as_aux_lemma => kernel_rfl : evF prog f14 (s14_A Ψ) Ψ [(.agg [m_Up, m_Val])] h = s14 Ψ m_Up m_Val h) H)

/- 17 dictum/morph.Unravel -/
abbrev s17l2_T := AVal → AVal → AVal → AVal → Int → Heap → Prop
def s17l2_R (F : s17l2_T) (l : List AVal) (h : Heap) : Prop := J.cons l fun x0 l => J.cons l fun x1 l => J.cons l fun x2 l => J.cons l fun x3 l => J.cons l fun v l => J.int .i64 v fun x4 => J.nil l (F x0 x1 x2 x3 x4 h)
def s17l2_G (F : s17l2_T) (x0 x1 x2 x3 : AVal) (x4 : Int) (h : Heap) : Prop := gJ [.any, .any, .any, .any, .int .i64] [x0, x1, x2, x3, (.int .i64 x4)] h (s17l2_R F)
def s17l2_E (F : Nat → s17l2_T) (x0 x1 x2 x3 : AVal) (x4 : Int) (h : Heap) : Prop := gJ [.any, .any, .any, .any, .int .i64] [x0, x1, x2, x3, (.int .i64 x4)] h (fun l h => ∃ n, s17l2_R (F n) l h)
theorem s17l2_go {F : s17l2_T} {x0 x1 x2 x3 : AVal} {x4 : Int} {h : Heap} (H : F x0 x1 x2 x3 x4 h) : s17l2_G F x0 x1 x2 x3 x4 h := gJ_plain rfl H
theorem s17l2_in {F : Nat → s17l2_T} {x0 x1 x2 x3 : AVal} {x4 : Int} {h : Heap} (n : Nat) (H : F n x0 x1 x2 x3 x4 h) : s17l2_E F x0 x1 x2 x3 x4 h := gJ_plain rfl ⟨n, H⟩

abbrev s17l3_T := AVal → AVal → AVal → AVal → Int → AVal → AVal → Int → Int → Heap → Prop
def s17l3_R (F : s17l3_T) (l : List AVal) (h : Heap) : Prop := J.cons l fun x0 l => J.cons l fun x1 l => J.cons l fun x2 l => J.cons l fun x3 l => J.cons l fun v l => J.int .i64 v fun x4 => J.cons l fun x5 l => J.cons l fun x6 l => J.cons l fun v l => J.int .i64 v fun x7 => J.cons l fun v l => J.int .i64 v fun x8 => J.nil l (F x0 x1 x2 x3 x4 x5 x6 x7 x8 h)
def s17l3_G (F : s17l3_T) (x0 x1 x2 x3 : AVal) (x4 : Int) (x5 x6 : AVal) (x7 x8 : Int) (h : Heap) : Prop := gJ [.any, .any, .any, .any, .int .i64, .any, .any, .int .i64, .int .i64] [x0, x1, x2, x3, (.int .i64 x4), x5, x6, (.int .i64 x7), (.int .i64 x8)] h (s17l3_R F)
def s17l3_E (F : Nat → s17l3_T) (x0 x1 x2 x3 : AVal) (x4 : Int) (x5 x6 : AVal) (x7 x8 : Int) (h : Heap) : Prop := gJ [.any, .any, .any, .any, .int .i64, .any, .any, .int .i64, .int .i64] [x0, x1, x2, x3, (.int .i64 x4), x5, x6, (.int .i64 x7), (.int .i64 x8)] h (fun l h => ∃ n, s17l3_R (F n) l h)
theorem s17l3_go {F : s17l3_T} {x0 x1 x2 x3 : AVal} {x4 : Int} {x5 x6 : AVal} {x7 x8 : Int} {h : Heap} (H : F x0 x1 x2 x3 x4 x5 x6 x7 x8 h) : s17l3_G F x0 x1 x2 x3 x4 x5 x6 x7 x8 h := gJ_plain rfl H
theorem s17l3_in {F : Nat → s17l3_T} {x0 x1 x2 x3 : AVal} {x4 : Int} {x5 x6 : AVal} {x7 x8 : Int} {h : Heap} (n : Nat) (H : F n x0 x1 x2 x3 x4 x5 x6 x7 x8 h) : s17l3_E F x0 x1 x2 x3 x4 x5 x6 x7 x8 h := gJ_plain rfl ⟨n, H⟩

def s17l3 (Ψ : AVal → Heap → Prop) (L2 : s17l2_T) : Nat → s17l3_T
  | 0, _, _, _, _, _, _, _, _, _, _ => False
  | n3 + 1, t4_2, tidy2, ends1, out1, i1, up, t49, t50, t51, h =>
    ifT (decide (t51 < t50)) (
      ixS 1 t49 t51 fun p3 =>
      ld1 h p3 fun v14 =>
      tInt .i64 v14 fun v15 =>
      lenN ends1 fun n4 =>
      ifT (decide (512 ≤ n4)) (
        st false h t4_2 [.nilsl, .nilsl] fun h_8 =>
        ldN 2 h_8 t4_2 fun l_12 =>
        tCons l_12 fun v16 l_13 =>
        tCons l_13 fun v17 l_14 =>
        tNil l_14 (
          retG (.tuple [(.agg [v16, v17]), .nilsl, (.int .i64 190)]) h_8 Ψ)) (
        lenN ends1 fun n5 =>
        appC 1 8 h up (.lsl 1 [(.int .i64 n5)]) fun v18 h_9 =>
        appC 1 8 h_9 ends1 (.lsl 1 [(.int .i64 v15)]) fun v19 h_10 =>
        rg (t51 + 1) (
          s17l3_G (s17l3 Ψ L2 n3) t4_2 tidy2 v19 out1 i1 v18 t49 t50 (t51 + 1) h_10))) (
      addOff out1 0 fun p4 =>
      ld1 h p4 fun v20 =>
      chk (sc up) (
        appC 1 24 h v20 (.lsl 1 [up]) fun v21 h_11 =>
        addOff out1 0 fun p5 =>
        chk (sc v21) (
          st true h_11 p5 [v21] fun h_12 =>
          addOff out1 1 fun p6 =>
          ld1 h_12 p6 fun v22 =>
          addOff tidy2 1 fun p7 =>
          ld1 h_12 p7 fun v23 =>
          ixS 1 ends1 i1 fun p8 =>
          ld1 h_12 p8 fun v24 =>
          tInt .i64 v24 fun v25 =>
          ixS 1 v23 v25 fun p9 =>
          ld1 h_12 p9 fun v26 =>
          callG prog 35 [v26] h_12 fun v27 h_13 =>
          (ld1 h_13 p6 fun v28 =>
          v28 = v22) ∧
          chk (sc v27) (
            (ld1 h_13 p6 fun v29 =>
            v29 = v22) ∧
            appC 1 24 h_13 v22 (.lsl 1 [v27]) fun v30 h_14 =>
            addOff out1 1 fun p10 =>
            chk (sc v30) (
              st true h_14 p10 [v30] fun h_15 =>
              rg (i1 + 1) (
                L2 t4_2 tidy2 ends1 out1 (i1 + 1) h_15))))))

def s17l2 (Ψ : AVal → Heap → Prop) : Nat → s17l2_T
  | 0, _, _, _, _, _, _ => False
  | n + 1, t4_1, tidy1, ends, out, i, h =>
    lenN ends fun n1 =>
    ifT (decide (i < n1)) (
      addOff tidy1 0 fun p =>
      ld1 h p fun v10 =>
      ixS 1 ends i fun p1 =>
      ld1 h p1 fun v11 =>
      tInt .i64 v11 fun v12 =>
      ixS 1 v10 v12 fun p2 =>
      ld1 h p2 fun v13 =>
      lenN v13 fun n2 =>
      s17l3_E (s17l3 Ψ (s17l2_G (s17l2 Ψ n))) t4_1 tidy1 ends out i .nilsl v13 n2 0 h) (
      ldN 2 h out fun l_15 =>
      tCons l_15 fun v31 l_16 =>
      tCons l_16 fun v32 l_17 =>
      tNil l_17 (
        st false h t4_1 [v31, v32] fun h_16 =>
        ldN 2 h_16 t4_1 fun l_18 =>
        tCons l_18 fun v33 l_19 =>
        tCons l_19 fun v34 l_20 =>
        tNil l_20 (
          retG (.tuple [(.agg [v33, v34]), ends, (.int .i64 0)]) h_16 Ψ)))

def s17c1 (Ψ : AVal → Heap → Prop) (w1 : Int) (t4 tidy : AVal) (t32 : Bool) (h : Heap) : Prop :=
  ifT t32 (
    st false h t4 [.nilsl, .nilsl] fun h_5 =>
    ldN 2 h_5 t4 fun l_9 =>
    tCons l_9 fun v8 l_10 =>
    tCons l_10 fun v9 l_11 =>
    tNil l_11 (
      retG (.tuple [(.agg [v8, v9]), .nilsl, (.int .i64 2)]) h_5 Ψ)) (
    Sym.newRow 1 [(.int .i64 w1)] h fun r2 h_6 =>
    Sym.newRow 2 [(.agg [.nilsl, .nilsl])] h_6 fun r3 h_7 =>
    s17l2_E (s17l2 Ψ) t4 tidy (.sl r2 1 0 1) (.ptr r3 0 0) 0 h_7)

def s17 (Ψ : AVal → Heap → Prop) (m_Up : AVal) (m_Val : AVal) (w : Int) (h : Heap) : Prop :=
  Sym.newRow 2 [(.agg [.nilsl, .nilsl])] h fun r h_ =>
  callG prog 39 [(.agg [m_Up, m_Val])] h_ fun v h_1 =>
  tTup v fun l_ =>
  tCons l_ fun v1 l_1 =>
  tCons l_1 fun v2 l_2 =>
  tInt .i64 v2 fun v3 =>
  tNil l_2 (
    tAgg v1 fun l_3 =>
    tCons l_3 fun v4 l_4 =>
    tCons l_4 fun v5 l_5 =>
    tNil l_5 (
      Sym.newRow 2 [(.agg [.nilsl, .nilsl])] h_1 fun r1 h_2 =>
      st false h_2 (.ptr r1 0 0) [v4, v5] fun h_3 =>
      ifT (v3 != 0) (
        st false h_3 (.ptr r 0 0) [.nilsl, .nilsl] fun h_4 =>
        ldN 2 h_4 (.ptr r 0 0) fun l_6 =>
        tCons l_6 fun v6 l_7 =>
        tCons l_7 fun v7 l_8 =>
        tNil l_8 (
          retG (.tuple [(.agg [v6, v7]), .nilsl, (.int .i64 v3)]) h_4 Ψ)) (
        ifT (decide (w < 0)) (
          s17c1 Ψ w (.ptr r 0 0) (.ptr r1 0 0) true h_3) (
          ld1 h_3 (.ptr r1 0 0) fun v35 =>
          lenN v35 fun n8 =>
          s17c1 Ψ w (.ptr r 0 0) (.ptr r1 0 0) (decide (n8 ≤ w)) h_3))))

def s17_A (Ψ : AVal → Heap → Prop) : Ann :=
  .seq (.reg [⟨none, [(0, true), (1, false), (2, false), (3, false)]⟩])
  (.seq (rA 8)
  (.seq (.seq (rA 2)
  (.cond (.seq (rA 5)
  (.leaf))
  (.leaf)))
  (.seq (.cut [(1, .int .i64), (4, .any), (7, .any), (32, .bool)] (fun l h => J.cons l fun v l => J.int .i64 v fun x0 => J.cons l fun x1 l => J.cons l fun x2 l => J.cons l fun v l => J.bool v fun x3 => J.nil l (s17c1 Ψ x0 x1 x2 x3 h)) (.reg [⟨none, [(0, false), (1, false), (2, false)]⟩, ⟨some (26, false), [(3, false), (4, false), (5, false), (6, false), (7, false)]⟩, ⟨none, [(8, false)]⟩])
  (.cond (.seq (rA 4)
  (.leaf))
  (.leaf)))
  (.seq (rA 3)
  (.seq (rA 1)
  (.seq (.seq (rA 1)
  (.block (.loop [(4, .any), (7, .any), (9, .any), (10, .any), (11, .int .i64)] (fun n l h => s17l2_R (s17l2 Ψ n) l h) (fun L2 =>
  .seq (.seq (rA 4)
  (.cond (.leaf)
  (.leaf)))
  (.seq (.block (.seq (rA 1)
  (.seq (.seq (.draw [(0, false), (1, false), (2, false), (3, false), (4, false), (5, false), (6, false), (7, false), (8, false), (9, false)] [0, 1, 0, 0, 12, 28, 63, 127, 255, 0])
  (.block (.loop [(4, .any), (7, .any), (9, .any), (10, .any), (11, .int .i64), (12, .any), (49, .any), (50, .int .i64), (51, .int .i64)] (fun n l h => s17l3_R (s17l3 Ψ (fun y0 y1 y2 y3 y4 h => L2 [y0, y1, y2, y3, (.int .i64 y4)] h) n) l h) (fun L3 =>
  .seq (rA 1)
  (.seq (.cond (.leaf)
  (.leaf))
  (.seq (.block (.seq (rA 3)
  (.seq (.seq (rA 3)
  (.cond (.seq (rA 4)
  (.leaf))
  (.leaf)))
  (.seq (.reg [⟨none, [(0, false), (1, false), (2, false), (3, true), (4, false), (5, false)]⟩])
  (.reg [⟨none, [(0, false), (1, false), (2, true), (3, false), (4, false)]⟩])))))
  (rA 2)))))))
  (.seq (.reg [⟨none, [(0, false), (1, false), (2, false), (3, true), (4, false), (5, false), (6, false)]⟩])
  (.draw [(0, false), (1, false), (2, false), (3, false), (4, false), (5, false), (6, false), (7, false), (8, false), (9, false), (10, false), (11, true), (12, false), (13, false), (14, false)] [0, 1, 0, 4, 0, 0, 48, 112, 252, 508, 1020, 2044, 4095, 8191, 16383])))))
  (rA 3))))))
  (.seq (rA 5)
  (.leaf))))))))

theorem s17_ok {Ψ : AVal → Heap → Prop} {m_Up : AVal} {m_Val : AVal} {w : Int} {h : Heap} (H : s17 Ψ m_Up m_Val w h) : ACalls prog 17 [(.agg [m_Up, m_Val]), (.int .i64 w)] h Ψ :=
  calls_of_evF func17 (by kernel_rfl) (by kernel_rfl) (by kernel_rfl)
    (Eq.mpr (by as_aux_lemma => kernel_rfl : oblF prog f17 (s17_A Ψ) Ψ = (True ∧ True ∧ (True ∧ (True ∧ True) ∧ True) ∧ ((True) ∧ (∀ (h : Heap) (x0 : Int) (x1 x2 : AVal) (x3 : Bool), OI (s17c1 Ψ x0 x1 x2 x3 h)) ∧ ((True ∧ True) ∧ True)) ∧ True ∧ True ∧ (True ∧ (∀ (h : Heap) (x0 x1 x2 x3 : AVal) (x4 : Int), ON (s17l2 Ψ 0 x0 x1 x2 x3 x4 h)) ∧ ∀ n2 : Nat, (∀ (h : Heap) (x0 x1 x2 x3 : AVal) (x4 : Int), OI (s17l2 Ψ (n2 + 1) x0 x1 x2 x3 x4 h)) ∧ ((True ∧ True ∧ True) ∧ (True ∧ (True ∧ (∀ (h : Heap) (x0 x1 x2 x3 : AVal) (x4 : Int) (x5 x6 : AVal) (x7 x8 : Int), ON (s17l3 Ψ (s17l2_G (s17l2 Ψ n2)) 0 x0 x1 x2 x3 x4 x5 x6 x7 x8 h)) ∧ ∀ n3 : Nat, (∀ (h : Heap) (x0 x1 x2 x3 : AVal) (x4 : Int) (x5 x6 : AVal) (x7 x8 : Int), OI (s17l3 Ψ (s17l2_G (s17l2 Ψ n2)) (n3 + 1) x0 x1 x2 x3 x4 x5 x6 x7 x8 h)) ∧ (True ∧ (True ∧ True) ∧ (True ∧ (True ∧ (True ∧ True) ∧ True) ∧ True ∧ True) ∧ True)) ∧ True ∧ True) ∧ True)) ∧ True ∧ True)) ⟨trivial, ⟨trivial, ⟨⟨trivial, ⟨⟨trivial, trivial⟩, trivial⟩⟩, ⟨⟨trivial, fun _ _ _ _ _ H => H, ⟨⟨trivial, trivial⟩, trivial⟩⟩, ⟨trivial, ⟨trivial, ⟨⟨trivial, ⟨fun _ _ _ _ _ _ H => H, fun _ => ⟨fun _ _ _ _ _ _ H => H, ⟨⟨trivial, ⟨trivial, trivial⟩⟩, ⟨⟨trivial, ⟨⟨trivial, ⟨fun _ _ _ _ _ _ _ _ _ _ H => H, fun _ => ⟨fun _ _ _ _ _ _ _ _ _ _ H => H, ⟨trivial, ⟨⟨trivial, trivial⟩, ⟨⟨trivial, ⟨⟨trivial, ⟨⟨trivial, trivial⟩, trivial⟩⟩, ⟨trivial, trivial⟩⟩⟩, trivial⟩⟩⟩⟩⟩⟩, ⟨trivial, trivial⟩⟩⟩, trivial⟩⟩⟩⟩⟩, ⟨trivial, trivial⟩⟩⟩⟩⟩⟩⟩⟩)
    (Eq.mpr (by as_aux_lemma => kernel_rfl : evF prog f17 (s17_A Ψ) Ψ [(.agg [m_Up, m_Val]), (.int .i64 w)] h = s17 Ψ m_Up m_Val w h) H)

/- 23 dictum/dictumref17.Names -/
abbrev s23l1_T := AVal → AVal → Int → Heap → Prop
def s23l1_R (F : s23l1_T) (l : List AVal) (h : Heap) : Prop := J.cons l fun x0 l => J.cons l fun x1 l => J.cons l fun v l => J.int .i64 v fun x2 => J.nil l (F x0 x1 x2 h)
def s23l1_G (F : s23l1_T) (x0 x1 : AVal) (x2 : Int) (h : Heap) : Prop := gJ [.any, .any, .int .i64] [x0, x1, (.int .i64 x2)] h (s23l1_R F)
def s23l1_E (F : Nat → s23l1_T) (x0 x1 : AVal) (x2 : Int) (h : Heap) : Prop := gJ [.any, .any, .int .i64] [x0, x1, (.int .i64 x2)] h (fun l h => ∃ n, s23l1_R (F n) l h)
theorem s23l1_go {F : s23l1_T} {x0 x1 : AVal} {x2 : Int} {h : Heap} (H : F x0 x1 x2 h) : s23l1_G F x0 x1 x2 h := gJ_plain rfl H
theorem s23l1_in {F : Nat → s23l1_T} {x0 x1 : AVal} {x2 : Int} {h : Heap} (n : Nat) (H : F n x0 x1 x2 h) : s23l1_E F x0 x1 x2 h := gJ_plain rfl ⟨n, H⟩

def s23l1 (Ψ : AVal → Heap → Prop) : Nat → s23l1_T
  | 0, _, _, _, _ => False
  | n2 + 1, a1, b1, i, h =>
    lenN a1 fun n3 =>
    ifT (decide (i < n3)) (
      ixS 1 a1 i fun p =>
      ld1 h p fun v =>
      tStr v fun v1 =>
      ixS 1 b1 i fun p1 =>
      ld1 h p1 fun v2 =>
      tStr v2 fun v3 =>
      ifT (!strEq v1 v3) (
        retG (.bool false) h Ψ) (
        rg (i + 1) (
          s23l1_G (s23l1 Ψ n2) a1 b1 (i + 1) h))) (
      retG (.bool true) h Ψ)

def s23 (Ψ : AVal → Heap → Prop) (a : AVal) (b : AVal) (h : Heap) : Prop :=
  lenN a fun n =>
  lenN b fun n1 =>
  ifT (n != n1) (
    retG (.bool false) h Ψ) (
    s23l1_E (s23l1 Ψ) a b 0 h)

def s23_A (Ψ : AVal → Heap → Prop) : Ann :=
  .seq (rA 1)
  (.seq (.seq (rA 5)
  (.cond (.seq (rA 1)
  (.leaf))
  (.leaf)))
  (.seq (.seq (rA 1)
  (.block (.loop [(0, .any), (1, .any), (5, .int .i64)] (fun n l h => s23l1_R (s23l1 Ψ n) l h) (fun L1 =>
  .seq (.seq (rA 4)
  (.cond (.leaf)
  (.leaf)))
  (.seq (.block (.seq (.draw [(0, false), (1, false), (2, false), (3, false), (4, false), (5, false), (6, false), (7, false), (8, false)] [0, 0, 3, 7, 0, 0, 48, 112, 255])
  (.cond (.seq (rA 1)
  (.leaf))
  (.leaf))))
  (rA 3))))))
  (.seq (rA 1)
  (.leaf))))

theorem s23_ok {Ψ : AVal → Heap → Prop} {a : AVal} {b : AVal} {h : Heap} (H : s23 Ψ a b h) : ACalls prog 23 [a, b] h Ψ :=
  calls_of_evF func23 (by kernel_rfl) (by kernel_rfl) (by kernel_rfl)
    (Eq.mpr (by as_aux_lemma => kernel_rfl : oblF prog f23 (s23_A Ψ) Ψ = (True ∧ (True ∧ (True ∧ True) ∧ True) ∧ (True ∧ (∀ (h : Heap) (x0 x1 : AVal) (x2 : Int), ON (s23l1 Ψ 0 x0 x1 x2 h)) ∧ ∀ n1 : Nat, (∀ (h : Heap) (x0 x1 : AVal) (x2 : Int), OI (s23l1 Ψ (n1 + 1) x0 x1 x2 h)) ∧ ((True ∧ True ∧ True) ∧ (True ∧ (True ∧ True) ∧ True) ∧ True)) ∧ True ∧ True)) ⟨trivial, ⟨⟨trivial, ⟨⟨trivial, trivial⟩, trivial⟩⟩, ⟨⟨trivial, ⟨fun _ _ _ _ H => H, fun _ => ⟨fun _ _ _ _ H => H, ⟨⟨trivial, ⟨trivial, trivial⟩⟩, ⟨⟨trivial, ⟨⟨trivial, trivial⟩, trivial⟩⟩, trivial⟩⟩⟩⟩⟩, ⟨trivial, trivial⟩⟩⟩⟩)
    (Eq.mpr (by as_aux_lemma => kernel_rfl : evF prog f23 (s23_A Ψ) Ψ [a, b] h = s23 Ψ a b h) H)

/- 25 dictum/morph.Bounded -/
abbrev s25l2_T := AVal → AVal → AVal → AVal → AVal → Int → Int → Heap → Prop
def s25l2_R (F : s25l2_T) (l : List AVal) (h : Heap) : Prop := J.cons l fun x0 l => J.cons l fun x1 l => J.cons l fun x2 l => J.cons l fun x3 l => J.cons l fun x4 l => J.cons l fun v l => J.int .i64 v fun x5 => J.cons l fun v l => J.int .i64 v fun x6 => J.nil l (F x0 x1 x2 x3 x4 x5 x6 h)
def s25l2_G (F : s25l2_T) (x0 x1 x2 x3 x4 : AVal) (x5 x6 : Int) (h : Heap) : Prop := gJ [.any, .any, .any, .any, .any, .int .i64, .int .i64] [x0, x1, x2, x3, x4, (.int .i64 x5), (.int .i64 x6)] h (s25l2_R F)
def s25l2_E (F : Nat → s25l2_T) (x0 x1 x2 x3 x4 : AVal) (x5 x6 : Int) (h : Heap) : Prop := gJ [.any, .any, .any, .any, .any, .int .i64, .int .i64] [x0, x1, x2, x3, x4, (.int .i64 x5), (.int .i64 x6)] h (fun l h => ∃ n, s25l2_R (F n) l h)
theorem s25l2_go {F : s25l2_T} {x0 x1 x2 x3 x4 : AVal} {x5 x6 : Int} {h : Heap} (H : F x0 x1 x2 x3 x4 x5 x6 h) : s25l2_G F x0 x1 x2 x3 x4 x5 x6 h := gJ_plain rfl H
theorem s25l2_in {F : Nat → s25l2_T} {x0 x1 x2 x3 x4 : AVal} {x5 x6 : Int} {h : Heap} (n : Nat) (H : F n x0 x1 x2 x3 x4 x5 x6 h) : s25l2_E F x0 x1 x2 x3 x4 x5 x6 h := gJ_plain rfl ⟨n, H⟩

abbrev s25l3_T := AVal → AVal → AVal → AVal → AVal → Int → AVal → Int → Int → AVal → Int → Int → Heap → Prop
def s25l3_R (F : s25l3_T) (l : List AVal) (h : Heap) : Prop := J.cons l fun x0 l => J.cons l fun x1 l => J.cons l fun x2 l => J.cons l fun x3 l => J.cons l fun x4 l => J.cons l fun v l => J.int .i64 v fun x5 => J.cons l fun x6 l => J.cons l fun v l => J.int .i64 v fun x7 => J.cons l fun v l => J.int .i64 v fun x8 => J.cons l fun x9 l => J.cons l fun v l => J.int .i64 v fun x10 => J.cons l fun v l => J.int .i64 v fun x11 => J.nil l (F x0 x1 x2 x3 x4 x5 x6 x7 x8 x9 x10 x11 h)
def s25l3_G (F : s25l3_T) (x0 x1 x2 x3 x4 : AVal) (x5 : Int) (x6 : AVal) (x7 x8 : Int) (x9 : AVal) (x10 x11 : Int) (h : Heap) : Prop := gJ [.any, .any, .any, .any, .any, .int .i64, .any, .int .i64, .int .i64, .any, .int .i64, .int .i64] [x0, x1, x2, x3, x4, (.int .i64 x5), x6, (.int .i64 x7), (.int .i64 x8), x9, (.int .i64 x10), (.int .i64 x11)] h (s25l3_R F)
def s25l3_E (F : Nat → s25l3_T) (x0 x1 x2 x3 x4 : AVal) (x5 : Int) (x6 : AVal) (x7 x8 : Int) (x9 : AVal) (x10 x11 : Int) (h : Heap) : Prop := gJ [.any, .any, .any, .any, .any, .int .i64, .any, .int .i64, .int .i64, .any, .int .i64, .int .i64] [x0, x1, x2, x3, x4, (.int .i64 x5), x6, (.int .i64 x7), (.int .i64 x8), x9, (.int .i64 x10), (.int .i64 x11)] h (fun l h => ∃ n, s25l3_R (F n) l h)
theorem s25l3_go {F : s25l3_T} {x0 x1 x2 x3 x4 : AVal} {x5 : Int} {x6 : AVal} {x7 x8 : Int} {x9 : AVal} {x10 x11 : Int} {h : Heap} (H : F x0 x1 x2 x3 x4 x5 x6 x7 x8 x9 x10 x11 h) : s25l3_G F x0 x1 x2 x3 x4 x5 x6 x7 x8 x9 x10 x11 h := gJ_plain rfl H
theorem s25l3_in {F : Nat → s25l3_T} {x0 x1 x2 x3 x4 : AVal} {x5 : Int} {x6 : AVal} {x7 x8 : Int} {x9 : AVal} {x10 x11 : Int} {h : Heap} (n : Nat) (H : F n x0 x1 x2 x3 x4 x5 x6 x7 x8 x9 x10 x11 h) : s25l3_E F x0 x1 x2 x3 x4 x5 x6 x7 x8 x9 x10 x11 h := gJ_plain rfl ⟨n, H⟩

def s25l3 (Ψ : AVal → Heap → Prop) (L2 : s25l2_T) : Nat → s25l3_T
  | 0, _, _, _, _, _, _, _, _, _, _, _, _, _ => False
  | n6 + 1, f3, m2, n5, o2, p8, a, hit, t42_1, t43_1, t65, t66, t67, h =>
    ifT (decide (t67 < t66)) (
      ixS 1 t65 t67 fun p9 =>
      ld1 h p9 fun v17 =>
      tInt .i64 v17 fun v18 =>
      ld1 h hit fun v19 =>
      ixS 1 f3 v18 fun p10 =>
      ld1 h p10 fun v20 =>
      tInt .i64 v20 fun v21 =>
      mapGet (.int .i64 0) h v19 (.int .i64 v21) fun v22 b =>
      tInt .i64 v22 fun v23 =>
      rg (v23 + 1) (
        mapPut h v19 (.int .i64 v21) (.int .i64 (v23 + 1)) fun h_8 =>
        ld1 h_8 p8 fun v24 =>
        ixS 1 f3 a fun p11 =>
        ld1 h_8 p11 fun v25 =>
        tInt .i64 v25 fun v26 =>
        ixS 1 v24 v26 fun p12 =>
        ld1 h_8 p12 fun v27 =>
        ixS 1 f3 v18 fun p13 =>
        ld1 h_8 p13 fun v28 =>
        tInt .i64 v28 fun v29 =>
        callG prog 54 [v27, (.int .i64 v29)] h_8 fun v30 h_9 =>
        tBool v30 fun v31 =>
        ifT (!v31) (
          retG (.tuple [(.bool false), (.int .i64 0)]) h_9 Ψ) (
          rg (t67 + 1) (
            s25l3_G (s25l3 Ψ L2 n6) f3 m2 n5 o2 p8 a hit t42_1 t43_1 t65 t66 (t67 + 1) h_9)))) (
      ld1 h p8 fun v32 =>
      ixS 1 f3 a fun p14 =>
      ld1 h p14 fun v33 =>
      tInt .i64 v33 fun v34 =>
      ixS 1 v32 v34 fun p15 =>
      ld1 h p15 fun v35 =>
      callG prog 51 [v35, (.func (.func 55) [] [hit])] h fun v36 h_10 =>
      tBool v36 fun v37 =>
      ifT v37 (
        retG (.tuple [(.bool false), (.int .i64 0)]) h_10 Ψ) (
        rg (t43_1 + 1) (
          L2 f3 m2 n5 o2 p8 t42_1 (t43_1 + 1) h_10)))

def s25l2 (Ψ : AVal → Heap → Prop) : Nat → s25l2_T
  | 0, _, _, _, _, _, _, _, _ => False
  | n3 + 1, f2, m1, n2, o1, p1, t42, t43, h =>
    ifT (decide (t43 < t42)) (
      addOff m1 1 fun p2 =>
      ld1 h p2 fun v8 =>
      ixS 1 v8 t43 fun p3 =>
      ld1 h p3 fun v9 =>
      addOff n2 1 fun p4 =>
      ld1 h p4 fun v10 =>
      ixS 1 f2 t43 fun p5 =>
      ld1 h p5 fun v11 =>
      tInt .i64 v11 fun v12 =>
      ixS 1 v10 v12 fun p6 =>
      ld1 h p6 fun v13 =>
      callG prog 53 [v9, v13] h fun v14 h_4 =>
      tBool v14 fun v15 =>
      ifT (!v15) (
        retG (.tuple [(.bool false), (.int .i64 0)]) h_4 Ψ) (
        newMap h_4 fun r1 h_5 =>
        Sym.newRow 1 [.nilmap] h_5 fun r2 h_6 =>
        st true h_6 (.ptr r2 0 0) [(.mapr r1)] fun h_7 =>
        ixS 1 o1 t43 fun p7 =>
        ld1 h_7 p7 fun v16 =>
        lenN v16 fun n4 =>
        s25l3_E (s25l3 Ψ (s25l2_G (s25l2 Ψ n3))) f2 m1 n2 o1 p1 t43 (.ptr r2 0 0) t42 t43 v16 n4 0 h_7)) (
      retG (.tuple [(.bool true), (.int .i64 0)]) h Ψ)

def s25c1 (Ψ : AVal → Heap → Prop) (f1 m n o p : AVal) (t40 : Bool) (h : Heap) : Prop :=
  ifT t40 (
    retG (.tuple [(.bool false), (.int .i64 190)]) h Ψ) (
    lenN o fun n1 =>
    s25l2_E (s25l2 Ψ) f1 m n o p n1 0 h)

def s25 (Ψ : AVal → Heap → Prop) (m_Up : AVal) (m_Val : AVal) (n_Up : AVal) (n_Val : AVal) (f : AVal) (h : Heap) : Prop :=
  callG prog 28 [(.agg [m_Up, m_Val])] h fun v h_ =>
  tTup v fun l_ =>
  tCons l_ fun v1 l_1 =>
  tCons l_1 fun v2 l_2 =>
  tInt .i64 v2 fun v3 =>
  tNil l_2 (
    ifT (v3 != 0) (
      retG (.tuple [(.bool false), (.int .i64 v3)]) h_ Ψ) (
      callG prog 28 [(.agg [n_Up, n_Val])] h_ fun v4 h_1 =>
      tTup v4 fun l_3 =>
      tCons l_3 fun v5 l_4 =>
      tCons l_4 fun v6 l_5 =>
      tInt .i64 v6 fun v7 =>
      tNil l_5 (
        Sym.newRow 1 [.nilsl] h_1 fun r h_2 =>
        chk (sc v5) (
          st true h_2 (.ptr r 0 0) [v5] fun h_3 =>
          ifT (v7 != 0) (
            retG (.tuple [(.bool false), (.int .i64 v7)]) h_3 Ψ) (
            lenN f fun n9 =>
            lenN v1 fun n10 =>
            ifT (n9 != n10) (
              s25c1 Ψ f (.lptr [m_Up, m_Val]) (.lptr [n_Up, n_Val]) v1 (.ptr r 0 0) true h_3) (
              callG prog 51 [f, (.func (.func 52) [] [(.ptr r 0 0)])] h_3 fun v38 h_11 =>
              tBool v38 fun v39 =>
              s25c1 Ψ f (.lptr [m_Up, m_Val]) (.lptr [n_Up, n_Val]) v1 (.ptr r 0 0) v39 h_11))))))

def s25_A (Ψ : AVal → Heap → Prop) : Ann :=
  .seq (.reg [⟨none, [(0, true), (1, true), (2, false), (3, false)]⟩])
  (.seq (rA 7)
  (.seq (.seq (rA 2)
  (.cond (.seq (rA 3)
  (.leaf))
  (.leaf)))
  (.seq (rA 8)
  (.seq (.seq (rA 2)
  (.cond (.seq (rA 3)
  (.leaf))
  (.leaf)))
  (.seq (.cut [(2, .any), (3, .any), (4, .any), (8, .any), (10, .any), (40, .bool)] (fun l h => J.cons l fun x0 l => J.cons l fun x1 l => J.cons l fun x2 l => J.cons l fun x3 l => J.cons l fun x4 l => J.cons l fun v l => J.bool v fun x5 => J.nil l (s25c1 Ψ x0 x1 x2 x3 x4 x5 h)) (.reg [⟨none, [(0, false), (1, false), (2, false), (3, false), (4, false), (5, false)]⟩, ⟨some (36, false), [(6, false), (7, false), (8, false)]⟩, ⟨none, [(9, false)]⟩])
  (.cond (.seq (rA 2)
  (.leaf))
  (.leaf)))
  (.seq (.seq (rA 3)
  (.block (.loop [(2, .any), (3, .any), (4, .any), (8, .any), (10, .any), (42, .int .i64), (43, .int .i64)] (fun n l h => s25l2_R (s25l2 Ψ n) l h) (fun L2 =>
  .seq (rA 1)
  (.seq (.cond (.leaf)
  (.leaf))
  (.seq (.block (.seq (rA 2)
  (.seq (.seq (.draw [(0, false), (1, false), (2, false), (3, false), (4, false), (5, false), (6, false), (7, false), (8, false), (9, false), (10, false), (11, false), (12, false), (13, false), (14, false)] [0, 1, 0, 7, 15, 0, 32, 0, 0, 384, 896, 2016, 4064, 8191, 16383])
  (.cond (.seq (rA 2)
  (.leaf))
  (.leaf)))
  (.seq (rA 3)
  (.seq (.seq (rA 6)
  (.block (.loop [(2, .any), (3, .any), (4, .any), (8, .any), (10, .any), (11, .int .i64), (12, .any), (42, .int .i64), (43, .int .i64), (65, .any), (66, .int .i64), (67, .int .i64)] (fun n l h => s25l3_R (s25l3 Ψ (fun y0 y1 y2 y3 y4 y5 y6 h => L2 [y0, y1, y2, y3, y4, (.int .i64 y5), (.int .i64 y6)] h) n) l h) (fun L3 =>
  .seq (rA 1)
  (.seq (.cond (.leaf)
  (.leaf))
  (.seq (.block (.seq (rA 3)
  (.seq (.draw [(0, false), (1, false), (2, false), (3, false), (4, false), (5, false), (6, false), (7, false)] [0, 0, 0, 6, 14, 31, 63, 127])
  (.seq (.draw [(0, false), (1, false), (2, false), (3, false), (4, false), (5, false), (6, false), (7, false), (8, false), (9, false), (10, false), (11, false), (12, false)] [0, 0, 0, 6, 14, 31, 63, 0, 0, 384, 896, 2047, 4095])
  (.cond (.seq (rA 2)
  (.leaf))
  (.leaf))))))
  (rA 2)))))))
  (.seq (.draw [(0, false), (1, false), (2, false), (3, false), (4, false), (5, false), (6, false), (7, false), (8, false)] [0, 0, 0, 6, 14, 31, 63, 0, 255])
  (.cond (.seq (rA 2)
  (.leaf))
  (.leaf))))))))
  (rA 2)))))))
  (.seq (rA 2)
  (.leaf))))))))

theorem s25_ok {Ψ : AVal → Heap → Prop} {m_Up : AVal} {m_Val : AVal} {n_Up : AVal} {n_Val : AVal} {f : AVal} {h : Heap} (H : s25 Ψ m_Up m_Val n_Up n_Val f h) : ACalls prog 25 [(.agg [m_Up, m_Val]), (.agg [n_Up, n_Val]), f] h Ψ :=
  calls_of_evF func25 (by kernel_rfl) (by kernel_rfl) (by kernel_rfl)
    (Eq.mpr (by as_aux_lemma => kernel_rfl : oblF prog f25 (s25_A Ψ) Ψ = (True ∧ True ∧ (True ∧ (True ∧ True) ∧ True) ∧ True ∧ (True ∧ (True ∧ True) ∧ True) ∧ ((True) ∧ (∀ (h : Heap) (x0 x1 x2 x3 x4 : AVal) (x5 : Bool), OI (s25c1 Ψ x0 x1 x2 x3 x4 x5 h)) ∧ ((True ∧ True) ∧ True)) ∧ (True ∧ (∀ (h : Heap) (x0 x1 x2 x3 x4 : AVal) (x5 x6 : Int), ON (s25l2 Ψ 0 x0 x1 x2 x3 x4 x5 x6 h)) ∧ ∀ n2 : Nat, (∀ (h : Heap) (x0 x1 x2 x3 x4 : AVal) (x5 x6 : Int), OI (s25l2 Ψ (n2 + 1) x0 x1 x2 x3 x4 x5 x6 h)) ∧ (True ∧ (True ∧ True) ∧ (True ∧ (True ∧ (True ∧ True) ∧ True) ∧ True ∧ (True ∧ (∀ (h : Heap) (x0 x1 x2 x3 x4 : AVal) (x5 : Int) (x6 : AVal) (x7 x8 : Int) (x9 : AVal) (x10 x11 : Int), ON (s25l3 Ψ (s25l2_G (s25l2 Ψ n2)) 0 x0 x1 x2 x3 x4 x5 x6 x7 x8 x9 x10 x11 h)) ∧ ∀ n3 : Nat, (∀ (h : Heap) (x0 x1 x2 x3 x4 : AVal) (x5 : Int) (x6 : AVal) (x7 x8 : Int) (x9 : AVal) (x10 x11 : Int), OI (s25l3 Ψ (s25l2_G (s25l2 Ψ n2)) (n3 + 1) x0 x1 x2 x3 x4 x5 x6 x7 x8 x9 x10 x11 h)) ∧ (True ∧ (True ∧ True) ∧ (True ∧ True ∧ True ∧ (True ∧ True) ∧ True) ∧ True)) ∧ True ∧ (True ∧ True) ∧ True) ∧ True)) ∧ True ∧ True)) ⟨trivial, ⟨trivial, ⟨⟨trivial, ⟨⟨trivial, trivial⟩, trivial⟩⟩, ⟨trivial, ⟨⟨trivial, ⟨⟨trivial, trivial⟩, trivial⟩⟩, ⟨⟨trivial, fun _ _ _ _ _ _ _ H => H, ⟨⟨trivial, trivial⟩, trivial⟩⟩, ⟨⟨trivial, ⟨fun _ _ _ _ _ _ _ _ H => H, fun _ => ⟨fun _ _ _ _ _ _ _ _ H => H, ⟨trivial, ⟨⟨trivial, trivial⟩, ⟨⟨trivial, ⟨⟨trivial, ⟨⟨trivial, trivial⟩, trivial⟩⟩, ⟨trivial, ⟨⟨trivial, ⟨fun _ _ _ _ _ _ _ _ _ _ _ _ _ H => H, fun _ => ⟨fun _ _ _ _ _ _ _ _ _ _ _ _ _ H => H, ⟨trivial, ⟨⟨trivial, trivial⟩, ⟨⟨trivial, ⟨trivial, ⟨trivial, ⟨⟨trivial, trivial⟩, trivial⟩⟩⟩⟩, trivial⟩⟩⟩⟩⟩⟩, ⟨trivial, ⟨⟨trivial, trivial⟩, trivial⟩⟩⟩⟩⟩⟩, trivial⟩⟩⟩⟩⟩⟩, ⟨trivial, trivial⟩⟩⟩⟩⟩⟩⟩⟩)
    (Eq.mpr (by as_aux_lemma => kernel_rfl : evF prog f25 (s25_A Ψ) Ψ [(.agg [m_Up, m_Val]), (.agg [n_Up, n_Val]), f] h = s25 Ψ m_Up m_Val n_Up n_Val f h) H)

/- 27 dictum/dictumref17.Root -/
abbrev s27l1_T := AVal → Int → Heap → Prop
def s27l1_R (F : s27l1_T) (l : List AVal) (h : Heap) : Prop := J.cons l fun x0 l => J.cons l fun v l => J.int .i64 v fun x1 => J.nil l (F x0 x1 h)
def s27l1_G (F : s27l1_T) (x0 : AVal) (x1 : Int) (h : Heap) : Prop := gJ [.any, .int .i64] [x0, (.int .i64 x1)] h (s27l1_R F)
def s27l1_E (F : Nat → s27l1_T) (x0 : AVal) (x1 : Int) (h : Heap) : Prop := gJ [.any, .int .i64] [x0, (.int .i64 x1)] h (fun l h => ∃ n, s27l1_R (F n) l h)
theorem s27l1_go {F : s27l1_T} {x0 : AVal} {x1 : Int} {h : Heap} (H : F x0 x1 h) : s27l1_G F x0 x1 h := gJ_plain rfl H
theorem s27l1_in {F : Nat → s27l1_T} {x0 : AVal} {x1 : Int} {h : Heap} (n : Nat) (H : F n x0 x1 h) : s27l1_E F x0 x1 h := gJ_plain rfl ⟨n, H⟩

abbrev s27l2_T := AVal → Int → Bool → Int → Heap → Prop
def s27l2_R (F : s27l2_T) (l : List AVal) (h : Heap) : Prop := J.cons l fun x0 l => J.cons l fun v l => J.int .i64 v fun x1 => J.cons l fun v l => J.bool v fun x2 => J.cons l fun v l => J.int .i64 v fun x3 => J.nil l (F x0 x1 x2 x3 h)
def s27l2_G (F : s27l2_T) (x0 : AVal) (x1 : Int) (x2 : Bool) (x3 : Int) (h : Heap) : Prop := gJ [.any, .int .i64, .bool, .int .i64] [x0, (.int .i64 x1), (.bool x2), (.int .i64 x3)] h (s27l2_R F)
def s27l2_E (F : Nat → s27l2_T) (x0 : AVal) (x1 : Int) (x2 : Bool) (x3 : Int) (h : Heap) : Prop := gJ [.any, .int .i64, .bool, .int .i64] [x0, (.int .i64 x1), (.bool x2), (.int .i64 x3)] h (fun l h => ∃ n, s27l2_R (F n) l h)
theorem s27l2_go {F : s27l2_T} {x0 : AVal} {x1 : Int} {x2 : Bool} {x3 : Int} {h : Heap} (H : F x0 x1 x2 x3 h) : s27l2_G F x0 x1 x2 x3 h := gJ_plain rfl H
theorem s27l2_in {F : Nat → s27l2_T} {x0 : AVal} {x1 : Int} {x2 : Bool} {x3 : Int} {h : Heap} (n : Nat) (H : F n x0 x1 x2 x3 h) : s27l2_E F x0 x1 x2 x3 h := gJ_plain rfl ⟨n, H⟩

def s27c3 (Ψ : AVal → Heap → Prop) (L1 : s27l1_T) (L2 : s27l2_T) (o2 : AVal) (a2 : Int) (all1 : Bool) (b1 : Int) (h : Heap) : Prop :=
  rg (b1 + 1) (
    L2 o2 a2 all1 (b1 + 1) h)

def s27l2 (Ψ : AVal → Heap → Prop) (L1 : s27l1_T) : Nat → s27l2_T
  | 0, _, _, _, _, _ => False
  | n2 + 1, o1, a1, all, b, h =>
    lenN o1 fun n3 =>
    ifT (decide (b < n3)) (
      ifT all (
        ixS 1 o1 a1 fun p =>
        ld1 h p fun v4 =>
        ixS 1 v4 b fun p1 =>
        ld1 h p1 fun v5 =>
        tBool v5 fun v6 =>
        s27c3 Ψ L1 (s27l2_G (s27l2 Ψ L1 n2)) o1 a1 v6 b h) (
        s27c3 Ψ L1 (s27l2_G (s27l2 Ψ L1 n2)) o1 a1 false b h)) (
      ifT all (
        retG (.tuple [(.int .i64 a1), (.bool true)]) h Ψ) (
        rg (a1 + 1) (
          L1 o1 (a1 + 1) h)))

def s27l1 (Ψ : AVal → Heap → Prop) : Nat → s27l1_T
  | 0, _, _, _ => False
  | n + 1, o, a, h =>
    lenN o fun n1 =>
    ifT (decide (a < n1)) (
      s27l2_E (s27l2 Ψ (s27l1_G (s27l1 Ψ n))) o a true 0 h) (
      retG (.tuple [(.int .i64 0), (.bool false)]) h Ψ)

def s27 (Ψ : AVal → Heap → Prop) (m_Up : AVal) (m_Val : AVal) (h : Heap) : Prop :=
  callG prog 31 [(.agg [m_Up, m_Val])] h fun v h_ =>
  tTup v fun l_ =>
  tCons l_ fun v1 l_1 =>
  tCons l_1 fun v2 l_2 =>
  tBool v2 fun v3 =>
  tNil l_2 (
    ifT (!v3) (
      retG (.tuple [(.int .i64 0), (.bool false)]) h_ Ψ) (
      s27l1_E (s27l1 Ψ) v1 0 h_))

def s27_A (Ψ : AVal → Heap → Prop) : Ann :=
  .seq (.reg [⟨none, [(0, true), (1, false), (2, false)]⟩])
  (.seq (rA 7)
  (.seq (.seq (rA 2)
  (.cond (.seq (rA 2)
  (.leaf))
  (.leaf)))
  (.seq (.seq (rA 1)
  (.block (.loop [(4, .any), (6, .int .i64)] (fun n l h => s27l1_R (s27l1 Ψ n) l h) (fun L1 =>
  .seq (.seq (rA 4)
  (.cond (.leaf)
  (.leaf)))
  (.seq (.block (.seq (rA 1)
  (.seq (.seq (rA 1)
  (.block (.loop [(4, .any), (6, .int .i64), (7, .bool), (8, .int .i64)] (fun n l h => s27l2_R (s27l2 Ψ (fun y0 y1 h => L1 [y0, (.int .i64 y1)] h) n) l h) (fun L2 =>
  .seq (.seq (rA 4)
  (.cond (.leaf)
  (.leaf)))
  (.cut [(4, .any), (6, .int .i64), (7, .bool), (8, .int .i64)] (fun l h => J.cons l fun x0 l => J.cons l fun v l => J.int .i64 v fun x1 => J.cons l fun v l => J.bool v fun x2 => J.cons l fun v l => J.int .i64 v fun x3 => J.nil l (s27c3 Ψ (fun y0 y1 h => L1 [y0, (.int .i64 y1)] h) (fun y0 y1 y2 y3 h => L2 [y0, (.int .i64 y1), (.bool y2), (.int .i64 y3)] h) x0 x1 x2 x3 h)) (.block (.reg [⟨none, [(0, false), (1, false)]⟩, ⟨some (29, true), [(2, false), (3, false), (4, false), (5, false), (6, false), (7, false), (8, false)]⟩, ⟨none, [(9, false), (10, false)]⟩]))
  (rA 3))))))
  (.seq (rA 1)
  (.cond (.seq (rA 3)
  (.leaf))
  (.leaf))))))
  (rA 3))))))
  (.seq (rA 2)
  (.leaf)))))

theorem s27_ok {Ψ : AVal → Heap → Prop} {m_Up : AVal} {m_Val : AVal} {h : Heap} (H : s27 Ψ m_Up m_Val h) : ACalls prog 27 [(.agg [m_Up, m_Val])] h Ψ :=
  calls_of_evF func27 (by kernel_rfl) (by kernel_rfl) (by kernel_rfl)
    (Eq.mpr (by as_aux_lemma => kernel_rfl : oblF prog f27 (s27_A Ψ) Ψ = (True ∧ True ∧ (True ∧ (True ∧ True) ∧ True) ∧ (True ∧ (∀ (h : Heap) (x0 : AVal) (x1 : Int), ON (s27l1 Ψ 0 x0 x1 h)) ∧ ∀ n1 : Nat, (∀ (h : Heap) (x0 : AVal) (x1 : Int), OI (s27l1 Ψ (n1 + 1) x0 x1 h)) ∧ ((True ∧ True ∧ True) ∧ (True ∧ (True ∧ (∀ (h : Heap) (x0 : AVal) (x1 : Int) (x2 : Bool) (x3 : Int), ON (s27l2 Ψ (s27l1_G (s27l1 Ψ n1)) 0 x0 x1 x2 x3 h)) ∧ ∀ n2 : Nat, (∀ (h : Heap) (x0 : AVal) (x1 : Int) (x2 : Bool) (x3 : Int), OI (s27l2 Ψ (s27l1_G (s27l1 Ψ n1)) (n2 + 1) x0 x1 x2 x3 h)) ∧ ((True ∧ True ∧ True) ∧ (True) ∧ (∀ (h : Heap) (x0 : AVal) (x1 : Int) (x2 : Bool) (x3 : Int), OI (s27c3 Ψ (s27l1_G (s27l1 Ψ n1)) (s27l2_G (s27l2 Ψ (s27l1_G (s27l1 Ψ n1)) n2)) x0 x1 x2 x3 h)) ∧ (True))) ∧ True ∧ (True ∧ True) ∧ True) ∧ True)) ∧ True ∧ True)) ⟨trivial, ⟨trivial, ⟨⟨trivial, ⟨⟨trivial, trivial⟩, trivial⟩⟩, ⟨⟨trivial, ⟨fun _ _ _ H => H, fun _ => ⟨fun _ _ _ H => H, ⟨⟨trivial, ⟨trivial, trivial⟩⟩, ⟨⟨trivial, ⟨⟨trivial, ⟨fun _ _ _ _ _ H => H, fun _ => ⟨fun _ _ _ _ _ H => H, ⟨⟨trivial, ⟨trivial, trivial⟩⟩, ⟨trivial, fun _ _ _ _ _ H => H, trivial⟩⟩⟩⟩⟩, ⟨trivial, ⟨⟨trivial, trivial⟩, trivial⟩⟩⟩⟩, trivial⟩⟩⟩⟩⟩, ⟨trivial, trivial⟩⟩⟩⟩⟩)
    (Eq.mpr (by as_aux_lemma => kernel_rfl : evF prog f27 (s27_A Ψ) Ψ [(.agg [m_Up, m_Val])] h = s27 Ψ m_Up m_Val h) H)

/- 29 slices.Clone[[]int,int] -/
def s29 (Ψ : AVal → Heap → Prop) (s : AVal) (h : Heap) : Prop :=
  nilS s fun b =>
  ifT b (
    retG .nilsl h Ψ) (
    Sym.newRow 1 [] h fun r h_ =>
    appC 1 8 h_ (.sl r 1 0 0) s fun v h_1 =>
    retG v h_1 Ψ)

def s29_A (Ψ : AVal → Heap → Prop) : Ann :=
  .seq (rA 1)
  (.seq (.seq (rA 2)
  (.cond (.seq (rA 1)
  (.leaf))
  (.leaf)))
  (.seq (rA 4)
  (.leaf)))

theorem s29_ok {Ψ : AVal → Heap → Prop} {s : AVal} {h : Heap} (H : s29 Ψ s h) : ACalls prog 29 [s] h Ψ :=
  calls_of_evF func29 (by kernel_rfl) (by kernel_rfl) (by kernel_rfl)
    (Eq.mpr (by as_aux_lemma => kernel_rfl : oblF prog f29 (s29_A Ψ) Ψ = (True ∧ (True ∧ (True ∧ True) ∧ True) ∧ True ∧ True)) ⟨trivial, ⟨⟨trivial, ⟨⟨trivial, trivial⟩, trivial⟩⟩, ⟨trivial, trivial⟩⟩⟩)
    (Eq.mpr (by as_aux_lemma => kernel_rfl : evF prog f29 (s29_A Ψ) Ψ [s] h = s29 Ψ s h) H)

/- 31 dictum/dictumref17.Right -/
abbrev s31l2_T := AVal → Int → AVal → Int → Heap → Prop
def s31l2_R (F : s31l2_T) (l : List AVal) (h : Heap) : Prop := J.cons l fun x0 l => J.cons l fun v l => J.int .i64 v fun x1 => J.cons l fun x2 l => J.cons l fun v l => J.int .i64 v fun x3 => J.nil l (F x0 x1 x2 x3 h)
def s31l2_G (F : s31l2_T) (x0 : AVal) (x1 : Int) (x2 : AVal) (x3 : Int) (h : Heap) : Prop := gJ [.any, .int .i64, .any, .int .i64] [x0, (.int .i64 x1), x2, (.int .i64 x3)] h (s31l2_R F)
def s31l2_E (F : Nat → s31l2_T) (x0 : AVal) (x1 : Int) (x2 : AVal) (x3 : Int) (h : Heap) : Prop := gJ [.any, .int .i64, .any, .int .i64] [x0, (.int .i64 x1), x2, (.int .i64 x3)] h (fun l h => ∃ n, s31l2_R (F n) l h)
theorem s31l2_go {F : s31l2_T} {x0 : AVal} {x1 : Int} {x2 : AVal} {x3 : Int} {h : Heap} (H : F x0 x1 x2 x3 h) : s31l2_G F x0 x1 x2 x3 h := gJ_plain rfl H
theorem s31l2_in {F : Nat → s31l2_T} {x0 : AVal} {x1 : Int} {x2 : AVal} {x3 : Int} {h : Heap} (n : Nat) (H : F n x0 x1 x2 x3 h) : s31l2_E F x0 x1 x2 x3 h := gJ_plain rfl ⟨n, H⟩

abbrev s31l3_T := AVal → Int → AVal → Int → Heap → Prop
def s31l3_R (F : s31l3_T) (l : List AVal) (h : Heap) : Prop := J.cons l fun x0 l => J.cons l fun v l => J.int .i64 v fun x1 => J.cons l fun x2 l => J.cons l fun v l => J.int .i64 v fun x3 => J.nil l (F x0 x1 x2 x3 h)
def s31l3_G (F : s31l3_T) (x0 : AVal) (x1 : Int) (x2 : AVal) (x3 : Int) (h : Heap) : Prop := gJ [.any, .int .i64, .any, .int .i64] [x0, (.int .i64 x1), x2, (.int .i64 x3)] h (s31l3_R F)
def s31l3_E (F : Nat → s31l3_T) (x0 : AVal) (x1 : Int) (x2 : AVal) (x3 : Int) (h : Heap) : Prop := gJ [.any, .int .i64, .any, .int .i64] [x0, (.int .i64 x1), x2, (.int .i64 x3)] h (fun l h => ∃ n, s31l3_R (F n) l h)
theorem s31l3_go {F : s31l3_T} {x0 : AVal} {x1 : Int} {x2 : AVal} {x3 : Int} {h : Heap} (H : F x0 x1 x2 x3 h) : s31l3_G F x0 x1 x2 x3 h := gJ_plain rfl H
theorem s31l3_in {F : Nat → s31l3_T} {x0 : AVal} {x1 : Int} {x2 : AVal} {x3 : Int} {h : Heap} (n : Nat) (H : F n x0 x1 x2 x3 h) : s31l3_E F x0 x1 x2 x3 h := gJ_plain rfl ⟨n, H⟩

abbrev s31l4_T := AVal → Int → AVal → Int → Int → Heap → Prop
def s31l4_R (F : s31l4_T) (l : List AVal) (h : Heap) : Prop := J.cons l fun x0 l => J.cons l fun v l => J.int .i64 v fun x1 => J.cons l fun x2 l => J.cons l fun v l => J.int .i64 v fun x3 => J.cons l fun v l => J.int .i64 v fun x4 => J.nil l (F x0 x1 x2 x3 x4 h)
def s31l4_G (F : s31l4_T) (x0 : AVal) (x1 : Int) (x2 : AVal) (x3 x4 : Int) (h : Heap) : Prop := gJ [.any, .int .i64, .any, .int .i64, .int .i64] [x0, (.int .i64 x1), x2, (.int .i64 x3), (.int .i64 x4)] h (s31l4_R F)
def s31l4_E (F : Nat → s31l4_T) (x0 : AVal) (x1 : Int) (x2 : AVal) (x3 x4 : Int) (h : Heap) : Prop := gJ [.any, .int .i64, .any, .int .i64, .int .i64] [x0, (.int .i64 x1), x2, (.int .i64 x3), (.int .i64 x4)] h (fun l h => ∃ n, s31l4_R (F n) l h)
theorem s31l4_go {F : s31l4_T} {x0 : AVal} {x1 : Int} {x2 : AVal} {x3 x4 : Int} {h : Heap} (H : F x0 x1 x2 x3 x4 h) : s31l4_G F x0 x1 x2 x3 x4 h := gJ_plain rfl H
theorem s31l4_in {F : Nat → s31l4_T} {x0 : AVal} {x1 : Int} {x2 : AVal} {x3 x4 : Int} {h : Heap} (n : Nat) (H : F n x0 x1 x2 x3 x4 h) : s31l4_E F x0 x1 x2 x3 x4 h := gJ_plain rfl ⟨n, H⟩

def s31c5 (Ψ : AVal → Heap → Prop) (L3 : s31l3_T) (L4 : s31l4_T) (m4 : AVal) (n8 : Int) (o3 : AVal) (a3 b1 : Int) (h : Heap) : Prop :=
  rg (b1 + 1) (
    L4 m4 n8 o3 a3 (b1 + 1) h)

abbrev s31l7_T := AVal → Int → AVal → Int → Int → Int → Heap → Prop
def s31l7_R (F : s31l7_T) (l : List AVal) (h : Heap) : Prop := J.cons l fun x0 l => J.cons l fun v l => J.int .i64 v fun x1 => J.cons l fun x2 l => J.cons l fun v l => J.int .i64 v fun x3 => J.cons l fun v l => J.int .i64 v fun x4 => J.cons l fun v l => J.int .i64 v fun x5 => J.nil l (F x0 x1 x2 x3 x4 x5 h)
def s31l7_G (F : s31l7_T) (x0 : AVal) (x1 : Int) (x2 : AVal) (x3 x4 x5 : Int) (h : Heap) : Prop := gJ [.any, .int .i64, .any, .int .i64, .int .i64, .int .i64] [x0, (.int .i64 x1), x2, (.int .i64 x3), (.int .i64 x4), (.int .i64 x5)] h (s31l7_R F)
def s31l7_E (F : Nat → s31l7_T) (x0 : AVal) (x1 : Int) (x2 : AVal) (x3 x4 x5 : Int) (h : Heap) : Prop := gJ [.any, .int .i64, .any, .int .i64, .int .i64, .int .i64] [x0, (.int .i64 x1), x2, (.int .i64 x3), (.int .i64 x4), (.int .i64 x5)] h (fun l h => ∃ n, s31l7_R (F n) l h)
theorem s31l7_go {F : s31l7_T} {x0 : AVal} {x1 : Int} {x2 : AVal} {x3 x4 x5 : Int} {h : Heap} (H : F x0 x1 x2 x3 x4 x5 h) : s31l7_G F x0 x1 x2 x3 x4 x5 h := gJ_plain rfl H
theorem s31l7_in {F : Nat → s31l7_T} {x0 : AVal} {x1 : Int} {x2 : AVal} {x3 x4 x5 : Int} {h : Heap} (n : Nat) (H : F n x0 x1 x2 x3 x4 x5 h) : s31l7_E F x0 x1 x2 x3 x4 x5 h := gJ_plain rfl ⟨n, H⟩

def s31l7 (Ψ : AVal → Heap → Prop) (L3 : s31l3_T) (L4 : s31l4_T) : Nat → s31l7_T
  | 0, _, _, _, _, _, _, _ => False
  | n11 + 1, m6, n10, o5, a5, b3, k, h =>
    addOff m6 1 fun p4 =>
    ld1 h p4 fun v13 =>
    ixS 1 v13 a5 fun p5 =>
    ld1 h p5 fun v14 =>
    lenN v14 fun n12 =>
    ifT (decide (k < n12)) (
      addOff m6 1 fun p6 =>
      ld1 h p6 fun v15 =>
      ixS 1 v15 b3 fun p7 =>
      ld1 h p7 fun v16 =>
      addOff m6 1 fun p8 =>
      ld1 h p8 fun v17 =>
      ixS 1 v17 a5 fun p9 =>
      ld1 h p9 fun v18 =>
      ixS 1 v18 k fun p10 =>
      ld1 h p10 fun v19 =>
      tStr v19 fun v20 =>
      callG prog 61 [v16, (.str v20)] h fun v21 h_2 =>
      tBool v21 fun v22 =>
      ifT (!v22) (
        retG (.tuple [.nilsl, (.bool false)]) h_2 Ψ) (
        rg (k + 1) (
          s31l7_G (s31l7 Ψ L3 L4 n11) m6 n10 o5 a5 b3 (k + 1) h_2))) (
      s31c5 Ψ L3 L4 m6 n10 o5 a5 b3 h)

def s31c6 (Ψ : AVal → Heap → Prop) (L3 : s31l3_T) (L4 : s31l4_T) (m5 : AVal) (n9 : Int) (o4 : AVal) (a4 b2 : Int) (t68 : Bool) (h : Heap) : Prop :=
  ifT t68 (
    s31c5 Ψ L3 L4 m5 n9 o4 a4 b2 h) (
    ixS 1 o4 b2 fun p2 =>
    ld1 h p2 fun v10 =>
    ixS 1 v10 a4 fun p3 =>
    ld1 h p3 fun v11 =>
    tBool v11 fun v12 =>
    ifT v12 (
      retG (.tuple [.nilsl, (.bool false)]) h Ψ) (
      s31l7_E (s31l7 Ψ L3 L4) m5 n9 o4 a4 b2 0 h))

def s31l4 (Ψ : AVal → Heap → Prop) (L3 : s31l3_T) : Nat → s31l4_T
  | 0, _, _, _, _, _, _ => False
  | n7 + 1, m3, n6, o2, a2, b, h =>
    ifT (decide (b < n6)) (
      ixS 1 o2 a2 fun p11 =>
      ld1 h p11 fun v23 =>
      ixS 1 v23 b fun p12 =>
      ld1 h p12 fun v24 =>
      tBool v24 fun v25 =>
      ifT (!v25) (
        s31c6 Ψ L3 (s31l4_G (s31l4 Ψ L3 n7)) m3 n6 o2 a2 b true h) (
        s31c6 Ψ L3 (s31l4_G (s31l4 Ψ L3 n7)) m3 n6 o2 a2 b (a2 == b) h)) (
      rg (a2 + 1) (
        L3 m3 n6 o2 (a2 + 1) h))

def s31l3 (Ψ : AVal → Heap → Prop) : Nat → s31l3_T
  | 0, _, _, _, _, _ => False
  | n5 + 1, m2, n4, o1, a1, h =>
    ifT (decide (a1 < n4)) (
      s31l4_E (s31l4 Ψ (s31l3_G (s31l3 Ψ n5))) m2 n4 o1 a1 0 h) (
      retG (.tuple [o1, (.bool true)]) h Ψ)

def s31l2 (Ψ : AVal → Heap → Prop) : Nat → s31l2_T
  | 0, _, _, _, _, _ => False
  | n3 + 1, m1, n2, o, a, h =>
    ifT (decide (a < n2)) (
      addOff m1 1 fun p =>
      ld1 h p fun v6 =>
      ixS 1 v6 a fun p1 =>
      ld1 h p1 fun v7 =>
      callG prog 60 [v7] h fun v8 h_1 =>
      tBool v8 fun v9 =>
      ifT (!v9) (
        retG (.tuple [.nilsl, (.bool false)]) h_1 Ψ) (
        rg (a + 1) (
          s31l2_G (s31l2 Ψ n3) m1 n2 o (a + 1) h_1))) (
      s31l3_E (s31l3 Ψ) m1 n2 o 0 h)

def s31c1 (Ψ : AVal → Heap → Prop) (m : AVal) (n1 : Int) (t26 : Bool) (h : Heap) : Prop :=
  ifT t26 (
    retG (.tuple [.nilsl, (.bool false)]) h Ψ) (
    ldN 2 h m fun l_ =>
    tCons l_ fun v l_1 =>
    tCons l_1 fun v1 l_2 =>
    tNil l_2 (
      callG prog 59 [(.agg [v, v1])] h fun v2 h_ =>
      tTup v2 fun l_3 =>
      tCons l_3 fun v3 l_4 =>
      tCons l_4 fun v4 l_5 =>
      tBool v4 fun v5 =>
      tNil l_5 (
        ifT (!v5) (
          retG (.tuple [.nilsl, (.bool false)]) h_ Ψ) (
          s31l2_E (s31l2 Ψ) m n1 v3 0 h_))))

def s31 (Ψ : AVal → Heap → Prop) (m_Up : AVal) (m_Val : AVal) (h : Heap) : Prop :=
  lenN m_Up fun n =>
  ifT (decide (n < 1)) (
    s31c1 Ψ (.lptr [m_Up, m_Val]) n true h) (
    ifT (decide (512 < n)) (
      s31c1 Ψ (.lptr [m_Up, m_Val]) n true h) (
      lenN m_Val fun n17 =>
      s31c1 Ψ (.lptr [m_Up, m_Val]) n (n17 != n) h))

def s31_A (Ψ : AVal → Heap → Prop) : Ann :=
  .seq (.reg [⟨none, [(0, true), (1, false), (2, false)]⟩])
  (.seq (rA 4)
  (.seq (.cut [(1, .any), (4, .int .i64), (26, .bool)] (fun l h => J.cons l fun x0 l => J.cons l fun v l => J.int .i64 v fun x1 => J.cons l fun v l => J.bool v fun x2 => J.nil l (s31c1 Ψ x0 x1 x2 h)) (.reg [⟨none, [(0, false), (1, false), (2, false)]⟩, ⟨some (16, false), [(3, false), (4, false)]⟩, ⟨none, [(5, false), (6, false)]⟩, ⟨some (20, false), [(7, false), (8, false), (9, false), (10, false), (11, false)]⟩, ⟨none, [(12, false)]⟩])
  (.cond (.seq (rA 2)
  (.leaf))
  (.leaf)))
  (.seq (rA 7)
  (.seq (.seq (rA 2)
  (.cond (.seq (rA 2)
  (.leaf))
  (.leaf)))
  (.seq (.seq (rA 1)
  (.block (.loop [(1, .any), (4, .int .i64), (5, .any), (7, .int .i64)] (fun n l h => s31l2_R (s31l2 Ψ n) l h) (fun L2 =>
  .seq (.seq (rA 3)
  (.cond (.leaf)
  (.leaf)))
  (.seq (.block (.seq (rA 7)
  (.cond (.seq (rA 2)
  (.leaf))
  (.leaf))))
  (rA 3))))))
  (.seq (.seq (rA 1)
  (.block (.loop [(1, .any), (4, .int .i64), (5, .any), (8, .int .i64)] (fun n l h => s31l3_R (s31l3 Ψ n) l h) (fun L3 =>
  .seq (.seq (rA 3)
  (.cond (.leaf)
  (.leaf)))
  (.seq (.block (.seq (rA 1)
  (.block (.loop [(1, .any), (4, .int .i64), (5, .any), (8, .int .i64), (9, .int .i64)] (fun n l h => s31l4_R (s31l4 Ψ (fun y0 y1 y2 y3 h => L3 [y0, (.int .i64 y1), y2, (.int .i64 y3)] h) n) l h) (fun L4 =>
  .seq (.seq (rA 3)
  (.cond (.leaf)
  (.leaf)))
  (.cut [(1, .any), (4, .int .i64), (5, .any), (8, .int .i64), (9, .int .i64)] (fun l h => J.cons l fun x0 l => J.cons l fun v l => J.int .i64 v fun x1 => J.cons l fun x2 l => J.cons l fun v l => J.int .i64 v fun x3 => J.cons l fun v l => J.int .i64 v fun x4 => J.nil l (s31c5 Ψ (fun y0 y1 y2 y3 h => L3 [y0, (.int .i64 y1), y2, (.int .i64 y3)] h) (fun y0 y1 y2 y3 y4 h => L4 [y0, (.int .i64 y1), y2, (.int .i64 y3), (.int .i64 y4)] h) x0 x1 x2 x3 x4 h)) (.block (.seq (.cut [(1, .any), (4, .int .i64), (5, .any), (8, .int .i64), (9, .int .i64), (68, .bool)] (fun l h => J.cons l fun x0 l => J.cons l fun v l => J.int .i64 v fun x1 => J.cons l fun x2 l => J.cons l fun v l => J.int .i64 v fun x3 => J.cons l fun v l => J.int .i64 v fun x4 => J.cons l fun v l => J.bool v fun x5 => J.nil l (s31c6 Ψ (fun y0 y1 y2 y3 h => L3 [y0, (.int .i64 y1), y2, (.int .i64 y3)] h) (fun y0 y1 y2 y3 y4 h => L4 [y0, (.int .i64 y1), y2, (.int .i64 y3), (.int .i64 y4)] h) x0 x1 x2 x3 x4 x5 h)) (.reg [⟨none, [(0, false), (1, false), (2, false), (3, false), (4, false), (5, false), (6, false), (7, false), (8, false)]⟩, ⟨some (64, false), [(9, false), (10, false), (11, false)]⟩, ⟨none, [(12, false)]⟩])
  (.cond (.leaf)
  (.leaf)))
  (.seq (.seq (rA 7)
  (.cond (.seq (rA 2)
  (.leaf))
  (.leaf)))
  (.seq (rA 1)
  (.block (.loop [(1, .any), (4, .int .i64), (5, .any), (8, .int .i64), (9, .int .i64), (10, .int .i64)] (fun n l h => s31l7_R (s31l7 Ψ (fun y0 y1 y2 y3 h => L3 [y0, (.int .i64 y1), y2, (.int .i64 y3)] h) (fun y0 y1 y2 y3 y4 h => L4 [y0, (.int .i64 y1), y2, (.int .i64 y3), (.int .i64 y4)] h) n) l h) (fun L7 =>
  .seq (.seq (rA 8)
  (.cond (.leaf)
  (.leaf)))
  (.seq (.block (.seq (.draw [(0, false), (1, false), (2, false), (3, false), (4, false), (5, false), (6, false), (7, false), (8, false), (9, false), (10, false), (11, false), (12, false), (13, false), (14, false)] [0, 1, 0, 7, 15, 0, 32, 0, 224, 480, 0, 2016, 4064, 8191, 16383])
  (.cond (.seq (rA 2)
  (.leaf))
  (.leaf))))
  (rA 3)))))))))
  (rA 3)))))))
  (rA 3))))))
  (.seq (rA 3)
  (.leaf))))))))

theorem s31_ok {Ψ : AVal → Heap → Prop} {m_Up : AVal} {m_Val : AVal} {h : Heap} (H : s31 Ψ m_Up m_Val h) : ACalls prog 31 [(.agg [m_Up, m_Val])] h Ψ :=
  calls_of_evF func31 (by kernel_rfl) (by kernel_rfl) (by kernel_rfl)
    (Eq.mpr (by as_aux_lemma => kernel_rfl : oblF prog f31 (s31_A Ψ) Ψ = (True ∧ True ∧ ((True) ∧ (∀ (h : Heap) (x0 : AVal) (x1 : Int) (x2 : Bool), OI (s31c1 Ψ x0 x1 x2 h)) ∧ ((True ∧ True) ∧ True)) ∧ True ∧ (True ∧ (True ∧ True) ∧ True) ∧ (True ∧ (∀ (h : Heap) (x0 : AVal) (x1 : Int) (x2 : AVal) (x3 : Int), ON (s31l2 Ψ 0 x0 x1 x2 x3 h)) ∧ ∀ n2 : Nat, (∀ (h : Heap) (x0 : AVal) (x1 : Int) (x2 : AVal) (x3 : Int), OI (s31l2 Ψ (n2 + 1) x0 x1 x2 x3 h)) ∧ ((True ∧ True ∧ True) ∧ (True ∧ (True ∧ True) ∧ True) ∧ True)) ∧ (True ∧ (∀ (h : Heap) (x0 : AVal) (x1 : Int) (x2 : AVal) (x3 : Int), ON (s31l3 Ψ 0 x0 x1 x2 x3 h)) ∧ ∀ n3 : Nat, (∀ (h : Heap) (x0 : AVal) (x1 : Int) (x2 : AVal) (x3 : Int), OI (s31l3 Ψ (n3 + 1) x0 x1 x2 x3 h)) ∧ ((True ∧ True ∧ True) ∧ (True ∧ (∀ (h : Heap) (x0 : AVal) (x1 : Int) (x2 : AVal) (x3 x4 : Int), ON (s31l4 Ψ (s31l3_G (s31l3 Ψ n3)) 0 x0 x1 x2 x3 x4 h)) ∧ ∀ n4 : Nat, (∀ (h : Heap) (x0 : AVal) (x1 : Int) (x2 : AVal) (x3 x4 : Int), OI (s31l4 Ψ (s31l3_G (s31l3 Ψ n3)) (n4 + 1) x0 x1 x2 x3 x4 h)) ∧ ((True ∧ True ∧ True) ∧ (((True) ∧ (∀ (h : Heap) (x0 : AVal) (x1 : Int) (x2 : AVal) (x3 x4 : Int) (x5 : Bool), OI (s31c6 Ψ (s31l3_G (s31l3 Ψ n3)) (s31l4_G (s31l4 Ψ (s31l3_G (s31l3 Ψ n3)) n4)) x0 x1 x2 x3 x4 x5 h)) ∧ (True ∧ True)) ∧ (True ∧ (True ∧ True) ∧ True) ∧ True ∧ (∀ (h : Heap) (x0 : AVal) (x1 : Int) (x2 : AVal) (x3 x4 x5 : Int), ON (s31l7 Ψ (s31l3_G (s31l3 Ψ n3)) (s31l4_G (s31l4 Ψ (s31l3_G (s31l3 Ψ n3)) n4)) 0 x0 x1 x2 x3 x4 x5 h)) ∧ ∀ n7 : Nat, (∀ (h : Heap) (x0 : AVal) (x1 : Int) (x2 : AVal) (x3 x4 x5 : Int), OI (s31l7 Ψ (s31l3_G (s31l3 Ψ n3)) (s31l4_G (s31l4 Ψ (s31l3_G (s31l3 Ψ n3)) n4)) (n7 + 1) x0 x1 x2 x3 x4 x5 h)) ∧ ((True ∧ True ∧ True) ∧ (True ∧ (True ∧ True) ∧ True) ∧ True)) ∧ (∀ (h : Heap) (x0 : AVal) (x1 : Int) (x2 : AVal) (x3 x4 : Int), OI (s31c5 Ψ (s31l3_G (s31l3 Ψ n3)) (s31l4_G (s31l4 Ψ (s31l3_G (s31l3 Ψ n3)) n4)) x0 x1 x2 x3 x4 h)) ∧ (True))) ∧ True)) ∧ True ∧ True)) ⟨trivial, ⟨trivial, ⟨⟨trivial, fun _ _ _ _ H => H, ⟨⟨trivial, trivial⟩, trivial⟩⟩, ⟨trivial, ⟨⟨trivial, ⟨⟨trivial, trivial⟩, trivial⟩⟩, ⟨⟨trivial, ⟨fun _ _ _ _ _ H => H, fun _ => ⟨fun _ _ _ _ _ H => H, ⟨⟨trivial, ⟨trivial, trivial⟩⟩, ⟨⟨trivial, ⟨⟨trivial, trivial⟩, trivial⟩⟩, trivial⟩⟩⟩⟩⟩, ⟨⟨trivial, ⟨fun _ _ _ _ _ H => H, fun _ => ⟨fun _ _ _ _ _ H => H, ⟨⟨trivial, ⟨trivial, trivial⟩⟩, ⟨⟨trivial, ⟨fun _ _ _ _ _ _ H => H, fun _ => ⟨fun _ _ _ _ _ _ H => H, ⟨⟨trivial, ⟨trivial, trivial⟩⟩, ⟨⟨⟨trivial, fun _ _ _ _ _ _ _ H => H, ⟨trivial, trivial⟩⟩, ⟨⟨trivial, ⟨⟨trivial, trivial⟩, trivial⟩⟩, ⟨trivial, ⟨fun _ _ _ _ _ _ _ H => H, fun _ => ⟨fun _ _ _ _ _ _ _ H => H, ⟨⟨trivial, ⟨trivial, trivial⟩⟩, ⟨⟨trivial, ⟨⟨trivial, trivial⟩, trivial⟩⟩, trivial⟩⟩⟩⟩⟩⟩⟩, fun _ _ _ _ _ _ H => H, trivial⟩⟩⟩⟩⟩, trivial⟩⟩⟩⟩⟩, ⟨trivial, trivial⟩⟩⟩⟩⟩⟩⟩⟩)
    (Eq.mpr (by as_aux_lemma => kernel_rfl : evF prog f31 (s31_A Ψ) Ψ [(.agg [m_Up, m_Val])] h = s31 Ψ m_Up m_Val h) H)

/- 35 slices.Clone[[]string,string] -/
def s35 (Ψ : AVal → Heap → Prop) (s : AVal) (h : Heap) : Prop :=
  nilS s fun b =>
  ifT b (
    retG .nilsl h Ψ) (
    Sym.newRow 1 [] h fun r h_ =>
    appC 1 16 h_ (.sl r 1 0 0) s fun v h_1 =>
    retG v h_1 Ψ)

def s35_A (Ψ : AVal → Heap → Prop) : Ann :=
  .seq (rA 1)
  (.seq (.seq (rA 2)
  (.cond (.seq (rA 1)
  (.leaf))
  (.leaf)))
  (.seq (rA 4)
  (.leaf)))

theorem s35_ok {Ψ : AVal → Heap → Prop} {s : AVal} {h : Heap} (H : s35 Ψ s h) : ACalls prog 35 [s] h Ψ :=
  calls_of_evF func35 (by kernel_rfl) (by kernel_rfl) (by kernel_rfl)
    (Eq.mpr (by as_aux_lemma => kernel_rfl : oblF prog f35 (s35_A Ψ) Ψ = (True ∧ (True ∧ (True ∧ True) ∧ True) ∧ True ∧ True)) ⟨trivial, ⟨⟨trivial, ⟨⟨trivial, trivial⟩, trivial⟩⟩, ⟨trivial, trivial⟩⟩⟩)
    (Eq.mpr (by as_aux_lemma => kernel_rfl : evF prog f35 (s35_A Ψ) Ψ [s] h = s35 Ψ s h) H)

/- 37 dictum/dictumref19.tidy -/
def s37 (Ψ : AVal → Heap → Prop) (m_Up : AVal) (m_Val : AVal) (h : Heap) : Prop :=
  Sym.newRow 2 [(.agg [.nilsl, .nilsl])] h fun r h_ =>
  callG prog 65 [(.agg [m_Up, m_Val])] h_ fun v h_1 =>
  tTup v fun l_ =>
  tCons l_ fun v1 l_1 =>
  tCons l_1 fun v2 l_2 =>
  tInt .i64 v2 fun v3 =>
  tNil l_2 (
    tAgg v1 fun l_3 =>
    tCons l_3 fun v4 l_4 =>
    tCons l_4 fun v5 l_5 =>
    tNil l_5 (
      Sym.newRow 2 [(.agg [.nilsl, .nilsl])] h_1 fun r1 h_2 =>
      st false h_2 (.ptr r1 0 0) [v4, v5] fun h_3 =>
      ldN 2 h_3 (.ptr r1 0 0) fun l_6 =>
      tCons l_6 fun v6 l_7 =>
      tCons l_7 fun v7 l_8 =>
      tNil l_8 (
        st false h_3 (.ptr r 0 0) [v6, v7] fun h_4 =>
        ldN 2 h_4 (.ptr r 0 0) fun l_9 =>
        tCons l_9 fun v8 l_10 =>
        tCons l_10 fun v9 l_11 =>
        tNil l_11 (
          retG (.agg [v8, v9]) h_4 Ψ))))

def s37_A (Ψ : AVal → Heap → Prop) : Ann :=
  .seq (.reg [⟨none, [(0, true), (1, false)]⟩])
  (.seq (rA 8)
  (.seq (rA 2)
  (.leaf)))

theorem s37_ok {Ψ : AVal → Heap → Prop} {m_Up : AVal} {m_Val : AVal} {h : Heap} (H : s37 Ψ m_Up m_Val h) : ACalls prog 37 [(.agg [m_Up, m_Val])] h Ψ :=
  calls_of_evF func37 (by kernel_rfl) (by kernel_rfl) (by kernel_rfl)
    (Eq.mpr (by as_aux_lemma => kernel_rfl : oblF prog f37 (s37_A Ψ) Ψ = (True ∧ True ∧ True ∧ True)) ⟨trivial, ⟨trivial, ⟨trivial, trivial⟩⟩⟩)
    (Eq.mpr (by as_aux_lemma => kernel_rfl : evF prog f37 (s37_A Ψ) Ψ [(.agg [m_Up, m_Val])] h = s37 Ψ m_Up m_Val h) H)

/- 41 dictum/worlds.Check -/
def s41 (Ψ : AVal → Heap → Prop) (m_Up : AVal) (m_Val : AVal) (h : Heap) : Prop :=
  callG prog 67 [(.agg [m_Up, m_Val]), .nilsl] h fun v h_ =>
  tTup v fun l_ =>
  tCons l_ fun v1 l_1 =>
  tCons l_1 fun v2 l_2 =>
  tInt .i64 v2 fun v3 =>
  tNil l_2 (
    retG (.int .i64 v3) h_ Ψ)

def s41_A (Ψ : AVal → Heap → Prop) : Ann :=
  .seq (.reg [⟨none, [(0, true), (1, false)]⟩])
  (.seq (rA 7)
  (.seq (rA 2)
  (.leaf)))

theorem s41_ok {Ψ : AVal → Heap → Prop} {m_Up : AVal} {m_Val : AVal} {h : Heap} (H : s41 Ψ m_Up m_Val h) : ACalls prog 41 [(.agg [m_Up, m_Val])] h Ψ :=
  calls_of_evF func41 (by kernel_rfl) (by kernel_rfl) (by kernel_rfl)
    (Eq.mpr (by as_aux_lemma => kernel_rfl : oblF prog f41 (s41_A Ψ) Ψ = (True ∧ True ∧ True ∧ True)) ⟨trivial, ⟨trivial, ⟨trivial, trivial⟩⟩⟩)
    (Eq.mpr (by as_aux_lemma => kernel_rfl : evF prog f41 (s41_A Ψ) Ψ [(.agg [m_Up, m_Val])] h = s41 Ψ m_Up m_Val h) H)

/- 43 dictum/worlds.Root -/
abbrev s43l1_T := AVal → AVal → Int → Int → Heap → Prop
def s43l1_R (F : s43l1_T) (l : List AVal) (h : Heap) : Prop := J.cons l fun x0 l => J.cons l fun x1 l => J.cons l fun v l => J.int .i64 v fun x2 => J.cons l fun v l => J.int .i64 v fun x3 => J.nil l (F x0 x1 x2 x3 h)
def s43l1_G (F : s43l1_T) (x0 x1 : AVal) (x2 x3 : Int) (h : Heap) : Prop := gJ [.any, .any, .int .i64, .int .i64] [x0, x1, (.int .i64 x2), (.int .i64 x3)] h (s43l1_R F)
def s43l1_E (F : Nat → s43l1_T) (x0 x1 : AVal) (x2 x3 : Int) (h : Heap) : Prop := gJ [.any, .any, .int .i64, .int .i64] [x0, x1, (.int .i64 x2), (.int .i64 x3)] h (fun l h => ∃ n, s43l1_R (F n) l h)
theorem s43l1_go {F : s43l1_T} {x0 x1 : AVal} {x2 x3 : Int} {h : Heap} (H : F x0 x1 x2 x3 h) : s43l1_G F x0 x1 x2 x3 h := gJ_plain rfl H
theorem s43l1_in {F : Nat → s43l1_T} {x0 x1 : AVal} {x2 x3 : Int} {h : Heap} (n : Nat) (H : F n x0 x1 x2 x3 h) : s43l1_E F x0 x1 x2 x3 h := gJ_plain rfl ⟨n, H⟩

def s43l1 (Ψ : AVal → Heap → Prop) : Nat → s43l1_T
  | 0, _, _, _, _, _ => False
  | n1 + 1, m, leq, t16, t17, h =>
    ifT (decide (t17 < t16)) (
      Sym.newRow 1 [(.int .i64 0)] h fun r1 h_3 =>
      st true h_3 (.ptr r1 0 0) [(.int .i64 t17)] fun h_4 =>
      ldN 2 h_4 m fun l_3 =>
      tCons l_3 fun v4 l_4 =>
      tCons l_4 fun v5 l_5 =>
      tNil l_5 (
        addOff m 0 fun p =>
        ld1 h_4 p fun v6 =>
        lenN v6 fun n2 =>
        callG prog 68 [(.agg [v4, v5]), (.func (.func 73) [] [leq, (.ptr r1 0 0)])] h_4 fun v7 h_5 =>
        (ld1 h_5 p fun v8 =>
        v8 = v6) ∧
        lenN v7 fun n3 =>
        ifT (n3 == n2) (
          ld1 h_5 (.ptr r1 0 0) fun v9 =>
          tInt .i64 v9 fun v10 =>
          retG (.tuple [(.int .i64 v10), (.bool true)]) h_5 Ψ) (
          rg (t17 + 1) (
            s43l1_G (s43l1 Ψ n1) m leq t16 (t17 + 1) h_5)))) (
      retG (.tuple [(.int .i64 0), (.bool false)]) h Ψ)

def s43 (Ψ : AVal → Heap → Prop) (m_Up : AVal) (m_Val : AVal) (h : Heap) : Prop :=
  callG prog 67 [(.agg [m_Up, m_Val]), .nilsl] h fun v h_ =>
  tTup v fun l_ =>
  tCons l_ fun v1 l_1 =>
  tCons l_1 fun v2 l_2 =>
  tInt .i64 v2 fun v3 =>
  tNil l_2 (
    Sym.newRow 1 [.nilfunc] h_ fun r h_1 =>
    chk (sc v1) (
      st true h_1 (.ptr r 0 0) [v1] fun h_2 =>
      ifT (v3 != 0) (
        retG (.tuple [(.int .i64 0), (.bool false)]) h_2 Ψ) (
        lenN m_Up fun n =>
        s43l1_E (s43l1 Ψ) (.lptr [m_Up, m_Val]) (.ptr r 0 0) n 0 h_2)))

def s43_A (Ψ : AVal → Heap → Prop) : Ann :=
  .seq (.reg [⟨none, [(0, true), (1, false), (2, false)]⟩])
  (.seq (rA 8)
  (.seq (.seq (rA 2)
  (.cond (.seq (rA 2)
  (.leaf))
  (.leaf)))
  (.seq (.seq (rA 4)
  (.block (.loop [(1, .any), (4, .any), (16, .int .i64), (17, .int .i64)] (fun n l h => s43l1_R (s43l1 Ψ n) l h) (fun L1 =>
  .seq (rA 1)
  (.seq (.cond (.leaf)
  (.leaf))
  (.seq (.block (.seq (rA 3)
  (.seq (.draw [(0, false), (1, false), (4, false), (5, false), (6, false), (2, false), (3, false), (7, false)] [0, 0, 3, 7, 0, 16, 48, 127])
  (.cond (.seq (rA 3)
  (.leaf))
  (.leaf)))))
  (rA 2)))))))
  (.seq (rA 2)
  (.leaf)))))

theorem s43_ok {Ψ : AVal → Heap → Prop} {m_Up : AVal} {m_Val : AVal} {h : Heap} (H : s43 Ψ m_Up m_Val h) : ACalls prog 43 [(.agg [m_Up, m_Val])] h Ψ :=
  calls_of_evF func43 (by kernel_rfl) (by kernel_rfl) (by kernel_rfl)
    (Eq.mpr (by as_aux_lemma => kernel_rfl : oblF prog f43 (s43_A Ψ) Ψ = (True ∧ True ∧ (True ∧ (True ∧ True) ∧ True) ∧ (True ∧ (∀ (h : Heap) (x0 x1 : AVal) (x2 x3 : Int), ON (s43l1 Ψ 0 x0 x1 x2 x3 h)) ∧ ∀ n1 : Nat, (∀ (h : Heap) (x0 x1 : AVal) (x2 x3 : Int), OI (s43l1 Ψ (n1 + 1) x0 x1 x2 x3 h)) ∧ (True ∧ (True ∧ True) ∧ (True ∧ True ∧ (True ∧ True) ∧ True) ∧ True)) ∧ True ∧ True)) ⟨trivial, ⟨trivial, ⟨⟨trivial, ⟨⟨trivial, trivial⟩, trivial⟩⟩, ⟨⟨trivial, ⟨fun _ _ _ _ _ H => H, fun _ => ⟨fun _ _ _ _ _ H => H, ⟨trivial, ⟨⟨trivial, trivial⟩, ⟨⟨trivial, ⟨trivial, ⟨⟨trivial, trivial⟩, trivial⟩⟩⟩, trivial⟩⟩⟩⟩⟩⟩, ⟨trivial, trivial⟩⟩⟩⟩⟩)
    (Eq.mpr (by as_aux_lemma => kernel_rfl : evF prog f43 (s43_A Ψ) Ψ [(.agg [m_Up, m_Val])] h = s43 Ψ m_Up m_Val h) H)

/- 46 slices.Contains[[]string,string] -/
def s46 (Ψ : AVal → Heap → Prop) (s : AVal) (v : ByteArray) (h : Heap) : Prop :=
  callG prog 75 [s, (.str v)] h fun v1 h_ =>
  tInt .i64 v1 fun v2 =>
  retG (.bool (decide (0 ≤ v2))) h_ Ψ

def s46_A (Ψ : AVal → Heap → Prop) : Ann :=
  .seq (rA 1)
  (.seq (rA 5)
  (.leaf))

theorem s46_ok {Ψ : AVal → Heap → Prop} {s : AVal} {v : ByteArray} {h : Heap} (H : s46 Ψ s v h) : ACalls prog 46 [s, (.str v)] h Ψ :=
  calls_of_evF func46 (by kernel_rfl) (by kernel_rfl) (by kernel_rfl)
    (Eq.mpr (by as_aux_lemma => kernel_rfl : oblF prog f46 (s46_A Ψ) Ψ = (True ∧ True ∧ True)) ⟨trivial, ⟨trivial, trivial⟩⟩)
    (Eq.mpr (by as_aux_lemma => kernel_rfl : evF prog f46 (s46_A Ψ) Ψ [s, (.str v)] h = s46 Ψ s v h) H)

/- 48 dictum/dictumref03.Word -/
abbrev s48l2_T := ByteArray → Int → Heap → Prop
def s48l2_R (F : s48l2_T) (l : List AVal) (h : Heap) : Prop := J.cons l fun v l => J.str v fun x0 => J.cons l fun v l => J.int .i64 v fun x1 => J.nil l (F x0 x1 h)
def s48l2_G (F : s48l2_T) (x0 : ByteArray) (x1 : Int) (h : Heap) : Prop := gJ [.str, .int .i64] [(.str x0), (.int .i64 x1)] h (s48l2_R F)
def s48l2_E (F : Nat → s48l2_T) (x0 : ByteArray) (x1 : Int) (h : Heap) : Prop := gJ [.str, .int .i64] [(.str x0), (.int .i64 x1)] h (fun l h => ∃ n, s48l2_R (F n) l h)
theorem s48l2_go {F : s48l2_T} {x0 : ByteArray} {x1 : Int} {h : Heap} (H : F x0 x1 h) : s48l2_G F x0 x1 h := gJ_plain rfl H
theorem s48l2_in {F : Nat → s48l2_T} {x0 : ByteArray} {x1 : Int} {h : Heap} (n : Nat) (H : F n x0 x1 h) : s48l2_E F x0 x1 h := gJ_plain rfl ⟨n, H⟩

def s48c3 (Ψ : AVal → Heap → Prop) (L2 : s48l2_T) (s3 : ByteArray) (i1 : Int) (t55 : Bool) (h : Heap) : Prop :=
  ifT t55 (
    retG (.bool false) h Ψ) (
    rg (i1 + 1) (
      L2 s3 (i1 + 1) h))

abbrev s48l4_T := ByteArray → AVal → Int → Heap → Prop
def s48l4_R (F : s48l4_T) (l : List AVal) (h : Heap) : Prop := J.cons l fun v l => J.str v fun x0 => J.cons l fun x1 l => J.cons l fun v l => J.int .i64 v fun x2 => J.nil l (F x0 x1 x2 h)
def s48l4_G (F : s48l4_T) (x0 : ByteArray) (x1 : AVal) (x2 : Int) (h : Heap) : Prop := gJ [.str, .any, .int .i64] [(.str x0), x1, (.int .i64 x2)] h (s48l4_R F)
def s48l4_E (F : Nat → s48l4_T) (x0 : ByteArray) (x1 : AVal) (x2 : Int) (h : Heap) : Prop := gJ [.str, .any, .int .i64] [(.str x0), x1, (.int .i64 x2)] h (fun l h => ∃ n, s48l4_R (F n) l h)
theorem s48l4_go {F : s48l4_T} {x0 : ByteArray} {x1 : AVal} {x2 : Int} {h : Heap} (H : F x0 x1 x2 h) : s48l4_G F x0 x1 x2 h := gJ_plain rfl H
theorem s48l4_in {F : Nat → s48l4_T} {x0 : ByteArray} {x1 : AVal} {x2 : Int} {h : Heap} (n : Nat) (H : F n x0 x1 x2 h) : s48l4_E F x0 x1 x2 h := gJ_plain rfl ⟨n, H⟩

def s48l4 (Ψ : AVal → Heap → Prop) : Nat → s48l4_T
  | 0, _, _, _, _ => False
  | n1 + 1, s4, l_, i2, h =>
    lenN l_ fun n2 =>
    ifT (decide (i2 < n2)) (
      ixS 1 l_ i2 fun p =>
      ld1 h p fun v3 =>
      tStr v3 fun v4 =>
      ifT (strEq v4 s4) (
        retG (.bool false) h Ψ) (
        rg (i2 + 1) (
          s48l4_G (s48l4 Ψ n1) s4 l_ (i2 + 1) h))) (
      retG (.bool true) h Ψ)

def s48l2 (Ψ : AVal → Heap → Prop) : Nat → s48l2_T
  | 0, _, _, _ => False
  | n + 1, s2, i, h =>
    ifT (decide (i < (s2.size : Int))) (
      ((0 : Int) ≤ i ∧ i < (s2.size : Int)) ∧
      callG prog 76 [(.int .u8 (btA s2 i))] h fun v h_ =>
      tBool v fun v1 =>
      ifT (!v1) (
        ((0 : Int) ≤ i ∧ i < (s2.size : Int)) ∧
        ifT (decide (48 ≤ (btA s2 i))) (
          ((0 : Int) ≤ i ∧ i < (s2.size : Int)) ∧
          ifT (!(decide ((btA s2 i) ≤ 57))) (
            ((0 : Int) ≤ i ∧ i < (s2.size : Int)) ∧
            ifT ((btA s2 i) != 95) (
              ((0 : Int) ≤ i ∧ i < (s2.size : Int)) ∧
              s48c3 Ψ (s48l2_G (s48l2 Ψ n)) s2 i ((btA s2 i) != 39) h_) (
              s48c3 Ψ (s48l2_G (s48l2 Ψ n)) s2 i false h_)) (
            s48c3 Ψ (s48l2_G (s48l2 Ψ n)) s2 i false h_)) (
          ((0 : Int) ≤ i ∧ i < (s2.size : Int)) ∧
          ifT ((btA s2 i) != 95) (
            ((0 : Int) ≤ i ∧ i < (s2.size : Int)) ∧
            s48c3 Ψ (s48l2_G (s48l2 Ψ n)) s2 i ((btA s2 i) != 39) h_) (
            s48c3 Ψ (s48l2_G (s48l2 Ψ n)) s2 i false h_))) (
        s48c3 Ψ (s48l2_G (s48l2 Ψ n)) s2 i false h_)) (
      callG prog 77 [] h fun v2 h_1 =>
      s48l4_E (s48l4 Ψ) s2 v2 0 h_1)

def s48c1 (Ψ : AVal → Heap → Prop) (s1 : ByteArray) (t19 : Bool) (h : Heap) : Prop :=
  ifT t19 (
    retG (.bool false) h Ψ) (
    s48l2_E (s48l2 Ψ) s1 1 h)

def s48 (Ψ : AVal → Heap → Prop) (s : ByteArray) (h : Heap) : Prop :=
  ifT (decide ((s.size : Int) < 1)) (
    s48c1 Ψ s true h) (
    ifT (decide (31 < (s.size : Int))) (
      s48c1 Ψ s true h) (
      ((0 : Int) ≤ 0 ∧ 0 < (s.size : Int)) ∧
      callG prog 76 [(.int .u8 (btA s 0))] h fun v5 h_2 =>
      tBool v5 fun v6 =>
      s48c1 Ψ s (!v6) h_2))

def s48_A (Ψ : AVal → Heap → Prop) : Ann :=
  .seq (rA 1)
  (.seq (.cut [(0, .str), (19, .bool)] (fun l h => J.cons l fun v l => J.str v fun x0 => J.cons l fun v l => J.bool v fun x1 => J.nil l (s48c1 Ψ x0 x1 h)) (.reg [⟨none, [(0, false), (1, false), (2, false), (3, false)]⟩, ⟨some (9, false), [(4, false), (5, false), (6, false)]⟩, ⟨none, [(7, false), (8, false)]⟩, ⟨some (14, false), [(9, false), (10, false), (11, false), (12, false)]⟩, ⟨none, [(13, false)]⟩])
  (.cond (.seq (rA 1)
  (.leaf))
  (.leaf)))
  (.seq (.seq (rA 1)
  (.block (.loop [(0, .str), (3, .int .i64)] (fun n l h => s48l2_R (s48l2 Ψ n) l h) (fun L2 =>
  .seq (.seq (rA 4)
  (.cond (.leaf)
  (.leaf)))
  (.seq (.block (.cut [(0, .str), (3, .int .i64), (55, .bool)] (fun l h => J.cons l fun v l => J.str v fun x0 => J.cons l fun v l => J.int .i64 v fun x1 => J.cons l fun v l => J.bool v fun x2 => J.nil l (s48c3 Ψ (fun y0 y1 h => L2 [(.str y0), (.int .i64 y1)] h) x0 x1 x2 h)) (.reg [⟨none, [(0, false), (1, false), (2, false), (3, false), (4, false), (5, false)]⟩, ⟨some (31, true), [(6, false), (7, false), (8, false), (9, false), (10, false)]⟩, ⟨some (36, true), [(11, false), (12, false), (13, false), (14, false)]⟩, ⟨some (31, true), [(15, false), (16, false)]⟩, ⟨none, [(17, false), (18, false)]⟩, ⟨some (44, true), [(19, false), (20, false), (21, false), (22, false)]⟩, ⟨none, [(23, false), (24, false)]⟩, ⟨some (50, true), [(25, false), (26, false), (27, false), (28, false)]⟩, ⟨none, [(29, false)]⟩])
  (.cond (.seq (rA 1)
  (.leaf))
  (.leaf))))
  (rA 3))))))
  (.seq (rA 2)
  (.seq (.seq (rA 1)
  (.block (.loop [(0, .str), (4, .any), (5, .int .i64)] (fun n l h => s48l4_R (s48l4 Ψ n) l h) (fun L4 =>
  .seq (.seq (rA 4)
  (.cond (.leaf)
  (.leaf)))
  (.seq (.block (.seq (rA 6)
  (.cond (.seq (rA 1)
  (.leaf))
  (.leaf))))
  (rA 3))))))
  (.seq (rA 1)
  (.leaf))))))

theorem s48_ok {Ψ : AVal → Heap → Prop} {s : ByteArray} {h : Heap} (H : s48 Ψ s h) : ACalls prog 48 [(.str s)] h Ψ :=
  calls_of_evF func48 (by kernel_rfl) (by kernel_rfl) (by kernel_rfl)
    (Eq.mpr (by as_aux_lemma => kernel_rfl : oblF prog f48 (s48_A Ψ) Ψ = (True ∧ ((True) ∧ (∀ (h : Heap) (x0 : ByteArray) (x1 : Bool), OI (s48c1 Ψ x0 x1 h)) ∧ ((True ∧ True) ∧ True)) ∧ (True ∧ (∀ (h : Heap) (x0 : ByteArray) (x1 : Int), ON (s48l2 Ψ 0 x0 x1 h)) ∧ ∀ n2 : Nat, (∀ (h : Heap) (x0 : ByteArray) (x1 : Int), OI (s48l2 Ψ (n2 + 1) x0 x1 h)) ∧ ((True ∧ True ∧ True) ∧ ((True) ∧ (∀ (h : Heap) (x0 : ByteArray) (x1 : Int) (x2 : Bool), OI (s48c3 Ψ (s48l2_G (s48l2 Ψ n2)) x0 x1 x2 h)) ∧ ((True ∧ True) ∧ True)) ∧ True)) ∧ True ∧ (True ∧ (∀ (h : Heap) (x0 : ByteArray) (x1 : AVal) (x2 : Int), ON (s48l4 Ψ 0 x0 x1 x2 h)) ∧ ∀ n4 : Nat, (∀ (h : Heap) (x0 : ByteArray) (x1 : AVal) (x2 : Int), OI (s48l4 Ψ (n4 + 1) x0 x1 x2 h)) ∧ ((True ∧ True ∧ True) ∧ (True ∧ (True ∧ True) ∧ True) ∧ True)) ∧ True ∧ True)) ⟨trivial, ⟨⟨trivial, fun _ _ _ H => H, ⟨⟨trivial, trivial⟩, trivial⟩⟩, ⟨⟨trivial, ⟨fun _ _ _ H => H, fun _ => ⟨fun _ _ _ H => H, ⟨⟨trivial, ⟨trivial, trivial⟩⟩, ⟨⟨trivial, fun _ _ _ _ H => H, ⟨⟨trivial, trivial⟩, trivial⟩⟩, trivial⟩⟩⟩⟩⟩, ⟨trivial, ⟨⟨trivial, ⟨fun _ _ _ _ H => H, fun _ => ⟨fun _ _ _ _ H => H, ⟨⟨trivial, ⟨trivial, trivial⟩⟩, ⟨⟨trivial, ⟨⟨trivial, trivial⟩, trivial⟩⟩, trivial⟩⟩⟩⟩⟩, ⟨trivial, trivial⟩⟩⟩⟩⟩⟩)
    (Eq.mpr (by as_aux_lemma => kernel_rfl : evF prog f48 (s48_A Ψ) Ψ [(.str s)] h = s48 Ψ s h) H)

/- 50 dictum/dictumref03.From -/
abbrev s50l1_T := AVal → AVal → Int → Heap → Prop
def s50l1_R (F : s50l1_T) (l : List AVal) (h : Heap) : Prop := J.cons l fun x0 l => J.cons l fun x1 l => J.cons l fun v l => J.int .i64 v fun x2 => J.nil l (F x0 x1 x2 h)
def s50l1_G (F : s50l1_T) (x0 x1 : AVal) (x2 : Int) (h : Heap) : Prop := gJ [.any, .any, .int .i64] [x0, x1, (.int .i64 x2)] h (s50l1_R F)
def s50l1_E (F : Nat → s50l1_T) (x0 x1 : AVal) (x2 : Int) (h : Heap) : Prop := gJ [.any, .any, .int .i64] [x0, x1, (.int .i64 x2)] h (fun l h => ∃ n, s50l1_R (F n) l h)
theorem s50l1_go {F : s50l1_T} {x0 x1 : AVal} {x2 : Int} {h : Heap} (H : F x0 x1 x2 h) : s50l1_G F x0 x1 x2 h := gJ_plain rfl H
theorem s50l1_in {F : Nat → s50l1_T} {x0 x1 : AVal} {x2 : Int} {h : Heap} (n : Nat) (H : F n x0 x1 x2 h) : s50l1_E F x0 x1 x2 h := gJ_plain rfl ⟨n, H⟩

def s50l1 (Ψ : AVal → Heap → Prop) : Nat → s50l1_T
  | 0, _, _, _, _ => False
  | n + 1, rows1, t, i, h =>
    lenN rows1 fun n1 =>
    ifT (decide (i < n1)) (
      ixS 4 rows1 i fun p =>
      ldN 4 h p fun l_ =>
      tCons l_ fun v l_1 =>
      tInt .i64 v fun v1 =>
      tCons l_1 fun v2 l_2 =>
      tStr v2 fun v3 =>
      tCons l_2 fun v4 l_3 =>
      tInt .i64 v4 fun v5 =>
      tCons l_3 fun v6 l_4 =>
      tInt .i64 v6 fun v7 =>
      tNil l_4 (
        callG prog 78 [t, (.agg [(.int .i64 v1), (.str v3), (.int .i64 v5), (.int .i64 v7)])] h fun v8 h_1 =>
        tTup v8 fun l_5 =>
        tCons l_5 fun v9 l_6 =>
        tInt .i64 v9 fun v10 =>
        tCons l_6 fun v11 l_7 =>
        tInt .i64 v11 fun v12 =>
        tNil l_7 (
          ifT (v12 != 0) (
            retG (.tuple [.nilptr, (.int .i64 v12)]) h_1 Ψ) (
            ifT (v10 != i) (
              retG (.tuple [.nilptr, (.int .i64 31)]) h_1 Ψ) (
              rg (i + 1) (
                s50l1_G (s50l1 Ψ n) rows1 t (i + 1) h_1)))))) (
      retG (.tuple [t, (.int .i64 0)]) h Ψ)

def s50 (Ψ : AVal → Heap → Prop) (rows : AVal) (h : Heap) : Prop :=
  Sym.newRow 1 [(.agg [.nilsl])] h fun r h_ =>
  s50l1_E (s50l1 Ψ) rows (.ptr r 0 0) 0 h_

def s50_A (Ψ : AVal → Heap → Prop) : Ann :=
  .seq (rA 2)
  (.seq (rA 3)
  (.seq (.seq (rA 1)
  (.block (.loop [(0, .any), (4, .any), (5, .int .i64)] (fun n l h => s50l1_R (s50l1 Ψ n) l h) (fun L1 =>
  .seq (.seq (rA 4)
  (.cond (.leaf)
  (.leaf)))
  (.seq (.block (.seq (rA 11)
  (.seq (.seq (rA 2)
  (.cond (.seq (rA 3)
  (.leaf))
  (.leaf)))
  (.seq (rA 3)
  (.cond (.seq (rA 2)
  (.leaf))
  (.leaf))))))
  (rA 3))))))
  (.seq (rA 3)
  (.leaf))))

theorem s50_ok {Ψ : AVal → Heap → Prop} {rows : AVal} {h : Heap} (H : s50 Ψ rows h) : ACalls prog 50 [rows] h Ψ :=
  calls_of_evF func50 (by kernel_rfl) (by kernel_rfl) (by kernel_rfl)
    (Eq.mpr (by as_aux_lemma => kernel_rfl : oblF prog f50 (s50_A Ψ) Ψ = (True ∧ True ∧ (True ∧ (∀ (h : Heap) (x0 x1 : AVal) (x2 : Int), ON (s50l1 Ψ 0 x0 x1 x2 h)) ∧ ∀ n1 : Nat, (∀ (h : Heap) (x0 x1 : AVal) (x2 : Int), OI (s50l1 Ψ (n1 + 1) x0 x1 x2 h)) ∧ ((True ∧ True ∧ True) ∧ (True ∧ (True ∧ (True ∧ True) ∧ True) ∧ True ∧ (True ∧ True) ∧ True) ∧ True)) ∧ True ∧ True)) ⟨trivial, ⟨trivial, ⟨⟨trivial, ⟨fun _ _ _ _ H => H, fun _ => ⟨fun _ _ _ _ H => H, ⟨⟨trivial, ⟨trivial, trivial⟩⟩, ⟨⟨trivial, ⟨⟨trivial, ⟨⟨trivial, trivial⟩, trivial⟩⟩, ⟨trivial, ⟨⟨trivial, trivial⟩, trivial⟩⟩⟩⟩, trivial⟩⟩⟩⟩⟩, ⟨trivial, trivial⟩⟩⟩⟩)
    (Eq.mpr (by as_aux_lemma => kernel_rfl : evF prog f50 (s50_A Ψ) Ψ [rows] h = s50 Ψ rows h) H)

/- 52 dictum/morph.Bounded$1 -/
def s52 (Ψ : AVal → Heap → Prop) (w : Int) (c0 : AVal) (h : Heap) : Prop :=
  ifT (decide (w < 0)) (
    retG (.bool true) h Ψ) (
    ld1 h c0 fun v =>
    lenN v fun n =>
    retG (.bool (decide (n ≤ w))) h Ψ)

def s52_A (Ψ : AVal → Heap → Prop) : Ann :=
  .seq (rA 1)
  (.seq (.reg [⟨none, [(0, false), (1, false), (2, false)]⟩, ⟨some (6, false), [(3, false), (4, false), (5, false), (6, false)]⟩, ⟨none, [(7, false), (8, false)]⟩])
  (.leaf))

theorem s52_ok {Ψ : AVal → Heap → Prop} {w : Int} {c0 : AVal} {h : Heap} (H : s52 Ψ w c0 h) : ACalls prog 52 [(.int .i64 w), c0] h Ψ :=
  calls_of_evF func52 (by kernel_rfl) (by kernel_rfl) (by kernel_rfl)
    (Eq.mpr (by as_aux_lemma => kernel_rfl : oblF prog f52 (s52_A Ψ) Ψ = (True ∧ True ∧ True)) ⟨trivial, ⟨trivial, trivial⟩⟩)
    (Eq.mpr (by as_aux_lemma => kernel_rfl : evF prog f52 (s52_A Ψ) Ψ [(.int .i64 w), c0] h = s52 Ψ w c0 h) H)

/- 54 slices.Contains[[]int,int] -/
def s54 (Ψ : AVal → Heap → Prop) (s : AVal) (v : Int) (h : Heap) : Prop :=
  callG prog 80 [s, (.int .i64 v)] h fun v1 h_ =>
  tInt .i64 v1 fun v2 =>
  retG (.bool (decide (0 ≤ v2))) h_ Ψ

def s54_A (Ψ : AVal → Heap → Prop) : Ann :=
  .seq (rA 1)
  (.seq (rA 5)
  (.leaf))

theorem s54_ok {Ψ : AVal → Heap → Prop} {s : AVal} {v : Int} {h : Heap} (H : s54 Ψ s v h) : ACalls prog 54 [s, (.int .i64 v)] h Ψ :=
  calls_of_evF func54 (by kernel_rfl) (by kernel_rfl) (by kernel_rfl)
    (Eq.mpr (by as_aux_lemma => kernel_rfl : oblF prog f54 (s54_A Ψ) Ψ = (True ∧ True ∧ True)) ⟨trivial, ⟨trivial, trivial⟩⟩)
    (Eq.mpr (by as_aux_lemma => kernel_rfl : evF prog f54 (s54_A Ψ) Ψ [s, (.int .i64 v)] h = s54 Ψ s v h) H)

/- 56 dictum/dictumlaw19.Forced -/
abbrev s56l1_T := AVal → AVal → AVal → AVal → Int → Heap → Prop
def s56l1_R (F : s56l1_T) (l : List AVal) (h : Heap) : Prop := J.cons l fun x0 l => J.cons l fun x1 l => J.cons l fun x2 l => J.cons l fun x3 l => J.cons l fun v l => J.int .i64 v fun x4 => J.nil l (F x0 x1 x2 x3 x4 h)
def s56l1_G (F : s56l1_T) (x0 x1 x2 x3 : AVal) (x4 : Int) (h : Heap) : Prop := gJ [.any, .any, .any, .any, .int .i64] [x0, x1, x2, x3, (.int .i64 x4)] h (s56l1_R F)
def s56l1_E (F : Nat → s56l1_T) (x0 x1 x2 x3 : AVal) (x4 : Int) (h : Heap) : Prop := gJ [.any, .any, .any, .any, .int .i64] [x0, x1, x2, x3, (.int .i64 x4)] h (fun l h => ∃ n, s56l1_R (F n) l h)
theorem s56l1_go {F : s56l1_T} {x0 x1 x2 x3 : AVal} {x4 : Int} {h : Heap} (H : F x0 x1 x2 x3 x4 h) : s56l1_G F x0 x1 x2 x3 x4 h := gJ_plain rfl H
theorem s56l1_in {F : Nat → s56l1_T} {x0 x1 x2 x3 : AVal} {x4 : Int} {h : Heap} (n : Nat) (H : F n x0 x1 x2 x3 x4 h) : s56l1_E F x0 x1 x2 x3 x4 h := gJ_plain rfl ⟨n, H⟩

abbrev s56l2_T := AVal → AVal → AVal → AVal → Int → AVal → Int → Heap → Prop
def s56l2_R (F : s56l2_T) (l : List AVal) (h : Heap) : Prop := J.cons l fun x0 l => J.cons l fun x1 l => J.cons l fun x2 l => J.cons l fun x3 l => J.cons l fun v l => J.int .i64 v fun x4 => J.cons l fun x5 l => J.cons l fun v l => J.int .i64 v fun x6 => J.nil l (F x0 x1 x2 x3 x4 x5 x6 h)
def s56l2_G (F : s56l2_T) (x0 x1 x2 x3 : AVal) (x4 : Int) (x5 : AVal) (x6 : Int) (h : Heap) : Prop := gJ [.any, .any, .any, .any, .int .i64, .any, .int .i64] [x0, x1, x2, x3, (.int .i64 x4), x5, (.int .i64 x6)] h (s56l2_R F)
def s56l2_E (F : Nat → s56l2_T) (x0 x1 x2 x3 : AVal) (x4 : Int) (x5 : AVal) (x6 : Int) (h : Heap) : Prop := gJ [.any, .any, .any, .any, .int .i64, .any, .int .i64] [x0, x1, x2, x3, (.int .i64 x4), x5, (.int .i64 x6)] h (fun l h => ∃ n, s56l2_R (F n) l h)
theorem s56l2_go {F : s56l2_T} {x0 x1 x2 x3 : AVal} {x4 : Int} {x5 : AVal} {x6 : Int} {h : Heap} (H : F x0 x1 x2 x3 x4 x5 x6 h) : s56l2_G F x0 x1 x2 x3 x4 x5 x6 h := gJ_plain rfl H
theorem s56l2_in {F : Nat → s56l2_T} {x0 x1 x2 x3 : AVal} {x4 : Int} {x5 : AVal} {x6 : Int} {h : Heap} (n : Nat) (H : F n x0 x1 x2 x3 x4 x5 x6 h) : s56l2_E F x0 x1 x2 x3 x4 x5 x6 h := gJ_plain rfl ⟨n, H⟩

def s56c3 (Ψ : AVal → Heap → Prop) (L1 : s56l1_T) (L2 : s56l2_T) (o3 rows3 m2 out2 : AVal) (i2 : Int) (x1 : AVal) (a1 : Int) (h : Heap) : Prop :=
  rg (a1 + 1) (
    L2 o3 rows3 m2 out2 i2 x1 (a1 + 1) h)

abbrev s56l4_T := AVal → AVal → AVal → AVal → Int → AVal → Int → Int → Heap → Prop
def s56l4_R (F : s56l4_T) (l : List AVal) (h : Heap) : Prop := J.cons l fun x0 l => J.cons l fun x1 l => J.cons l fun x2 l => J.cons l fun x3 l => J.cons l fun v l => J.int .i64 v fun x4 => J.cons l fun x5 l => J.cons l fun v l => J.int .i64 v fun x6 => J.cons l fun v l => J.int .i64 v fun x7 => J.nil l (F x0 x1 x2 x3 x4 x5 x6 x7 h)
def s56l4_G (F : s56l4_T) (x0 x1 x2 x3 : AVal) (x4 : Int) (x5 : AVal) (x6 x7 : Int) (h : Heap) : Prop := gJ [.any, .any, .any, .any, .int .i64, .any, .int .i64, .int .i64] [x0, x1, x2, x3, (.int .i64 x4), x5, (.int .i64 x6), (.int .i64 x7)] h (s56l4_R F)
def s56l4_E (F : Nat → s56l4_T) (x0 x1 x2 x3 : AVal) (x4 : Int) (x5 : AVal) (x6 x7 : Int) (h : Heap) : Prop := gJ [.any, .any, .any, .any, .int .i64, .any, .int .i64, .int .i64] [x0, x1, x2, x3, (.int .i64 x4), x5, (.int .i64 x6), (.int .i64 x7)] h (fun l h => ∃ n, s56l4_R (F n) l h)
theorem s56l4_go {F : s56l4_T} {x0 x1 x2 x3 : AVal} {x4 : Int} {x5 : AVal} {x6 x7 : Int} {h : Heap} (H : F x0 x1 x2 x3 x4 x5 x6 x7 h) : s56l4_G F x0 x1 x2 x3 x4 x5 x6 x7 h := gJ_plain rfl H
theorem s56l4_in {F : Nat → s56l4_T} {x0 x1 x2 x3 : AVal} {x4 : Int} {x5 : AVal} {x6 x7 : Int} {h : Heap} (n : Nat) (H : F n x0 x1 x2 x3 x4 x5 x6 x7 h) : s56l4_E F x0 x1 x2 x3 x4 x5 x6 x7 h := gJ_plain rfl ⟨n, H⟩

def s56c5 (Ψ : AVal → Heap → Prop) (L1 : s56l1_T) (L2 : s56l2_T) (L4 : s56l4_T) (o5 rows5 m4 out4 : AVal) (i4 : Int) (x3 : AVal) (a3 k1 : Int) (h : Heap) : Prop :=
  rg (k1 + 1) (
    L4 o5 rows5 m4 out4 i4 x3 a3 (k1 + 1) h)

def s56l4 (Ψ : AVal → Heap → Prop) (L1 : s56l1_T) (L2 : s56l2_T) : Nat → s56l4_T
  | 0, _, _, _, _, _, _, _, _, _ => False
  | n6 + 1, o4, rows4, m3, out3, i3, x2, a2, k, h =>
    addOff m3 1 fun p3 =>
    ld1 h p3 fun v12 =>
    ixS 1 v12 a2 fun p4 =>
    ld1 h p4 fun v13 =>
    lenN v13 fun n7 =>
    ifT (decide (k < n7)) (
      ixS 1 out3 i3 fun p5 =>
      ld1 h p5 fun v14 =>
      ixS 1 out3 i3 fun p6 =>
      ld1 h p6 fun v15 =>
      ixS 1 v15 a2 fun p7 =>
      ld1 h p7 fun v16 =>
      tBool v16 fun v17 =>
      ifT v17 (
        ixS 1 v14 a2 fun p13 =>
        st true h p13 [(.bool true)] fun h_6 =>
        s56c5 Ψ L1 L2 (s56l4_G (s56l4 Ψ L1 L2 n6)) o4 rows4 m3 out3 i3 x2 a2 k h_6) (
        addOff m3 1 fun p8 =>
        ld1 h p8 fun v18 =>
        ixS 1 v18 a2 fun p9 =>
        ld1 h p9 fun v19 =>
        ixS 1 v19 k fun p10 =>
        ld1 h p10 fun v20 =>
        tStr v20 fun v21 =>
        addOff x2 1 fun p11 =>
        ld1 h p11 fun v22 =>
        tStr v22 fun v23 =>
        ixS 1 v14 a2 fun p12 =>
        st true h p12 [(.bool (strEq v21 v23))] fun h_5 =>
        s56c5 Ψ L1 L2 (s56l4_G (s56l4 Ψ L1 L2 n6)) o4 rows4 m3 out3 i3 x2 a2 k h_5)) (
      s56c3 Ψ L1 L2 o4 rows4 m3 out3 i3 x2 a2 h)

abbrev s56l6_T := AVal → AVal → AVal → AVal → Int → AVal → Int → Int → Heap → Prop
def s56l6_R (F : s56l6_T) (l : List AVal) (h : Heap) : Prop := J.cons l fun x0 l => J.cons l fun x1 l => J.cons l fun x2 l => J.cons l fun x3 l => J.cons l fun v l => J.int .i64 v fun x4 => J.cons l fun x5 l => J.cons l fun v l => J.int .i64 v fun x6 => J.cons l fun v l => J.int .i64 v fun x7 => J.nil l (F x0 x1 x2 x3 x4 x5 x6 x7 h)
def s56l6_G (F : s56l6_T) (x0 x1 x2 x3 : AVal) (x4 : Int) (x5 : AVal) (x6 x7 : Int) (h : Heap) : Prop := gJ [.any, .any, .any, .any, .int .i64, .any, .int .i64, .int .i64] [x0, x1, x2, x3, (.int .i64 x4), x5, (.int .i64 x6), (.int .i64 x7)] h (s56l6_R F)
def s56l6_E (F : Nat → s56l6_T) (x0 x1 x2 x3 : AVal) (x4 : Int) (x5 : AVal) (x6 x7 : Int) (h : Heap) : Prop := gJ [.any, .any, .any, .any, .int .i64, .any, .int .i64, .int .i64] [x0, x1, x2, x3, (.int .i64 x4), x5, (.int .i64 x6), (.int .i64 x7)] h (fun l h => ∃ n, s56l6_R (F n) l h)
theorem s56l6_go {F : s56l6_T} {x0 x1 x2 x3 : AVal} {x4 : Int} {x5 : AVal} {x6 x7 : Int} {h : Heap} (H : F x0 x1 x2 x3 x4 x5 x6 x7 h) : s56l6_G F x0 x1 x2 x3 x4 x5 x6 x7 h := gJ_plain rfl H
theorem s56l6_in {F : Nat → s56l6_T} {x0 x1 x2 x3 : AVal} {x4 : Int} {x5 : AVal} {x6 x7 : Int} {h : Heap} (n : Nat) (H : F n x0 x1 x2 x3 x4 x5 x6 x7 h) : s56l6_E F x0 x1 x2 x3 x4 x5 x6 x7 h := gJ_plain rfl ⟨n, H⟩

def s56c7 (Ψ : AVal → Heap → Prop) (L1 : s56l1_T) (L2 : s56l2_T) (L6 : s56l6_T) (o7 rows7 m6 out6 : AVal) (i6 : Int) (x5 : AVal) (a5 b1 : Int) (h : Heap) : Prop :=
  rg (b1 + 1) (
    L6 o7 rows7 m6 out6 i6 x5 a5 (b1 + 1) h)

def s56c8 (Ψ : AVal → Heap → Prop) (L1 : s56l1_T) (L2 : s56l2_T) (L6 : s56l6_T) (o8 rows8 m7 out7 : AVal) (i7 : Int) (x6 : AVal) (a6 b2 : Int) (t171 : Bool) (h : Heap) : Prop :=
  ifT t171 (
    ixS 1 out7 i7 fun p34 =>
    ld1 h p34 fun v47 =>
    ixS 1 v47 a6 fun p35 =>
    st true h p35 [(.bool false)] fun h_12 =>
    s56c7 Ψ L1 L2 L6 o8 rows8 m7 out7 i7 x6 a6 b2 h_12) (
    s56c7 Ψ L1 L2 L6 o8 rows8 m7 out7 i7 x6 a6 b2 h)

def s56l6 (Ψ : AVal → Heap → Prop) (L1 : s56l1_T) (L2 : s56l2_T) : Nat → s56l6_T
  | 0, _, _, _, _, _, _, _, _, _ => False
  | n9 + 1, o6, rows6, m5, out5, i5, x4, a4, b, h =>
    lenN o6 fun n10 =>
    ifT (decide (b < n10)) (
      ixS 1 o6 a4 fun p36 =>
      ld1 h p36 fun v48 =>
      ixS 1 v48 b fun p37 =>
      ld1 h p37 fun v49 =>
      tBool v49 fun v50 =>
      ifT v50 (
        addOff x4 2 fun p38 =>
        ld1 h p38 fun v51 =>
        tInt .i64 v51 fun v52 =>
        ixS 1 out5 v52 fun p39 =>
        ld1 h p39 fun v53 =>
        ixS 1 v53 b fun p40 =>
        ld1 h p40 fun v54 =>
        tBool v54 fun v55 =>
        ifT v55 (
          addOff x4 3 fun p41 =>
          ld1 h p41 fun v56 =>
          tInt .i64 v56 fun v57 =>
          ixS 1 out5 v57 fun p42 =>
          ld1 h p42 fun v58 =>
          ixS 1 v58 b fun p43 =>
          ld1 h p43 fun v59 =>
          tBool v59 fun v60 =>
          s56c8 Ψ L1 L2 (s56l6_G (s56l6 Ψ L1 L2 n9)) o6 rows6 m5 out5 i5 x4 a4 b (!v60) h) (
          s56c8 Ψ L1 L2 (s56l6_G (s56l6 Ψ L1 L2 n9)) o6 rows6 m5 out5 i5 x4 a4 b false h)) (
        s56c8 Ψ L1 L2 (s56l6_G (s56l6 Ψ L1 L2 n9)) o6 rows6 m5 out5 i5 x4 a4 b false h)) (
      s56c3 Ψ L1 L2 o6 rows6 m5 out5 i5 x4 a4 h)

def s56l2 (Ψ : AVal → Heap → Prop) (L1 : s56l1_T) : Nat → s56l2_T
  | 0, _, _, _, _, _, _, _, _ => False
  | n4 + 1, o2, rows2, m1, out1, i1, x, a, h =>
    lenN o2 fun n5 =>
    ifT (decide (a < n5)) (
      addOff x 0 fun p2 =>
      ld1 h p2 fun v10 =>
      tInt .i64 v10 fun v11 =>
      ifT (v11 == 1) (
        s56l4_E (s56l4 Ψ L1 (s56l2_G (s56l2 Ψ L1 n4))) o2 rows2 m1 out1 i1 x a 0 h) (
        ifT (v11 == 3) (
          ixS 1 out1 i1 fun p14 =>
          ld1 h p14 fun v24 =>
          addOff x 2 fun p15 =>
          ld1 h p15 fun v25 =>
          tInt .i64 v25 fun v26 =>
          ixS 1 out1 v26 fun p16 =>
          ld1 h p16 fun v27 =>
          ixS 1 v27 a fun p17 =>
          ld1 h p17 fun v28 =>
          tBool v28 fun v29 =>
          ifT v29 (
            addOff x 3 fun p18 =>
            ld1 h p18 fun v30 =>
            tInt .i64 v30 fun v31 =>
            ixS 1 out1 v31 fun p19 =>
            ld1 h p19 fun v32 =>
            ixS 1 v32 a fun p20 =>
            ld1 h p20 fun v33 =>
            tBool v33 fun v34 =>
            ixS 1 v24 a fun p21 =>
            st true h p21 [(.bool v34)] fun h_7 =>
            s56c3 Ψ L1 (s56l2_G (s56l2 Ψ L1 n4)) o2 rows2 m1 out1 i1 x a h_7) (
            ixS 1 v24 a fun p22 =>
            st true h p22 [(.bool false)] fun h_8 =>
            s56c3 Ψ L1 (s56l2_G (s56l2 Ψ L1 n4)) o2 rows2 m1 out1 i1 x a h_8)) (
          ifT (v11 == 4) (
            ixS 1 out1 i1 fun p23 =>
            ld1 h p23 fun v35 =>
            addOff x 2 fun p24 =>
            ld1 h p24 fun v36 =>
            tInt .i64 v36 fun v37 =>
            ixS 1 out1 v37 fun p25 =>
            ld1 h p25 fun v38 =>
            ixS 1 v38 a fun p26 =>
            ld1 h p26 fun v39 =>
            tBool v39 fun v40 =>
            ifT v40 (
              ixS 1 v35 a fun p31 =>
              st true h p31 [(.bool true)] fun h_10 =>
              s56c3 Ψ L1 (s56l2_G (s56l2 Ψ L1 n4)) o2 rows2 m1 out1 i1 x a h_10) (
              addOff x 3 fun p27 =>
              ld1 h p27 fun v41 =>
              tInt .i64 v41 fun v42 =>
              ixS 1 out1 v42 fun p28 =>
              ld1 h p28 fun v43 =>
              ixS 1 v43 a fun p29 =>
              ld1 h p29 fun v44 =>
              tBool v44 fun v45 =>
              ixS 1 v35 a fun p30 =>
              st true h p30 [(.bool v45)] fun h_9 =>
              s56c3 Ψ L1 (s56l2_G (s56l2 Ψ L1 n4)) o2 rows2 m1 out1 i1 x a h_9)) (
            ifT (v11 == 5) (
              ixS 1 out1 i1 fun p32 =>
              ld1 h p32 fun v46 =>
              ixS 1 v46 a fun p33 =>
              st true h p33 [(.bool true)] fun h_11 =>
              s56l6_E (s56l6 Ψ L1 (s56l2_G (s56l2 Ψ L1 n4))) o2 rows2 m1 out1 i1 x a 0 h_11) (
              s56c3 Ψ L1 (s56l2_G (s56l2 Ψ L1 n4)) o2 rows2 m1 out1 i1 x a h))))) (
      rg (i1 + 1) (
        L1 o2 rows2 m1 out1 (i1 + 1) h))

def s56l1 (Ψ : AVal → Heap → Prop) : Nat → s56l1_T
  | 0, _, _, _, _, _, _ => False
  | n1 + 1, o1, rows1, m, out, i, h =>
    lenN rows1 fun n2 =>
    ifT (decide (i < n2)) (
      ixS 4 rows1 i fun p =>
      ldN 4 h p fun l_ =>
      tCons l_ fun v1 l_1 =>
      tInt .i64 v1 fun v2 =>
      tCons l_1 fun v3 l_2 =>
      tStr v3 fun v4 =>
      tCons l_2 fun v5 l_3 =>
      tInt .i64 v5 fun v6 =>
      tCons l_3 fun v7 l_4 =>
      tInt .i64 v7 fun v8 =>
      tNil l_4 (
        Sym.newRow 4 [(.agg [(.int .i64 0), (.str (ByteArray.mk #[])), (.int .i64 0), (.int .i64 0)])] h fun r h_1 =>
        st false h_1 (.ptr r 0 0) [(.int .i64 v2), (.str v4), (.int .i64 v6), (.int .i64 v8)] fun h_2 =>
        lenN o1 fun n3 =>
        mkS false 1 1 (.bool false) h_2 n3 n3 fun v9 h_3 =>
        ixS 1 out i fun p1 =>
        chk (sc v9) (
          st true h_3 p1 [v9] fun h_4 =>
          s56l2_E (s56l2 Ψ (s56l1_G (s56l1 Ψ n1))) o1 rows1 m out i (.ptr r 0 0) 0 h_4))) (
      retG out h Ψ)

def s56 (Ψ : AVal → Heap → Prop) (m_Up : AVal) (m_Val : AVal) (o : AVal) (rows : AVal) (h : Heap) : Prop :=
  lenN rows fun n =>
  mkS false 1 24 .nilsl h n n fun v h_ =>
  s56l1_E (s56l1 Ψ) o rows (.lptr [m_Up, m_Val]) v 0 h_

def s56_A (Ψ : AVal → Heap → Prop) : Ann :=
  .seq (.reg [⟨none, [(0, true), (1, false)]⟩])
  (.seq (rA 4)
  (.seq (.seq (rA 1)
  (.block (.loop [(1, .any), (2, .any), (3, .any), (7, .any), (8, .int .i64)] (fun n l h => s56l1_R (s56l1 Ψ n) l h) (fun L1 =>
  .seq (.seq (rA 4)
  (.cond (.leaf)
  (.leaf)))
  (.seq (.block (.seq (rA 6)
  (.seq (rA 7)
  (.seq (rA 1)
  (.block (.loop [(1, .any), (2, .any), (3, .any), (7, .any), (8, .int .i64), (9, .any), (10, .int .i64)] (fun n l h => s56l2_R (s56l2 Ψ (fun y0 y1 y2 y3 y4 h => L1 [y0, y1, y2, y3, (.int .i64 y4)] h) n) l h) (fun L2 =>
  .seq (.seq (rA 4)
  (.cond (.leaf)
  (.leaf)))
  (.cut [(1, .any), (2, .any), (3, .any), (7, .any), (8, .int .i64), (9, .any), (10, .int .i64)] (fun l h => J.cons l fun x0 l => J.cons l fun x1 l => J.cons l fun x2 l => J.cons l fun x3 l => J.cons l fun v l => J.int .i64 v fun x4 => J.cons l fun x5 l => J.cons l fun v l => J.int .i64 v fun x6 => J.nil l (s56c3 Ψ (fun y0 y1 y2 y3 y4 h => L1 [y0, y1, y2, y3, (.int .i64 y4)] h) (fun y0 y1 y2 y3 y4 y5 y6 h => L2 [y0, y1, y2, y3, (.int .i64 y4), y5, (.int .i64 y6)] h) x0 x1 x2 x3 x4 x5 x6 h)) (.block (.seq (rA 2)
  (.block (.seq (rA 2)
  (.cond (.seq (rA 1)
  (.block (.loop [(1, .any), (2, .any), (3, .any), (7, .any), (8, .int .i64), (9, .any), (10, .int .i64), (11, .int .i64)] (fun n l h => s56l4_R (s56l4 Ψ (fun y0 y1 y2 y3 y4 h => L1 [y0, y1, y2, y3, (.int .i64 y4)] h) (fun y0 y1 y2 y3 y4 y5 y6 h => L2 [y0, y1, y2, y3, (.int .i64 y4), y5, (.int .i64 y6)] h) n) l h) (fun L4 =>
  .seq (.seq (rA 8)
  (.cond (.leaf)
  (.leaf)))
  (.cut [(1, .any), (2, .any), (3, .any), (7, .any), (8, .int .i64), (9, .any), (10, .int .i64), (11, .int .i64)] (fun l h => J.cons l fun x0 l => J.cons l fun x1 l => J.cons l fun x2 l => J.cons l fun x3 l => J.cons l fun v l => J.int .i64 v fun x4 => J.cons l fun x5 l => J.cons l fun v l => J.int .i64 v fun x6 => J.cons l fun v l => J.int .i64 v fun x7 => J.nil l (s56c5 Ψ (fun y0 y1 y2 y3 y4 h => L1 [y0, y1, y2, y3, (.int .i64 y4)] h) (fun y0 y1 y2 y3 y4 y5 y6 h => L2 [y0, y1, y2, y3, (.int .i64 y4), y5, (.int .i64 y6)] h) (fun y0 y1 y2 y3 y4 y5 y6 y7 h => L4 [y0, y1, y2, y3, (.int .i64 y4), y5, (.int .i64 y6), (.int .i64 y7)] h) x0 x1 x2 x3 x4 x5 x6 x7 h)) (.block (.draw [(0, false), (1, false), (2, false), (3, false), (4, false), (5, false), (6, false), (7, false), (8, false), (9, false), (10, false), (11, false), (12, false), (13, false), (14, false), (15, false), (16, false), (17, false), (18, false), (19, false), (20, false), (21, false), (22, false), (23, false), (24, false), (25, false), (26, false)] [0, 0, 3, 7, 0, 0, 0, 96, 224, 0, 992, 2016, 4064, 8160, 16352, 8160, 65504, 131040, 8160, 524256, 1048544, 8160, 2105312, 8388576, 16777184, 33554431, 67108863]))
  (rA 3))))))
  (.seq (rA 2)
  (.cond (.draw [(0, false), (1, false), (2, false), (3, false), (4, false), (5, false), (6, false), (7, false), (8, false), (9, false), (10, false), (11, false), (12, false), (13, false), (14, false), (15, false), (16, false), (17, false), (18, false), (19, false), (20, false), (21, false), (22, false), (23, false), (24, false)] [0, 0, 3, 7, 0, 0, 0, 64, 224, 480, 0, 2016, 4064, 8160, 16352, 16352, 49120, 131040, 262112, 16352, 1048544, 2097120, 4194272, 8388607, 16777215])
  (.seq (rA 2)
  (.cond (.draw [(0, false), (1, false), (2, false), (3, false), (4, false), (5, false), (6, false), (7, false), (8, false), (9, false), (10, false), (11, false), (12, false), (13, false), (14, false), (15, false), (16, false), (17, false), (18, false), (19, false), (20, false), (21, false), (22, false), (23, false), (24, false)] [0, 0, 3, 7, 0, 0, 0, 64, 224, 480, 0, 2016, 4064, 8160, 16352, 16352, 49120, 131040, 262112, 16352, 1048544, 2097120, 4194272, 8388607, 16777215])
  (.seq (rA 2)
  (.cond (.seq (rA 7)
  (.seq (rA 1)
  (.block (.loop [(1, .any), (2, .any), (3, .any), (7, .any), (8, .int .i64), (9, .any), (10, .int .i64), (12, .int .i64)] (fun n l h => s56l6_R (s56l6 Ψ (fun y0 y1 y2 y3 y4 h => L1 [y0, y1, y2, y3, (.int .i64 y4)] h) (fun y0 y1 y2 y3 y4 y5 y6 h => L2 [y0, y1, y2, y3, (.int .i64 y4), y5, (.int .i64 y6)] h) n) l h) (fun L6 =>
  .seq (.seq (rA 4)
  (.cond (.leaf)
  (.leaf)))
  (.cut [(1, .any), (2, .any), (3, .any), (7, .any), (8, .int .i64), (9, .any), (10, .int .i64), (12, .int .i64)] (fun l h => J.cons l fun x0 l => J.cons l fun x1 l => J.cons l fun x2 l => J.cons l fun x3 l => J.cons l fun v l => J.int .i64 v fun x4 => J.cons l fun x5 l => J.cons l fun v l => J.int .i64 v fun x6 => J.cons l fun v l => J.int .i64 v fun x7 => J.nil l (s56c7 Ψ (fun y0 y1 y2 y3 y4 h => L1 [y0, y1, y2, y3, (.int .i64 y4)] h) (fun y0 y1 y2 y3 y4 y5 y6 h => L2 [y0, y1, y2, y3, (.int .i64 y4), y5, (.int .i64 y6)] h) (fun y0 y1 y2 y3 y4 y5 y6 y7 h => L6 [y0, y1, y2, y3, (.int .i64 y4), y5, (.int .i64 y6), (.int .i64 y7)] h) x0 x1 x2 x3 x4 x5 x6 x7 h)) (.block (.cut [(1, .any), (2, .any), (3, .any), (7, .any), (8, .int .i64), (9, .any), (10, .int .i64), (12, .int .i64), (171, .bool)] (fun l h => J.cons l fun x0 l => J.cons l fun x1 l => J.cons l fun x2 l => J.cons l fun x3 l => J.cons l fun v l => J.int .i64 v fun x4 => J.cons l fun x5 l => J.cons l fun v l => J.int .i64 v fun x6 => J.cons l fun v l => J.int .i64 v fun x7 => J.cons l fun v l => J.bool v fun x8 => J.nil l (s56c8 Ψ (fun y0 y1 y2 y3 y4 h => L1 [y0, y1, y2, y3, (.int .i64 y4)] h) (fun y0 y1 y2 y3 y4 y5 y6 h => L2 [y0, y1, y2, y3, (.int .i64 y4), y5, (.int .i64 y6)] h) (fun y0 y1 y2 y3 y4 y5 y6 y7 h => L6 [y0, y1, y2, y3, (.int .i64 y4), y5, (.int .i64 y6), (.int .i64 y7)] h) x0 x1 x2 x3 x4 x5 x6 x7 x8 h)) (.reg [⟨none, [(0, false), (1, false), (2, false), (3, false), (4, false), (5, false), (6, false), (7, false)]⟩, ⟨some (151, true), [(8, false), (9, false), (10, false), (11, false), (12, false), (13, false), (14, false), (15, false)]⟩, ⟨none, [(16, false), (17, false)]⟩, ⟨some (161, true), [(18, false), (19, false), (20, false), (21, false), (22, false), (23, false), (24, false), (25, false), (26, false)]⟩, ⟨none, [(27, false)]⟩])
  (.cond (rA 7)
  (.leaf))))
  (rA 3)))))))
  (.leaf))))))))))))
  (rA 3)))))))))
  (rA 3))))))
  (.seq (rA 2)
  (.leaf))))

theorem s56_ok {Ψ : AVal → Heap → Prop} {m_Up : AVal} {m_Val : AVal} {o : AVal} {rows : AVal} {h : Heap} (H : s56 Ψ m_Up m_Val o rows h) : ACalls prog 56 [(.agg [m_Up, m_Val]), o, rows] h Ψ :=
  calls_of_evF func56 (by kernel_rfl) (by kernel_rfl) (by kernel_rfl)
    (Eq.mpr (by as_aux_lemma => kernel_rfl : oblF prog f56 (s56_A Ψ) Ψ = (True ∧ True ∧ (True ∧ (∀ (h : Heap) (x0 x1 x2 x3 : AVal) (x4 : Int), ON (s56l1 Ψ 0 x0 x1 x2 x3 x4 h)) ∧ ∀ n1 : Nat, (∀ (h : Heap) (x0 x1 x2 x3 : AVal) (x4 : Int), OI (s56l1 Ψ (n1 + 1) x0 x1 x2 x3 x4 h)) ∧ ((True ∧ True ∧ True) ∧ (True ∧ True ∧ True ∧ (∀ (h : Heap) (x0 x1 x2 x3 : AVal) (x4 : Int) (x5 : AVal) (x6 : Int), ON (s56l2 Ψ (s56l1_G (s56l1 Ψ n1)) 0 x0 x1 x2 x3 x4 x5 x6 h)) ∧ ∀ n2 : Nat, (∀ (h : Heap) (x0 x1 x2 x3 : AVal) (x4 : Int) (x5 : AVal) (x6 : Int), OI (s56l2 Ψ (s56l1_G (s56l1 Ψ n1)) (n2 + 1) x0 x1 x2 x3 x4 x5 x6 h)) ∧ ((True ∧ True ∧ True) ∧ (True ∧ True ∧ (True ∧ (∀ (h : Heap) (x0 x1 x2 x3 : AVal) (x4 : Int) (x5 : AVal) (x6 x7 : Int), ON (s56l4 Ψ (s56l1_G (s56l1 Ψ n1)) (s56l2_G (s56l2 Ψ (s56l1_G (s56l1 Ψ n1)) n2)) 0 x0 x1 x2 x3 x4 x5 x6 x7 h)) ∧ ∀ n4 : Nat, (∀ (h : Heap) (x0 x1 x2 x3 : AVal) (x4 : Int) (x5 : AVal) (x6 x7 : Int), OI (s56l4 Ψ (s56l1_G (s56l1 Ψ n1)) (s56l2_G (s56l2 Ψ (s56l1_G (s56l1 Ψ n1)) n2)) (n4 + 1) x0 x1 x2 x3 x4 x5 x6 x7 h)) ∧ ((True ∧ True ∧ True) ∧ (True) ∧ (∀ (h : Heap) (x0 x1 x2 x3 : AVal) (x4 : Int) (x5 : AVal) (x6 x7 : Int), OI (s56c5 Ψ (s56l1_G (s56l1 Ψ n1)) (s56l2_G (s56l2 Ψ (s56l1_G (s56l1 Ψ n1)) n2)) (s56l4_G (s56l4 Ψ (s56l1_G (s56l1 Ψ n1)) (s56l2_G (s56l2 Ψ (s56l1_G (s56l1 Ψ n1)) n2)) n4)) x0 x1 x2 x3 x4 x5 x6 x7 h)) ∧ (True))) ∧ True ∧ True ∧ True ∧ True ∧ True ∧ (True ∧ True ∧ (∀ (h : Heap) (x0 x1 x2 x3 : AVal) (x4 : Int) (x5 : AVal) (x6 x7 : Int), ON (s56l6 Ψ (s56l1_G (s56l1 Ψ n1)) (s56l2_G (s56l2 Ψ (s56l1_G (s56l1 Ψ n1)) n2)) 0 x0 x1 x2 x3 x4 x5 x6 x7 h)) ∧ ∀ n6 : Nat, (∀ (h : Heap) (x0 x1 x2 x3 : AVal) (x4 : Int) (x5 : AVal) (x6 x7 : Int), OI (s56l6 Ψ (s56l1_G (s56l1 Ψ n1)) (s56l2_G (s56l2 Ψ (s56l1_G (s56l1 Ψ n1)) n2)) (n6 + 1) x0 x1 x2 x3 x4 x5 x6 x7 h)) ∧ ((True ∧ True ∧ True) ∧ ((True) ∧ (∀ (h : Heap) (x0 x1 x2 x3 : AVal) (x4 : Int) (x5 : AVal) (x6 x7 : Int) (x8 : Bool), OI (s56c8 Ψ (s56l1_G (s56l1 Ψ n1)) (s56l2_G (s56l2 Ψ (s56l1_G (s56l1 Ψ n1)) n2)) (s56l6_G (s56l6 Ψ (s56l1_G (s56l1 Ψ n1)) (s56l2_G (s56l2 Ψ (s56l1_G (s56l1 Ψ n1)) n2)) n6)) x0 x1 x2 x3 x4 x5 x6 x7 x8 h)) ∧ (True ∧ True)) ∧ (∀ (h : Heap) (x0 x1 x2 x3 : AVal) (x4 : Int) (x5 : AVal) (x6 x7 : Int), OI (s56c7 Ψ (s56l1_G (s56l1 Ψ n1)) (s56l2_G (s56l2 Ψ (s56l1_G (s56l1 Ψ n1)) n2)) (s56l6_G (s56l6 Ψ (s56l1_G (s56l1 Ψ n1)) (s56l2_G (s56l2 Ψ (s56l1_G (s56l1 Ψ n1)) n2)) n6)) x0 x1 x2 x3 x4 x5 x6 x7 h)) ∧ (True))) ∧ True) ∧ (∀ (h : Heap) (x0 x1 x2 x3 : AVal) (x4 : Int) (x5 : AVal) (x6 : Int), OI (s56c3 Ψ (s56l1_G (s56l1 Ψ n1)) (s56l2_G (s56l2 Ψ (s56l1_G (s56l1 Ψ n1)) n2)) x0 x1 x2 x3 x4 x5 x6 h)) ∧ (True))) ∧ True)) ∧ True ∧ True)) ⟨trivial, ⟨trivial, ⟨⟨trivial, ⟨fun _ _ _ _ _ _ H => H, fun _ => ⟨fun _ _ _ _ _ _ H => H, ⟨⟨trivial, ⟨trivial, trivial⟩⟩, ⟨⟨trivial, ⟨trivial, ⟨trivial, ⟨fun _ _ _ _ _ _ _ _ H => H, fun _ => ⟨fun _ _ _ _ _ _ _ _ H => H, ⟨⟨trivial, ⟨trivial, trivial⟩⟩, ⟨⟨trivial, ⟨trivial, ⟨⟨trivial, ⟨fun _ _ _ _ _ _ _ _ _ H => H, fun _ => ⟨fun _ _ _ _ _ _ _ _ _ H => H, ⟨⟨trivial, ⟨trivial, trivial⟩⟩, ⟨trivial, fun _ _ _ _ _ _ _ _ _ H => H, trivial⟩⟩⟩⟩⟩, ⟨trivial, ⟨trivial, ⟨trivial, ⟨trivial, ⟨trivial, ⟨⟨trivial, ⟨trivial, ⟨fun _ _ _ _ _ _ _ _ _ H => H, fun _ => ⟨fun _ _ _ _ _ _ _ _ _ H => H, ⟨⟨trivial, ⟨trivial, trivial⟩⟩, ⟨⟨trivial, fun _ _ _ _ _ _ _ _ _ _ H => H, ⟨trivial, trivial⟩⟩, fun _ _ _ _ _ _ _ _ _ H => H, trivial⟩⟩⟩⟩⟩⟩, trivial⟩⟩⟩⟩⟩⟩⟩⟩⟩, fun _ _ _ _ _ _ _ _ H => H, trivial⟩⟩⟩⟩⟩⟩⟩, trivial⟩⟩⟩⟩⟩, ⟨trivial, trivial⟩⟩⟩⟩)
    (Eq.mpr (by as_aux_lemma => kernel_rfl : evF prog f56 (s56_A Ψ) Ψ [(.agg [m_Up, m_Val]), o, rows] h = s56 Ψ m_Up m_Val o rows h) H)

/- 58 slices.BinarySearch[[]int,int] -/
abbrev s58l1_T := AVal → Int → Int → Int → Int → Heap → Prop
def s58l1_R (F : s58l1_T) (l : List AVal) (h : Heap) : Prop := J.cons l fun x0 l => J.cons l fun v l => J.int .i64 v fun x1 => J.cons l fun v l => J.int .i64 v fun x2 => J.cons l fun v l => J.int .i64 v fun x3 => J.cons l fun v l => J.int .i64 v fun x4 => J.nil l (F x0 x1 x2 x3 x4 h)
def s58l1_G (F : s58l1_T) (x0 : AVal) (x1 x2 x3 x4 : Int) (h : Heap) : Prop := gJ [.any, .int .i64, .int .i64, .int .i64, .int .i64] [x0, (.int .i64 x1), (.int .i64 x2), (.int .i64 x3), (.int .i64 x4)] h (s58l1_R F)
def s58l1_E (F : Nat → s58l1_T) (x0 : AVal) (x1 x2 x3 x4 : Int) (h : Heap) : Prop := gJ [.any, .int .i64, .int .i64, .int .i64, .int .i64] [x0, (.int .i64 x1), (.int .i64 x2), (.int .i64 x3), (.int .i64 x4)] h (fun l h => ∃ n, s58l1_R (F n) l h)
theorem s58l1_go {F : s58l1_T} {x0 : AVal} {x1 x2 x3 x4 : Int} {h : Heap} (H : F x0 x1 x2 x3 x4 h) : s58l1_G F x0 x1 x2 x3 x4 h := gJ_plain rfl H
theorem s58l1_in {F : Nat → s58l1_T} {x0 : AVal} {x1 x2 x3 x4 : Int} {h : Heap} (n : Nat) (H : F n x0 x1 x2 x3 x4 h) : s58l1_E F x0 x1 x2 x3 x4 h := gJ_plain rfl ⟨n, H⟩

def s58l1 (Ψ : AVal → Heap → Prop) : Nat → s58l1_T
  | 0, _, _, _, _, _, _ => False
  | n2 + 1, x1, target1, n1, i, j, h =>
    ifT (decide (i < j)) (
      rg (i + j) (
        (0 : Int) ≤ 1 ∧
        rg (Int.fdiv (IntKind.u64.wrap (i + j)) (2 ^ (min (Int.toNat 1) (IntKind.u64.bits)))) (
          ixS 1 x1 (Int.fdiv (IntKind.u64.wrap (i + j)) (2 ^ (min (Int.toNat 1) (IntKind.u64.bits)))) fun p =>
          ld1 h p fun v =>
          tInt .i64 v fun v1 =>
          callG prog 81 [(.int .i64 v1), (.int .i64 target1)] h fun v2 h_ =>
          tBool v2 fun v3 =>
          ifT v3 (
            rg ((Int.fdiv (IntKind.u64.wrap (i + j)) (2 ^ (min (Int.toNat 1) (IntKind.u64.bits)))) + 1) (
              s58l1_G (s58l1 Ψ n2) x1 target1 n1 ((Int.fdiv (IntKind.u64.wrap (i + j)) (2 ^ (min (Int.toNat 1) (IntKind.u64.bits)))) + 1) j h_)) (
            s58l1_G (s58l1 Ψ n2) x1 target1 n1 i (Int.fdiv (IntKind.u64.wrap (i + j)) (2 ^ (min (Int.toNat 1) (IntKind.u64.bits)))) h_)))) (
      ifT (decide (i < n1)) (
        ixS 1 x1 i fun p1 =>
        ld1 h p1 fun v4 =>
        tInt .i64 v4 fun v5 =>
        ifT (v5 == target1) (
          retG (.tuple [(.int .i64 i), (.bool true)]) h Ψ) (
          ixS 1 x1 i fun p2 =>
          ld1 h p2 fun v6 =>
          tInt .i64 v6 fun v7 =>
          callG prog 82 [(.int .i64 v7)] h fun v8 h_1 =>
          tBool v8 fun v9 =>
          ifT v9 (
            callG prog 82 [(.int .i64 target1)] h_1 fun v10 h_2 =>
            tBool v10 fun v11 =>
            retG (.tuple [(.int .i64 i), (.bool v11)]) h_2 Ψ) (
            retG (.tuple [(.int .i64 i), (.bool false)]) h_1 Ψ))) (
        retG (.tuple [(.int .i64 i), (.bool false)]) h Ψ))

def s58 (Ψ : AVal → Heap → Prop) (x : AVal) (target : Int) (h : Heap) : Prop :=
  lenN x fun n =>
  s58l1_E (s58l1 Ψ) x target n 0 n h

def s58_A (Ψ : AVal → Heap → Prop) : Ann :=
  .seq (rA 2)
  (.seq (rA 3)
  (.seq (rA 3)
  (.seq (.block (.loop [(0, .any), (1, .int .i64), (6, .int .i64), (7, .int .i64), (8, .int .i64)] (fun n l h => s58l1_R (s58l1 Ψ n) l h) (fun L1 =>
  .seq (.seq (rA 3)
  (.cond (.leaf)
  (.leaf)))
  (.block (.seq (rA 7)
  (.seq (rA 6)
  (.cond (rA 3)
  (rA 2))))))))
  (.seq (.reg [⟨none, [(0, false), (1, false), (2, false), (3, false), (4, false)]⟩, ⟨some (35, true), [(5, false), (6, false), (7, false), (8, false), (9, false), (10, false), (11, false)]⟩, ⟨some (42, false), [(12, false), (13, false), (14, false), (15, false), (16, false), (17, false)]⟩, ⟨some (48, true), [(18, false), (19, false)]⟩, ⟨some (42, false), [(20, false)]⟩, ⟨some (35, true), [(21, false)]⟩, ⟨none, [(22, false), (23, false), (24, false)]⟩])
  (.leaf)))))

theorem s58_ok {Ψ : AVal → Heap → Prop} {x : AVal} {target : Int} {h : Heap} (H : s58 Ψ x target h) : ACalls prog 58 [x, (.int .i64 target)] h Ψ :=
  calls_of_evF func58 (by kernel_rfl) (by kernel_rfl) (by kernel_rfl)
    (Eq.mpr (by as_aux_lemma => kernel_rfl : oblF prog f58 (s58_A Ψ) Ψ = (True ∧ True ∧ True ∧ ((∀ (h : Heap) (x0 : AVal) (x1 x2 x3 x4 : Int), ON (s58l1 Ψ 0 x0 x1 x2 x3 x4 h)) ∧ ∀ n1 : Nat, (∀ (h : Heap) (x0 : AVal) (x1 x2 x3 x4 : Int), OI (s58l1 Ψ (n1 + 1) x0 x1 x2 x3 x4 h)) ∧ ((True ∧ True ∧ True) ∧ True ∧ True ∧ True ∧ True)) ∧ True ∧ True)) ⟨trivial, ⟨trivial, ⟨trivial, ⟨⟨fun _ _ _ _ _ _ H => H, fun _ => ⟨fun _ _ _ _ _ _ H => H, ⟨⟨trivial, ⟨trivial, trivial⟩⟩, ⟨trivial, ⟨trivial, ⟨trivial, trivial⟩⟩⟩⟩⟩⟩, ⟨trivial, trivial⟩⟩⟩⟩⟩)
    (Eq.mpr (by as_aux_lemma => kernel_rfl : evF prog f58 (s58_A Ψ) Ψ [x, (.int .i64 target)] h = s58 Ψ x target h) H)

/- 60 dictum/dictumref17.fine -/
abbrev s60l1_T := AVal → Int → Heap → Prop
def s60l1_R (F : s60l1_T) (l : List AVal) (h : Heap) : Prop := J.cons l fun x0 l => J.cons l fun v l => J.int .i64 v fun x1 => J.nil l (F x0 x1 h)
def s60l1_G (F : s60l1_T) (x0 : AVal) (x1 : Int) (h : Heap) : Prop := gJ [.any, .int .i64] [x0, (.int .i64 x1)] h (s60l1_R F)
def s60l1_E (F : Nat → s60l1_T) (x0 : AVal) (x1 : Int) (h : Heap) : Prop := gJ [.any, .int .i64] [x0, (.int .i64 x1)] h (fun l h => ∃ n, s60l1_R (F n) l h)
theorem s60l1_go {F : s60l1_T} {x0 : AVal} {x1 : Int} {h : Heap} (H : F x0 x1 h) : s60l1_G F x0 x1 h := gJ_plain rfl H
theorem s60l1_in {F : Nat → s60l1_T} {x0 : AVal} {x1 : Int} {h : Heap} (n : Nat) (H : F n x0 x1 h) : s60l1_E F x0 x1 h := gJ_plain rfl ⟨n, H⟩

def s60c2 (Ψ : AVal → Heap → Prop) (L1 : s60l1_T) (l_2 : AVal) (i1 : Int) (t31 : Bool) (h : Heap) : Prop :=
  ifT t31 (
    retG (.bool false) h Ψ) (
    rg (i1 + 1) (
      L1 l_2 (i1 + 1) h))

def s60l1 (Ψ : AVal → Heap → Prop) : Nat → s60l1_T
  | 0, _, _, _ => False
  | n + 1, l_1, i, h =>
    lenN l_1 fun n1 =>
    ifT (decide (i < n1)) (
      ixS 1 l_1 i fun p =>
      ld1 h p fun v =>
      tStr v fun v1 =>
      callG prog 48 [(.str v1)] h fun v2 h_ =>
      tBool v2 fun v3 =>
      ifT (!v3) (
        s60c2 Ψ (s60l1_G (s60l1 Ψ n)) l_1 i true h_) (
        ifT (decide (0 < i)) (
          rg (i - 1) (
            ixS 1 l_1 (i - 1) fun p1 =>
            ld1 h_ p1 fun v4 =>
            tStr v4 fun v5 =>
            ixS 1 l_1 i fun p2 =>
            ld1 h_ p2 fun v6 =>
            tStr v6 fun v7 =>
            s60c2 Ψ (s60l1_G (s60l1 Ψ n)) l_1 i (!strLt v5 v7) h_)) (
          s60c2 Ψ (s60l1_G (s60l1 Ψ n)) l_1 i false h_))) (
      retG (.bool true) h Ψ)

def s60 (Ψ : AVal → Heap → Prop) (l_ : AVal) (h : Heap) : Prop :=
  s60l1_E (s60l1 Ψ) l_ 0 h

def s60_A (Ψ : AVal → Heap → Prop) : Ann :=
  .seq (rA 1)
  (.seq (.seq (rA 1)
  (.block (.loop [(0, .any), (3, .int .i64)] (fun n l h => s60l1_R (s60l1 Ψ n) l h) (fun L1 =>
  .seq (.seq (rA 4)
  (.cond (.leaf)
  (.leaf)))
  (.seq (.block (.cut [(0, .any), (3, .int .i64), (31, .bool)] (fun l h => J.cons l fun x0 l => J.cons l fun v l => J.int .i64 v fun x1 => J.cons l fun v l => J.bool v fun x2 => J.nil l (s60c2 Ψ (fun y0 y1 h => L1 [y0, (.int .i64 y1)] h) x0 x1 x2 h)) (.draw [(0, false), (1, false), (2, false), (3, false), (4, false), (5, false), (6, false), (7, false), (8, false), (9, false), (10, false), (11, false), (12, false), (13, false), (14, false), (15, false), (16, false), (17, false), (18, false), (19, false), (20, false), (21, false)] [0, 0, 3, 7, 15, 31, 63, 127, 255, 511, 1023, 1023, 3071, 8191, 16383, 1023, 1023, 99327, 230399, 524287, 1048575, 2097151])
  (.cond (.seq (rA 1)
  (.leaf))
  (.leaf))))
  (rA 3))))))
  (.seq (rA 1)
  (.leaf)))

theorem s60_ok {Ψ : AVal → Heap → Prop} {l_ : AVal} {h : Heap} (H : s60 Ψ l_ h) : ACalls prog 60 [l_] h Ψ :=
  calls_of_evF func60 (by kernel_rfl) (by kernel_rfl) (by kernel_rfl)
    (Eq.mpr (by as_aux_lemma => kernel_rfl : oblF prog f60 (s60_A Ψ) Ψ = (True ∧ (True ∧ (∀ (h : Heap) (x0 : AVal) (x1 : Int), ON (s60l1 Ψ 0 x0 x1 h)) ∧ ∀ n1 : Nat, (∀ (h : Heap) (x0 : AVal) (x1 : Int), OI (s60l1 Ψ (n1 + 1) x0 x1 h)) ∧ ((True ∧ True ∧ True) ∧ ((True) ∧ (∀ (h : Heap) (x0 : AVal) (x1 : Int) (x2 : Bool), OI (s60c2 Ψ (s60l1_G (s60l1 Ψ n1)) x0 x1 x2 h)) ∧ ((True ∧ True) ∧ True)) ∧ True)) ∧ True ∧ True)) ⟨trivial, ⟨⟨trivial, ⟨fun _ _ _ H => H, fun _ => ⟨fun _ _ _ H => H, ⟨⟨trivial, ⟨trivial, trivial⟩⟩, ⟨⟨trivial, fun _ _ _ _ H => H, ⟨⟨trivial, trivial⟩, trivial⟩⟩, trivial⟩⟩⟩⟩⟩, ⟨trivial, trivial⟩⟩⟩)
    (Eq.mpr (by as_aux_lemma => kernel_rfl : evF prog f60 (s60_A Ψ) Ψ [l_] h = s60 Ψ l_ h) H)

/- 63 dictum/morph.numbered[string] -/
abbrev s63l1_T := AVal → AVal → AVal → Int → Int → Heap → Prop
def s63l1_R (F : s63l1_T) (l : List AVal) (h : Heap) : Prop := J.cons l fun x0 l => J.cons l fun x1 l => J.cons l fun x2 l => J.cons l fun v l => J.int .i64 v fun x3 => J.cons l fun v l => J.int .i64 v fun x4 => J.nil l (F x0 x1 x2 x3 x4 h)
def s63l1_G (F : s63l1_T) (x0 x1 x2 : AVal) (x3 x4 : Int) (h : Heap) : Prop := gJ [.any, .any, .any, .int .i64, .int .i64] [x0, x1, x2, (.int .i64 x3), (.int .i64 x4)] h (s63l1_R F)
def s63l1_E (F : Nat → s63l1_T) (x0 x1 x2 : AVal) (x3 x4 : Int) (h : Heap) : Prop := gJ [.any, .any, .any, .int .i64, .int .i64] [x0, x1, x2, (.int .i64 x3), (.int .i64 x4)] h (fun l h => ∃ n, s63l1_R (F n) l h)
theorem s63l1_go {F : s63l1_T} {x0 x1 x2 : AVal} {x3 x4 : Int} {h : Heap} (H : F x0 x1 x2 x3 x4 h) : s63l1_G F x0 x1 x2 x3 x4 h := gJ_plain rfl H
theorem s63l1_in {F : Nat → s63l1_T} {x0 x1 x2 : AVal} {x3 x4 : Int} {h : Heap} (n : Nat) (H : F n x0 x1 x2 x3 x4 h) : s63l1_E F x0 x1 x2 x3 x4 h := gJ_plain rfl ⟨n, H⟩

def s63c2 (Ψ : AVal → Heap → Prop) (L1 : s63l1_T) (at_1 out1 : AVal) (i : Int) (k : ByteArray) (t14_1 : AVal) (t15_1 t16_1 : Int) (h : Heap) : Prop :=
  mapGet (.int .i64 0) h at_1 (.str k) fun v3 b =>
  tInt .i64 v3 fun v4 =>
  ixS 1 out1 i fun p1 =>
  st true h p1 [(.int .i64 v4)] fun h_2 =>
  rg (t16_1 + 1) (
    L1 at_1 out1 t14_1 t15_1 (t16_1 + 1) h_2)

def s63l1 (Ψ : AVal → Heap → Prop) : Nat → s63l1_T
  | 0, _, _, _, _, _, _ => False
  | n2 + 1, at_, out, t14, t15, t16, h =>
    ifT (decide (t16 < t15)) (
      ixS 1 t14 t16 fun p =>
      ld1 h p fun v1 =>
      tStr v1 fun v2 =>
      mapGet (.int .i64 0) h at_ (.str v2) fun v5 b1 =>
      tInt .i64 v5 fun v6 =>
      ifT (!b1) (
        lenM h at_ fun n3 =>
        mapPut h at_ (.str v2) (.int .i64 n3) fun h_3 =>
        s63c2 Ψ (s63l1_G (s63l1 Ψ n2)) at_ out t16 v2 t14 t15 t16 h_3) (
        s63c2 Ψ (s63l1_G (s63l1 Ψ n2)) at_ out t16 v2 t14 t15 t16 h)) (
      lenM h at_ fun n4 =>
      retG (.tuple [out, (.int .i64 n4)]) h Ψ)

def s63 (Ψ : AVal → Heap → Prop) (l_ : AVal) (h : Heap) : Prop :=
  newMap h fun r h_ =>
  lenN l_ fun n =>
  mkS false 1 8 (.int .i64 0) h_ n n fun v h_1 =>
  lenN l_ fun n1 =>
  s63l1_E (s63l1 Ψ) (.mapr r) v l_ n1 0 h_1

def s63_A (Ψ : AVal → Heap → Prop) : Ann :=
  .seq (rA 2)
  (.seq (rA 2)
  (.seq (rA 4)
  (.seq (.seq (rA 3)
  (.block (.loop [(4, .any), (5, .any), (14, .any), (15, .int .i64), (16, .int .i64)] (fun n l h => s63l1_R (s63l1 Ψ n) l h) (fun L1 =>
  .seq (rA 1)
  (.seq (.cond (.leaf)
  (.leaf))
  (.seq (.block (.seq (rA 5)
  (.cut [(4, .any), (5, .any), (6, .int .i64), (7, .str), (14, .any), (15, .int .i64), (16, .int .i64)] (fun l h => J.cons l fun x0 l => J.cons l fun x1 l => J.cons l fun v l => J.int .i64 v fun x2 => J.cons l fun v l => J.str v fun x3 => J.cons l fun x4 l => J.cons l fun v l => J.int .i64 v fun x5 => J.cons l fun v l => J.int .i64 v fun x6 => J.nil l (s63c2 Ψ (fun y0 y1 y2 y3 y4 h => L1 [y0, y1, y2, (.int .i64 y3), (.int .i64 y4)] h) x0 x1 x2 x3 x4 x5 x6 h)) (.seq (rA 8)
  (.seq (rA 2)
  (.cond (rA 5)
  (.leaf))))
  (rA 7))))
  (rA 2)))))))
  (.seq (rA 5)
  (.leaf)))))

theorem s63_ok {Ψ : AVal → Heap → Prop} {l_ : AVal} {h : Heap} (H : s63 Ψ l_ h) : ACalls prog 63 [l_] h Ψ :=
  calls_of_evF func63 (by kernel_rfl) (by kernel_rfl) (by kernel_rfl)
    (Eq.mpr (by as_aux_lemma => kernel_rfl : oblF prog f63 (s63_A Ψ) Ψ = (True ∧ True ∧ True ∧ (True ∧ (∀ (h : Heap) (x0 x1 x2 : AVal) (x3 x4 : Int), ON (s63l1 Ψ 0 x0 x1 x2 x3 x4 h)) ∧ ∀ n1 : Nat, (∀ (h : Heap) (x0 x1 x2 : AVal) (x3 x4 : Int), OI (s63l1 Ψ (n1 + 1) x0 x1 x2 x3 x4 h)) ∧ (True ∧ (True ∧ True) ∧ (True ∧ (True ∧ True ∧ True ∧ True) ∧ (∀ (h : Heap) (x0 x1 : AVal) (x2 : Int) (x3 : ByteArray) (x4 : AVal) (x5 x6 : Int), OI (s63c2 Ψ (s63l1_G (s63l1 Ψ n1)) x0 x1 x2 x3 x4 x5 x6 h)) ∧ (True)) ∧ True)) ∧ True ∧ True)) ⟨trivial, ⟨trivial, ⟨trivial, ⟨⟨trivial, ⟨fun _ _ _ _ _ _ H => H, fun _ => ⟨fun _ _ _ _ _ _ H => H, ⟨trivial, ⟨⟨trivial, trivial⟩, ⟨⟨trivial, ⟨⟨trivial, ⟨trivial, ⟨trivial, trivial⟩⟩⟩, fun _ _ _ _ _ _ _ _ H => H, trivial⟩⟩, trivial⟩⟩⟩⟩⟩⟩, ⟨trivial, trivial⟩⟩⟩⟩⟩)
    (Eq.mpr (by as_aux_lemma => kernel_rfl : evF prog f63 (s63_A Ψ) Ψ [l_] h = s63 Ψ l_ h) H)

/- 65 dictum/dictumref17.Tidy -/
abbrev s65l1_T := AVal → AVal → AVal → AVal → Int → Heap → Prop
def s65l1_R (F : s65l1_T) (l : List AVal) (h : Heap) : Prop := J.cons l fun x0 l => J.cons l fun x1 l => J.cons l fun x2 l => J.cons l fun x3 l => J.cons l fun v l => J.int .i64 v fun x4 => J.nil l (F x0 x1 x2 x3 x4 h)
def s65l1_G (F : s65l1_T) (x0 x1 x2 x3 : AVal) (x4 : Int) (h : Heap) : Prop := gJ [.any, .any, .any, .any, .int .i64] [x0, x1, x2, x3, (.int .i64 x4)] h (s65l1_R F)
def s65l1_E (F : Nat → s65l1_T) (x0 x1 x2 x3 : AVal) (x4 : Int) (h : Heap) : Prop := gJ [.any, .any, .any, .any, .int .i64] [x0, x1, x2, x3, (.int .i64 x4)] h (fun l h => ∃ n, s65l1_R (F n) l h)
theorem s65l1_go {F : s65l1_T} {x0 x1 x2 x3 : AVal} {x4 : Int} {h : Heap} (H : F x0 x1 x2 x3 x4 h) : s65l1_G F x0 x1 x2 x3 x4 h := gJ_plain rfl H
theorem s65l1_in {F : Nat → s65l1_T} {x0 x1 x2 x3 : AVal} {x4 : Int} {h : Heap} (n : Nat) (H : F n x0 x1 x2 x3 x4 h) : s65l1_E F x0 x1 x2 x3 x4 h := gJ_plain rfl ⟨n, H⟩

abbrev s65l2_T := AVal → AVal → AVal → AVal → Int → AVal → Int → Heap → Prop
def s65l2_R (F : s65l2_T) (l : List AVal) (h : Heap) : Prop := J.cons l fun x0 l => J.cons l fun x1 l => J.cons l fun x2 l => J.cons l fun x3 l => J.cons l fun v l => J.int .i64 v fun x4 => J.cons l fun x5 l => J.cons l fun v l => J.int .i64 v fun x6 => J.nil l (F x0 x1 x2 x3 x4 x5 x6 h)
def s65l2_G (F : s65l2_T) (x0 x1 x2 x3 : AVal) (x4 : Int) (x5 : AVal) (x6 : Int) (h : Heap) : Prop := gJ [.any, .any, .any, .any, .int .i64, .any, .int .i64] [x0, x1, x2, x3, (.int .i64 x4), x5, (.int .i64 x6)] h (s65l2_R F)
def s65l2_E (F : Nat → s65l2_T) (x0 x1 x2 x3 : AVal) (x4 : Int) (x5 : AVal) (x6 : Int) (h : Heap) : Prop := gJ [.any, .any, .any, .any, .int .i64, .any, .int .i64] [x0, x1, x2, x3, (.int .i64 x4), x5, (.int .i64 x6)] h (fun l h => ∃ n, s65l2_R (F n) l h)
theorem s65l2_go {F : s65l2_T} {x0 x1 x2 x3 : AVal} {x4 : Int} {x5 : AVal} {x6 : Int} {h : Heap} (H : F x0 x1 x2 x3 x4 x5 x6 h) : s65l2_G F x0 x1 x2 x3 x4 x5 x6 h := gJ_plain rfl H
theorem s65l2_in {F : Nat → s65l2_T} {x0 x1 x2 x3 : AVal} {x4 : Int} {x5 : AVal} {x6 : Int} {h : Heap} (n : Nat) (H : F n x0 x1 x2 x3 x4 x5 x6 h) : s65l2_E F x0 x1 x2 x3 x4 x5 x6 h := gJ_plain rfl ⟨n, H⟩

def s65c3 (Ψ : AVal → Heap → Prop) (L1 : s65l1_T) (L2 : s65l2_T) (m2 t2_2 o2 out2 : AVal) (a2 : Int) (row1 : AVal) (b1 : Int) (h : Heap) : Prop :=
  rg (b1 + 1) (
    L2 m2 t2_2 o2 out2 a2 row1 (b1 + 1) h)

abbrev s65l5_T := AVal → AVal → AVal → AVal → Int → AVal → Int → Bool → Int → Heap → Prop
def s65l5_R (F : s65l5_T) (l : List AVal) (h : Heap) : Prop := J.cons l fun x0 l => J.cons l fun x1 l => J.cons l fun x2 l => J.cons l fun x3 l => J.cons l fun v l => J.int .i64 v fun x4 => J.cons l fun x5 l => J.cons l fun v l => J.int .i64 v fun x6 => J.cons l fun v l => J.bool v fun x7 => J.cons l fun v l => J.int .i64 v fun x8 => J.nil l (F x0 x1 x2 x3 x4 x5 x6 x7 x8 h)
def s65l5_G (F : s65l5_T) (x0 x1 x2 x3 : AVal) (x4 : Int) (x5 : AVal) (x6 : Int) (x7 : Bool) (x8 : Int) (h : Heap) : Prop := gJ [.any, .any, .any, .any, .int .i64, .any, .int .i64, .bool, .int .i64] [x0, x1, x2, x3, (.int .i64 x4), x5, (.int .i64 x6), (.bool x7), (.int .i64 x8)] h (s65l5_R F)
def s65l5_E (F : Nat → s65l5_T) (x0 x1 x2 x3 : AVal) (x4 : Int) (x5 : AVal) (x6 : Int) (x7 : Bool) (x8 : Int) (h : Heap) : Prop := gJ [.any, .any, .any, .any, .int .i64, .any, .int .i64, .bool, .int .i64] [x0, x1, x2, x3, (.int .i64 x4), x5, (.int .i64 x6), (.bool x7), (.int .i64 x8)] h (fun l h => ∃ n, s65l5_R (F n) l h)
theorem s65l5_go {F : s65l5_T} {x0 x1 x2 x3 : AVal} {x4 : Int} {x5 : AVal} {x6 : Int} {x7 : Bool} {x8 : Int} {h : Heap} (H : F x0 x1 x2 x3 x4 x5 x6 x7 x8 h) : s65l5_G F x0 x1 x2 x3 x4 x5 x6 x7 x8 h := gJ_plain rfl H
theorem s65l5_in {F : Nat → s65l5_T} {x0 x1 x2 x3 : AVal} {x4 : Int} {x5 : AVal} {x6 : Int} {x7 : Bool} {x8 : Int} {h : Heap} (n : Nat) (H : F n x0 x1 x2 x3 x4 x5 x6 x7 x8 h) : s65l5_E F x0 x1 x2 x3 x4 x5 x6 x7 x8 h := gJ_plain rfl ⟨n, H⟩

def s65c7 (Ψ : AVal → Heap → Prop) (L1 : s65l1_T) (L2 : s65l2_T) (L5 : s65l5_T) (m6 t2_6 o6 out6 : AVal) (a6 : Int) (row5 : AVal) (b5 : Int) (next3 : Bool) (c2 : Int) (h : Heap) : Prop :=
  rg (c2 + 1) (
    L5 m6 t2_6 o6 out6 a6 row5 b5 next3 (c2 + 1) h)

def s65c6 (Ψ : AVal → Heap → Prop) (L1 : s65l1_T) (L2 : s65l2_T) (L5 : s65l5_T) (m5 t2_5 o5 out5 : AVal) (a5 : Int) (row4 : AVal) (b4 : Int) (next2 : Bool) (c1 : Int) (t51 : Bool) (h : Heap) : Prop :=
  ifT t51 (
    ifT (c1 == a5) (
      s65c7 Ψ L1 L2 L5 m5 t2_5 o5 out5 a5 row4 b4 true c1 h) (
      ifT (c1 == b4) (
        s65c7 Ψ L1 L2 L5 m5 t2_5 o5 out5 a5 row4 b4 true c1 h) (
        ixS 1 o5 a5 fun p =>
        ld1 h p fun v6 =>
        ixS 1 v6 c1 fun p1 =>
        ld1 h p1 fun v7 =>
        tBool v7 fun v8 =>
        ifT (!v8) (
          s65c7 Ψ L1 L2 L5 m5 t2_5 o5 out5 a5 row4 b4 true c1 h) (
          ixS 1 o5 c1 fun p2 =>
          ld1 h p2 fun v9 =>
          ixS 1 v9 b4 fun p3 =>
          ld1 h p3 fun v10 =>
          tBool v10 fun v11 =>
          s65c7 Ψ L1 L2 L5 m5 t2_5 o5 out5 a5 row4 b4 (!v11) c1 h)))) (
    ifT next2 (
      appC 1 8 h row4 (.lsl 1 [(.int .i64 b4)]) fun v12 h_5 =>
      s65c3 Ψ L1 L2 m5 t2_5 o5 out5 a5 v12 b4 h_5) (
      s65c3 Ψ L1 L2 m5 t2_5 o5 out5 a5 row4 b4 h))

def s65l5 (Ψ : AVal → Heap → Prop) (L1 : s65l1_T) (L2 : s65l2_T) : Nat → s65l5_T
  | 0, _, _, _, _, _, _, _, _, _, _ => False
  | n4 + 1, m4, t2_4, o4, out4, a4, row3, b3, next1, c, h =>
    lenN o4 fun n5 =>
    ifT (decide (c < n5)) (
      s65c6 Ψ L1 L2 (s65l5_G (s65l5 Ψ L1 L2 n4)) m4 t2_4 o4 out4 a4 row3 b3 next1 c next1 h) (
      s65c6 Ψ L1 L2 (s65l5_G (s65l5 Ψ L1 L2 n4)) m4 t2_4 o4 out4 a4 row3 b3 next1 c false h)

def s65c4 (Ψ : AVal → Heap → Prop) (L1 : s65l1_T) (L2 : s65l2_T) (m3 t2_3 o3 out3 : AVal) (a3 : Int) (row2 : AVal) (b2 : Int) (next : Bool) (h : Heap) : Prop :=
  s65l5_E (s65l5 Ψ L1 L2) m3 t2_3 o3 out3 a3 row2 b2 next 0 h

def s65l2 (Ψ : AVal → Heap → Prop) (L1 : s65l1_T) : Nat → s65l2_T
  | 0, _, _, _, _, _, _, _, _ => False
  | n2 + 1, m1, t2_1, o1, out1, a1, row, b, h =>
    lenN o1 fun n3 =>
    ifT (decide (b < n3)) (
      ifT (a1 != b) (
        ixS 1 o1 a1 fun p4 =>
        ld1 h p4 fun v13 =>
        ixS 1 v13 b fun p5 =>
        ld1 h p5 fun v14 =>
        tBool v14 fun v15 =>
        s65c4 Ψ L1 (s65l2_G (s65l2 Ψ L1 n2)) m1 t2_1 o1 out1 a1 row b v15 h) (
        s65c4 Ψ L1 (s65l2_G (s65l2 Ψ L1 n2)) m1 t2_1 o1 out1 a1 row b false h)) (
      addOff out1 0 fun p6 =>
      ld1 h p6 fun v16 =>
      chk (sc row) (
        appC 1 24 h v16 (.lsl 1 [row]) fun v17 h_6 =>
        addOff out1 0 fun p7 =>
        chk (sc v17) (
          st true h_6 p7 [v17] fun h_7 =>
          addOff out1 1 fun p8 =>
          ld1 h_7 p8 fun v18 =>
          addOff m1 1 fun p9 =>
          ld1 h_7 p9 fun v19 =>
          ixS 1 v19 a1 fun p10 =>
          ld1 h_7 p10 fun v20 =>
          Sym.newRow 1 [] h_7 fun r2 h_8 =>
          (ld1 h_8 p10 fun v21 =>
          v21 = v20) ∧
          (ld1 h_8 p9 fun v22 =>
          v22 = v19) ∧
          (ld1 h_8 p8 fun v23 =>
          v23 = v18) ∧
          appC 1 16 h_8 (.sl r2 1 0 0) v20 fun v24 h_9 =>
          (ld1 h_9 p8 fun v25 =>
          v25 = v18) ∧
          chk (sc v24) (
            (ld1 h_9 p8 fun v26 =>
            v26 = v18) ∧
            appC 1 24 h_9 v18 (.lsl 1 [v24]) fun v27 h_10 =>
            addOff out1 1 fun p11 =>
            chk (sc v27) (
              st true h_10 p11 [v27] fun h_11 =>
              rg (a1 + 1) (
                L1 m1 t2_1 o1 out1 (a1 + 1) h_11))))))

def s65l1 (Ψ : AVal → Heap → Prop) : Nat → s65l1_T
  | 0, _, _, _, _, _, _ => False
  | n + 1, m, t2, o, out, a, h =>
    lenN o fun n1 =>
    ifT (decide (a < n1)) (
      s65l2_E (s65l2 Ψ (s65l1_G (s65l1 Ψ n))) m t2 o out a .nilsl 0 h) (
      ldN 2 h out fun l_6 =>
      tCons l_6 fun v28 l_7 =>
      tCons l_7 fun v29 l_8 =>
      tNil l_8 (
        st false h t2 [v28, v29] fun h_12 =>
        ldN 2 h_12 t2 fun l_9 =>
        tCons l_9 fun v30 l_10 =>
        tCons l_10 fun v31 l_11 =>
        tNil l_11 (
          retG (.tuple [(.agg [v30, v31]), (.int .i64 0)]) h_12 Ψ)))

def s65 (Ψ : AVal → Heap → Prop) (m_Up : AVal) (m_Val : AVal) (h : Heap) : Prop :=
  Sym.newRow 2 [(.agg [.nilsl, .nilsl])] h fun r h_ =>
  callG prog 31 [(.agg [m_Up, m_Val])] h_ fun v h_1 =>
  tTup v fun l_ =>
  tCons l_ fun v1 l_1 =>
  tCons l_1 fun v2 l_2 =>
  tBool v2 fun v3 =>
  tNil l_2 (
    ifT (!v3) (
      st false h_1 (.ptr r 0 0) [.nilsl, .nilsl] fun h_2 =>
      ldN 2 h_2 (.ptr r 0 0) fun l_3 =>
      tCons l_3 fun v4 l_4 =>
      tCons l_4 fun v5 l_5 =>
      tNil l_5 (
        retG (.tuple [(.agg [v4, v5]), (.int .i64 170)]) h_2 Ψ)) (
      Sym.newRow 2 [(.agg [.nilsl, .nilsl])] h_1 fun r1 h_3 =>
      st false h_3 (.ptr r1 0 0) [.nilsl, .nilsl] fun h_4 =>
      s65l1_E (s65l1 Ψ) (.lptr [m_Up, m_Val]) (.ptr r 0 0) v1 (.ptr r1 0 0) 0 h_4))

def s65_A (Ψ : AVal → Heap → Prop) : Ann :=
  .seq (.reg [⟨none, [(0, true), (1, false), (2, false)]⟩])
  (.seq (rA 7)
  (.seq (.seq (rA 2)
  (.cond (.seq (rA 3)
  (.leaf))
  (.leaf)))
  (.seq (rA 3)
  (.seq (.seq (rA 1)
  (.block (.loop [(1, .any), (2, .any), (4, .any), (6, .any), (7, .int .i64)] (fun n l h => s65l1_R (s65l1 Ψ n) l h) (fun L1 =>
  .seq (.seq (rA 4)
  (.cond (.leaf)
  (.leaf)))
  (.seq (.block (.seq (rA 1)
  (.seq (.seq (rA 1)
  (.block (.loop [(1, .any), (2, .any), (4, .any), (6, .any), (7, .int .i64), (8, .any), (9, .int .i64)] (fun n l h => s65l2_R (s65l2 Ψ (fun y0 y1 y2 y3 y4 h => L1 [y0, y1, y2, y3, (.int .i64 y4)] h) n) l h) (fun L2 =>
  .seq (.seq (rA 4)
  (.cond (.leaf)
  (.leaf)))
  (.cut [(1, .any), (2, .any), (4, .any), (6, .any), (7, .int .i64), (8, .any), (9, .int .i64)] (fun l h => J.cons l fun x0 l => J.cons l fun x1 l => J.cons l fun x2 l => J.cons l fun x3 l => J.cons l fun v l => J.int .i64 v fun x4 => J.cons l fun x5 l => J.cons l fun v l => J.int .i64 v fun x6 => J.nil l (s65c3 Ψ (fun y0 y1 y2 y3 y4 h => L1 [y0, y1, y2, y3, (.int .i64 y4)] h) (fun y0 y1 y2 y3 y4 y5 y6 h => L2 [y0, y1, y2, y3, (.int .i64 y4), y5, (.int .i64 y6)] h) x0 x1 x2 x3 x4 x5 x6 h)) (.block (.cut [(1, .any), (2, .any), (4, .any), (6, .any), (7, .int .i64), (8, .any), (9, .int .i64), (10, .bool)] (fun l h => J.cons l fun x0 l => J.cons l fun x1 l => J.cons l fun x2 l => J.cons l fun x3 l => J.cons l fun v l => J.int .i64 v fun x4 => J.cons l fun x5 l => J.cons l fun v l => J.int .i64 v fun x6 => J.cons l fun v l => J.bool v fun x7 => J.nil l (s65c4 Ψ (fun y0 y1 y2 y3 y4 h => L1 [y0, y1, y2, y3, (.int .i64 y4)] h) (fun y0 y1 y2 y3 y4 y5 y6 h => L2 [y0, y1, y2, y3, (.int .i64 y4), y5, (.int .i64 y6)] h) x0 x1 x2 x3 x4 x5 x6 x7 h)) (.reg [⟨none, [(0, false), (1, false), (2, false), (3, false)]⟩, ⟨some (36, true), [(4, false), (5, false), (6, false), (7, false), (8, false), (9, false), (10, false)]⟩, ⟨none, [(11, false), (12, false)]⟩])
  (.seq (.seq (rA 1)
  (.block (.loop [(1, .any), (2, .any), (4, .any), (6, .any), (7, .int .i64), (8, .any), (9, .int .i64), (10, .bool), (11, .int .i64)] (fun n l h => s65l5_R (s65l5 Ψ (fun y0 y1 y2 y3 y4 h => L1 [y0, y1, y2, y3, (.int .i64 y4)] h) (fun y0 y1 y2 y3 y4 y5 y6 h => L2 [y0, y1, y2, y3, (.int .i64 y4), y5, (.int .i64 y6)] h) n) l h) (fun L5 =>
  .seq (.cut [(1, .any), (2, .any), (4, .any), (6, .any), (7, .int .i64), (8, .any), (9, .int .i64), (10, .bool), (11, .int .i64), (51, .bool)] (fun l h => J.cons l fun x0 l => J.cons l fun x1 l => J.cons l fun x2 l => J.cons l fun x3 l => J.cons l fun v l => J.int .i64 v fun x4 => J.cons l fun x5 l => J.cons l fun v l => J.int .i64 v fun x6 => J.cons l fun v l => J.bool v fun x7 => J.cons l fun v l => J.int .i64 v fun x8 => J.cons l fun v l => J.bool v fun x9 => J.nil l (s65c6 Ψ (fun y0 y1 y2 y3 y4 h => L1 [y0, y1, y2, y3, (.int .i64 y4)] h) (fun y0 y1 y2 y3 y4 y5 y6 h => L2 [y0, y1, y2, y3, (.int .i64 y4), y5, (.int .i64 y6)] h) (fun y0 y1 y2 y3 y4 y5 y6 y7 y8 h => L5 [y0, y1, y2, y3, (.int .i64 y4), y5, (.int .i64 y6), (.bool y7), (.int .i64 y8)] h) x0 x1 x2 x3 x4 x5 x6 x7 x8 x9 h)) (.reg [⟨none, [(0, false), (1, false), (2, false), (3, false), (4, false)]⟩, ⟨some (49, true), [(5, false)]⟩, ⟨none, [(6, false)]⟩])
  (.cond (.leaf)
  (.leaf)))
  (.cut [(1, .any), (2, .any), (4, .any), (6, .any), (7, .int .i64), (8, .any), (9, .int .i64), (10, .bool), (11, .int .i64)] (fun l h => J.cons l fun x0 l => J.cons l fun x1 l => J.cons l fun x2 l => J.cons l fun x3 l => J.cons l fun v l => J.int .i64 v fun x4 => J.cons l fun x5 l => J.cons l fun v l => J.int .i64 v fun x6 => J.cons l fun v l => J.bool v fun x7 => J.cons l fun v l => J.int .i64 v fun x8 => J.nil l (s65c7 Ψ (fun y0 y1 y2 y3 y4 h => L1 [y0, y1, y2, y3, (.int .i64 y4)] h) (fun y0 y1 y2 y3 y4 y5 y6 h => L2 [y0, y1, y2, y3, (.int .i64 y4), y5, (.int .i64 y6)] h) (fun y0 y1 y2 y3 y4 y5 y6 y7 y8 h => L5 [y0, y1, y2, y3, (.int .i64 y4), y5, (.int .i64 y6), (.bool y7), (.int .i64 y8)] h) x0 x1 x2 x3 x4 x5 x6 x7 x8 h)) (.block (.reg [⟨none, [(0, false), (1, false), (2, false), (3, false)]⟩, ⟨some (57, false), [(4, false), (5, false), (6, false)]⟩, ⟨none, [(7, false), (8, false)]⟩, ⟨some (62, false), [(9, false), (10, false), (11, false), (12, false), (13, false), (14, false), (15, false), (16, false)]⟩, ⟨none, [(17, false), (18, false)]⟩, ⟨some (72, false), [(19, false), (20, false), (21, false), (22, false), (23, false), (24, false), (25, false), (26, false)]⟩, ⟨none, [(27, false), (28, false)]⟩]))
  (rA 3))))))
  (.seq (rA 1)
  (.cond (.reg [⟨none, [(0, false), (1, false), (2, true), (3, false), (4, false)]⟩])
  (.leaf))))))
  (rA 3))))))
  (.seq (.reg [⟨none, [(0, false), (1, false), (2, false), (3, true), (4, false), (5, false), (6, false)]⟩])
  (.draw [(0, false), (1, false), (3, false), (4, false), (5, false), (6, false), (7, false), (2, false), (8, false), (9, true), (10, false), (11, false), (12, false)] [0, 1, 0, 0, 8, 0, 56, 120, 252, 508, 1023, 2047, 4095])))))
  (rA 3))))))
  (.seq (rA 3)
  (.leaf))))))

theorem s65_ok {Ψ : AVal → Heap → Prop} {m_Up : AVal} {m_Val : AVal} {h : Heap} (H : s65 Ψ m_Up m_Val h) : ACalls prog 65 [(.agg [m_Up, m_Val])] h Ψ :=
  calls_of_evF func65 (by kernel_rfl) (by kernel_rfl) (by kernel_rfl)
    (Eq.mpr (by as_aux_lemma => kernel_rfl : oblF prog f65 (s65_A Ψ) Ψ = (True ∧ True ∧ (True ∧ (True ∧ True) ∧ True) ∧ True ∧ (True ∧ (∀ (h : Heap) (x0 x1 x2 x3 : AVal) (x4 : Int), ON (s65l1 Ψ 0 x0 x1 x2 x3 x4 h)) ∧ ∀ n1 : Nat, (∀ (h : Heap) (x0 x1 x2 x3 : AVal) (x4 : Int), OI (s65l1 Ψ (n1 + 1) x0 x1 x2 x3 x4 h)) ∧ ((True ∧ True ∧ True) ∧ (True ∧ (True ∧ (∀ (h : Heap) (x0 x1 x2 x3 : AVal) (x4 : Int) (x5 : AVal) (x6 : Int), ON (s65l2 Ψ (s65l1_G (s65l1 Ψ n1)) 0 x0 x1 x2 x3 x4 x5 x6 h)) ∧ ∀ n2 : Nat, (∀ (h : Heap) (x0 x1 x2 x3 : AVal) (x4 : Int) (x5 : AVal) (x6 : Int), OI (s65l2 Ψ (s65l1_G (s65l1 Ψ n1)) (n2 + 1) x0 x1 x2 x3 x4 x5 x6 h)) ∧ ((True ∧ True ∧ True) ∧ ((True) ∧ (∀ (h : Heap) (x0 x1 x2 x3 : AVal) (x4 : Int) (x5 : AVal) (x6 : Int) (x7 : Bool), OI (s65c4 Ψ (s65l1_G (s65l1 Ψ n1)) (s65l2_G (s65l2 Ψ (s65l1_G (s65l1 Ψ n1)) n2)) x0 x1 x2 x3 x4 x5 x6 x7 h)) ∧ ((True ∧ (∀ (h : Heap) (x0 x1 x2 x3 : AVal) (x4 : Int) (x5 : AVal) (x6 : Int) (x7 : Bool) (x8 : Int), ON (s65l5 Ψ (s65l1_G (s65l1 Ψ n1)) (s65l2_G (s65l2 Ψ (s65l1_G (s65l1 Ψ n1)) n2)) 0 x0 x1 x2 x3 x4 x5 x6 x7 x8 h)) ∧ ∀ n5 : Nat, (∀ (h : Heap) (x0 x1 x2 x3 : AVal) (x4 : Int) (x5 : AVal) (x6 : Int) (x7 : Bool) (x8 : Int), OI (s65l5 Ψ (s65l1_G (s65l1 Ψ n1)) (s65l2_G (s65l2 Ψ (s65l1_G (s65l1 Ψ n1)) n2)) (n5 + 1) x0 x1 x2 x3 x4 x5 x6 x7 x8 h)) ∧ (((True) ∧ (∀ (h : Heap) (x0 x1 x2 x3 : AVal) (x4 : Int) (x5 : AVal) (x6 : Int) (x7 : Bool) (x8 : Int) (x9 : Bool), OI (s65c6 Ψ (s65l1_G (s65l1 Ψ n1)) (s65l2_G (s65l2 Ψ (s65l1_G (s65l1 Ψ n1)) n2)) (s65l5_G (s65l5 Ψ (s65l1_G (s65l1 Ψ n1)) (s65l2_G (s65l2 Ψ (s65l1_G (s65l1 Ψ n1)) n2)) n5)) x0 x1 x2 x3 x4 x5 x6 x7 x8 x9 h)) ∧ (True ∧ True)) ∧ (True) ∧ (∀ (h : Heap) (x0 x1 x2 x3 : AVal) (x4 : Int) (x5 : AVal) (x6 : Int) (x7 : Bool) (x8 : Int), OI (s65c7 Ψ (s65l1_G (s65l1 Ψ n1)) (s65l2_G (s65l2 Ψ (s65l1_G (s65l1 Ψ n1)) n2)) (s65l5_G (s65l5 Ψ (s65l1_G (s65l1 Ψ n1)) (s65l2_G (s65l2 Ψ (s65l1_G (s65l1 Ψ n1)) n2)) n5)) x0 x1 x2 x3 x4 x5 x6 x7 x8 h)) ∧ (True))) ∧ True ∧ True ∧ True)) ∧ (∀ (h : Heap) (x0 x1 x2 x3 : AVal) (x4 : Int) (x5 : AVal) (x6 : Int), OI (s65c3 Ψ (s65l1_G (s65l1 Ψ n1)) (s65l2_G (s65l2 Ψ (s65l1_G (s65l1 Ψ n1)) n2)) x0 x1 x2 x3 x4 x5 x6 h)) ∧ (True))) ∧ True ∧ True) ∧ True)) ∧ True ∧ True)) ⟨trivial, ⟨trivial, ⟨⟨trivial, ⟨⟨trivial, trivial⟩, trivial⟩⟩, ⟨trivial, ⟨⟨trivial, ⟨fun _ _ _ _ _ _ H => H, fun _ => ⟨fun _ _ _ _ _ _ H => H, ⟨⟨trivial, ⟨trivial, trivial⟩⟩, ⟨⟨trivial, ⟨⟨trivial, ⟨fun _ _ _ _ _ _ _ _ H => H, fun _ => ⟨fun _ _ _ _ _ _ _ _ H => H, ⟨⟨trivial, ⟨trivial, trivial⟩⟩, ⟨⟨trivial, fun _ _ _ _ _ _ _ _ _ H => H, ⟨⟨trivial, ⟨fun _ _ _ _ _ _ _ _ _ _ H => H, fun _ => ⟨fun _ _ _ _ _ _ _ _ _ _ H => H, ⟨⟨trivial, fun _ _ _ _ _ _ _ _ _ _ _ H => H, ⟨trivial, trivial⟩⟩, ⟨trivial, fun _ _ _ _ _ _ _ _ _ _ H => H, trivial⟩⟩⟩⟩⟩, ⟨trivial, ⟨trivial, trivial⟩⟩⟩⟩, fun _ _ _ _ _ _ _ _ H => H, trivial⟩⟩⟩⟩⟩, ⟨trivial, trivial⟩⟩⟩, trivial⟩⟩⟩⟩⟩, ⟨trivial, trivial⟩⟩⟩⟩⟩⟩)
    (Eq.mpr (by as_aux_lemma => kernel_rfl : evF prog f65 (s65_A Ψ) Ψ [(.agg [m_Up, m_Val])] h = s65 Ψ m_Up m_Val h) H)

/- 68 dictum/worlds.all -/
abbrev s68l1_T := AVal → AVal → Int → Int → Heap → Prop
def s68l1_R (F : s68l1_T) (l : List AVal) (h : Heap) : Prop := J.cons l fun x0 l => J.cons l fun x1 l => J.cons l fun v l => J.int .i64 v fun x2 => J.cons l fun v l => J.int .i64 v fun x3 => J.nil l (F x0 x1 x2 x3 h)
def s68l1_G (F : s68l1_T) (x0 x1 : AVal) (x2 x3 : Int) (h : Heap) : Prop := gJ [.any, .any, .int .i64, .int .i64] [x0, x1, (.int .i64 x2), (.int .i64 x3)] h (s68l1_R F)
def s68l1_E (F : Nat → s68l1_T) (x0 x1 : AVal) (x2 x3 : Int) (h : Heap) : Prop := gJ [.any, .any, .int .i64, .int .i64] [x0, x1, (.int .i64 x2), (.int .i64 x3)] h (fun l h => ∃ n, s68l1_R (F n) l h)
theorem s68l1_go {F : s68l1_T} {x0 x1 : AVal} {x2 x3 : Int} {h : Heap} (H : F x0 x1 x2 x3 h) : s68l1_G F x0 x1 x2 x3 h := gJ_plain rfl H
theorem s68l1_in {F : Nat → s68l1_T} {x0 x1 : AVal} {x2 x3 : Int} {h : Heap} (n : Nat) (H : F n x0 x1 x2 x3 h) : s68l1_E F x0 x1 x2 x3 h := gJ_plain rfl ⟨n, H⟩

def s68c2 (Ψ : AVal → Heap → Prop) (L1 : s68l1_T) (is2 l_1 : AVal) (t9_1 t10_1 : Int) (h : Heap) : Prop :=
  rg (t10_1 + 1) (
    L1 is2 l_1 t9_1 (t10_1 + 1) h)

def s68l1 (Ψ : AVal → Heap → Prop) : Nat → s68l1_T
  | 0, _, _, _, _, _ => False
  | n1 + 1, is1, l_, t9, t10, h =>
    ifT (decide (t10 < t9)) (
      callV prog is1 [(.int .i64 t10)] h fun v h_ =>
      tBool v fun v1 =>
      ifT v1 (
        appC 1 8 h_ l_ (.lsl 1 [(.int .i64 t10)]) fun v2 h_1 =>
        s68c2 Ψ (s68l1_G (s68l1 Ψ n1)) is1 v2 t9 t10 h_1) (
        s68c2 Ψ (s68l1_G (s68l1 Ψ n1)) is1 l_ t9 t10 h_)) (
      retG l_ h Ψ)

def s68 (Ψ : AVal → Heap → Prop) (m_Up : AVal) (m_Val : AVal) (is : AVal) (h : Heap) : Prop :=
  lenN m_Up fun n =>
  s68l1_E (s68l1 Ψ) is .nilsl n 0 h

def s68_A (Ψ : AVal → Heap → Prop) : Ann :=
  .seq (.reg [⟨none, [(0, true), (1, false)]⟩])
  (.seq (rA 1)
  (.seq (.seq (rA 4)
  (.block (.loop [(1, .any), (5, .any), (9, .int .i64), (10, .int .i64)] (fun n l h => s68l1_R (s68l1 Ψ n) l h) (fun L1 =>
  .seq (rA 1)
  (.seq (.cond (.leaf)
  (.leaf))
  (.cut [(1, .any), (5, .any), (9, .int .i64), (10, .int .i64)] (fun l h => J.cons l fun x0 l => J.cons l fun x1 l => J.cons l fun v l => J.int .i64 v fun x2 => J.cons l fun v l => J.int .i64 v fun x3 => J.nil l (s68c2 Ψ (fun y0 y1 y2 y3 h => L1 [y0, y1, (.int .i64 y2), (.int .i64 y3)] h) x0 x1 x2 x3 h)) (.block (.seq (rA 2)
  (.seq (rA 3)
  (.cond (.reg [⟨none, [(0, false), (1, false), (2, true), (3, false), (4, false)]⟩])
  (.leaf)))))
  (rA 2)))))))
  (.seq (rA 2)
  (.leaf))))

theorem s68_ok {Ψ : AVal → Heap → Prop} {m_Up : AVal} {m_Val : AVal} {is : AVal} {h : Heap} (H : s68 Ψ m_Up m_Val is h) : ACalls prog 68 [(.agg [m_Up, m_Val]), is] h Ψ :=
  calls_of_evF func68 (by kernel_rfl) (by kernel_rfl) (by kernel_rfl)
    (Eq.mpr (by as_aux_lemma => kernel_rfl : oblF prog f68 (s68_A Ψ) Ψ = (True ∧ True ∧ (True ∧ (∀ (h : Heap) (x0 x1 : AVal) (x2 x3 : Int), ON (s68l1 Ψ 0 x0 x1 x2 x3 h)) ∧ ∀ n1 : Nat, (∀ (h : Heap) (x0 x1 : AVal) (x2 x3 : Int), OI (s68l1 Ψ (n1 + 1) x0 x1 x2 x3 h)) ∧ (True ∧ (True ∧ True) ∧ (True ∧ True ∧ True ∧ True) ∧ (∀ (h : Heap) (x0 x1 : AVal) (x2 x3 : Int), OI (s68c2 Ψ (s68l1_G (s68l1 Ψ n1)) x0 x1 x2 x3 h)) ∧ (True))) ∧ True ∧ True)) ⟨trivial, ⟨trivial, ⟨⟨trivial, ⟨fun _ _ _ _ _ H => H, fun _ => ⟨fun _ _ _ _ _ H => H, ⟨trivial, ⟨⟨trivial, trivial⟩, ⟨⟨trivial, ⟨trivial, ⟨trivial, trivial⟩⟩⟩, fun _ _ _ _ _ H => H, trivial⟩⟩⟩⟩⟩⟩, ⟨trivial, trivial⟩⟩⟩⟩)
    (Eq.mpr (by as_aux_lemma => kernel_rfl : evF prog f68 (s68_A Ψ) Ψ [(.agg [m_Up, m_Val]), is] h = s68 Ψ m_Up m_Val is h) H)

/- 70 dictum/worlds.Tidy$2 -/
def s70 (Ψ : AVal → Heap → Prop) (b : Int) (c0 : AVal) (c1 : AVal) (h : Heap) : Prop :=
  ld1 h c0 fun v =>
  callG prog 51 [v, (.func (.func 71) [] [(.lptr [(.int .i64 b)]), c1])] h fun v1 h_ =>
  tBool v1 fun v2 =>
  retG (.bool (!v2)) h_ Ψ

def s70_A (Ψ : AVal → Heap → Prop) : Ann :=
  .seq (.reg [⟨none, [(0, true), (1, false)]⟩])
  (.seq (rA 5)
  (.leaf))

theorem s70_ok {Ψ : AVal → Heap → Prop} {b : Int} {c0 : AVal} {c1 : AVal} {h : Heap} (H : s70 Ψ b c0 c1 h) : ACalls prog 70 [(.int .i64 b), c0, c1] h Ψ :=
  calls_of_evF func70 (by kernel_rfl) (by kernel_rfl) (by kernel_rfl)
    (Eq.mpr (by as_aux_lemma => kernel_rfl : oblF prog f70 (s70_A Ψ) Ψ = (True ∧ True ∧ True)) ⟨trivial, ⟨trivial, trivial⟩⟩)
    (Eq.mpr (by as_aux_lemma => kernel_rfl : evF prog f70 (s70_A Ψ) Ψ [(.int .i64 b), c0, c1] h = s70 Ψ b c0 c1 h) H)

/- 72 dictum/formula.reserved -/
def s72c1 (Ψ : AVal → Heap → Prop) (t4 : Bool) (h : Heap) : Prop :=
  ifT t4 (
    retG (.bool true) h Ψ) (
    retG (.bool false) h Ψ)

def s72 (Ψ : AVal → Heap → Prop) (s : ByteArray) (h : Heap) : Prop :=
  ifT (strEq s (ByteArray.mk #[97, 98, 111, 114, 116])) (
    s72c1 Ψ (strEq s (ByteArray.mk #[97, 98, 111, 114, 116])) h) (
    ifT (strEq s (ByteArray.mk #[99, 97, 115, 101])) (
      s72c1 Ψ (strEq s (ByteArray.mk #[99, 97, 115, 101])) h) (
      ifT (strEq s (ByteArray.mk #[102, 97, 108, 115, 101])) (
        s72c1 Ψ (strEq s (ByteArray.mk #[102, 97, 108, 115, 101])) h) (
        ifT (strEq s (ByteArray.mk #[102, 115, 116])) (
          s72c1 Ψ (strEq s (ByteArray.mk #[102, 115, 116])) h) (
          ifT (strEq s (ByteArray.mk #[102, 117, 110])) (
            s72c1 Ψ (strEq s (ByteArray.mk #[102, 117, 110])) h) (
            ifT (strEq s (ByteArray.mk #[105, 110])) (
              s72c1 Ψ (strEq s (ByteArray.mk #[105, 110])) h) (
              ifT (strEq s (ByteArray.mk #[105, 110, 108])) (
                s72c1 Ψ (strEq s (ByteArray.mk #[105, 110, 108])) h) (
                ifT (strEq s (ByteArray.mk #[105, 110, 114])) (
                  s72c1 Ψ (strEq s (ByteArray.mk #[105, 110, 114])) h) (
                  ifT (strEq s (ByteArray.mk #[108, 101, 116])) (
                    s72c1 Ψ (strEq s (ByteArray.mk #[108, 101, 116])) h) (
                    ifT (strEq s (ByteArray.mk #[111, 102])) (
                      s72c1 Ψ (strEq s (ByteArray.mk #[111, 102])) h) (
                      ifT (strEq s (ByteArray.mk #[115, 110, 100])) (
                        s72c1 Ψ (strEq s (ByteArray.mk #[115, 110, 100])) h) (
                        s72c1 Ψ (strEq s (ByteArray.mk #[116, 114, 117, 101])) h)))))))))))

def s72_A (Ψ : AVal → Heap → Prop) : Ann :=
  .seq (rA 1)
  (.seq (.seq (rA 1)
  (.block (.cut [(4, .bool)] (fun l h => J.cons l fun v l => J.bool v fun x0 => J.nil l (s72c1 Ψ x0 h)) (.seq (rA 2)
  (.cond (.leaf)
  (.seq (rA 2)
  (.cond (.leaf)
  (.seq (rA 2)
  (.cond (.leaf)
  (.seq (rA 2)
  (.cond (.leaf)
  (.seq (rA 2)
  (.cond (.leaf)
  (.seq (rA 2)
  (.cond (.leaf)
  (.seq (rA 2)
  (.cond (.leaf)
  (.seq (rA 2)
  (.cond (.leaf)
  (.seq (rA 2)
  (.cond (.leaf)
  (.seq (rA 2)
  (.cond (.leaf)
  (.seq (rA 2)
  (.cond (.leaf)
  (rA 2)))))))))))))))))))))))
  (.cond (.seq (rA 1)
  (.leaf))
  (.leaf)))))
  (.seq (rA 1)
  (.leaf)))

theorem s72_ok {Ψ : AVal → Heap → Prop} {s : ByteArray} {h : Heap} (H : s72 Ψ s h) : ACalls prog 72 [(.str s)] h Ψ :=
  calls_of_evF func72 (by kernel_rfl) (by kernel_rfl) (by kernel_rfl)
    (Eq.mpr (by as_aux_lemma => kernel_rfl : oblF prog f72 (s72_A Ψ) Ψ = (True ∧ (True ∧ (True ∧ True ∧ True ∧ True ∧ True ∧ True ∧ True ∧ True ∧ True ∧ True ∧ True ∧ True ∧ True ∧ True ∧ True ∧ True ∧ True ∧ True ∧ True ∧ True ∧ True ∧ True ∧ True) ∧ (∀ (h : Heap) (x0 : Bool), OI (s72c1 Ψ x0 h)) ∧ ((True ∧ True) ∧ True)) ∧ True ∧ True)) ⟨trivial, ⟨⟨trivial, ⟨⟨trivial, ⟨trivial, ⟨trivial, ⟨trivial, ⟨trivial, ⟨trivial, ⟨trivial, ⟨trivial, ⟨trivial, ⟨trivial, ⟨trivial, ⟨trivial, ⟨trivial, ⟨trivial, ⟨trivial, ⟨trivial, ⟨trivial, ⟨trivial, ⟨trivial, ⟨trivial, ⟨trivial, ⟨trivial, trivial⟩⟩⟩⟩⟩⟩⟩⟩⟩⟩⟩⟩⟩⟩⟩⟩⟩⟩⟩⟩⟩⟩, fun _ _ H => H, ⟨⟨trivial, trivial⟩, trivial⟩⟩⟩, ⟨trivial, trivial⟩⟩⟩)
    (Eq.mpr (by as_aux_lemma => kernel_rfl : evF prog f72 (s72_A Ψ) Ψ [(.str s)] h = s72 Ψ s h) H)

/- 74 slices.IndexFunc[[]string,string] -/
abbrev s74l1_T := AVal → AVal → Int → Int → Heap → Prop
def s74l1_R (F : s74l1_T) (l : List AVal) (h : Heap) : Prop := J.cons l fun x0 l => J.cons l fun x1 l => J.cons l fun v l => J.int .i64 v fun x2 => J.cons l fun v l => J.int .i64 v fun x3 => J.nil l (F x0 x1 x2 x3 h)
def s74l1_G (F : s74l1_T) (x0 x1 : AVal) (x2 x3 : Int) (h : Heap) : Prop := gJ [.any, .any, .int .i64, .int .i64] [x0, x1, (.int .i64 x2), (.int .i64 x3)] h (s74l1_R F)
def s74l1_E (F : Nat → s74l1_T) (x0 x1 : AVal) (x2 x3 : Int) (h : Heap) : Prop := gJ [.any, .any, .int .i64, .int .i64] [x0, x1, (.int .i64 x2), (.int .i64 x3)] h (fun l h => ∃ n, s74l1_R (F n) l h)
theorem s74l1_go {F : s74l1_T} {x0 x1 : AVal} {x2 x3 : Int} {h : Heap} (H : F x0 x1 x2 x3 h) : s74l1_G F x0 x1 x2 x3 h := gJ_plain rfl H
theorem s74l1_in {F : Nat → s74l1_T} {x0 x1 : AVal} {x2 x3 : Int} {h : Heap} (n : Nat) (H : F n x0 x1 x2 x3 h) : s74l1_E F x0 x1 x2 x3 h := gJ_plain rfl ⟨n, H⟩

def s74l1 (Ψ : AVal → Heap → Prop) : Nat → s74l1_T
  | 0, _, _, _, _, _ => False
  | n1 + 1, s1, f1, t7, t8, h =>
    ifT (decide (t8 < t7)) (
      ixS 1 s1 t8 fun p =>
      ld1 h p fun v =>
      tStr v fun v1 =>
      callV prog f1 [(.str v1)] h fun v2 h_ =>
      tBool v2 fun v3 =>
      ifT v3 (
        retG (.int .i64 t8) h_ Ψ) (
        rg (t8 + 1) (
          s74l1_G (s74l1 Ψ n1) s1 f1 t7 (t8 + 1) h_))) (
      retG (.int .i64 (-1)) h Ψ)

def s74 (Ψ : AVal → Heap → Prop) (s : AVal) (f : AVal) (h : Heap) : Prop :=
  lenN s fun n =>
  s74l1_E (s74l1 Ψ) s f n 0 h

def s74_A (Ψ : AVal → Heap → Prop) : Ann :=
  .seq (rA 1)
  (.seq (.seq (rA 3)
  (.block (.loop [(0, .any), (1, .any), (7, .int .i64), (8, .int .i64)] (fun n l h => s74l1_R (s74l1 Ψ n) l h) (fun L1 =>
  .seq (rA 1)
  (.seq (.cond (.leaf)
  (.leaf))
  (.seq (.block (.seq (rA 2)
  (.seq (rA 6)
  (.cond (.seq (rA 2)
  (.leaf))
  (.leaf)))))
  (rA 2)))))))
  (.seq (rA 1)
  (.leaf)))

theorem s74_ok {Ψ : AVal → Heap → Prop} {s : AVal} {f : AVal} {h : Heap} (H : s74 Ψ s f h) : ACalls prog 74 [s, f] h Ψ :=
  calls_of_evF func74 (by kernel_rfl) (by kernel_rfl) (by kernel_rfl)
    (Eq.mpr (by as_aux_lemma => kernel_rfl : oblF prog f74 (s74_A Ψ) Ψ = (True ∧ (True ∧ (∀ (h : Heap) (x0 x1 : AVal) (x2 x3 : Int), ON (s74l1 Ψ 0 x0 x1 x2 x3 h)) ∧ ∀ n1 : Nat, (∀ (h : Heap) (x0 x1 : AVal) (x2 x3 : Int), OI (s74l1 Ψ (n1 + 1) x0 x1 x2 x3 h)) ∧ (True ∧ (True ∧ True) ∧ (True ∧ True ∧ (True ∧ True) ∧ True) ∧ True)) ∧ True ∧ True)) ⟨trivial, ⟨⟨trivial, ⟨fun _ _ _ _ _ H => H, fun _ => ⟨fun _ _ _ _ _ H => H, ⟨trivial, ⟨⟨trivial, trivial⟩, ⟨⟨trivial, ⟨trivial, ⟨⟨trivial, trivial⟩, trivial⟩⟩⟩, trivial⟩⟩⟩⟩⟩⟩, ⟨trivial, trivial⟩⟩⟩)
    (Eq.mpr (by as_aux_lemma => kernel_rfl : evF prog f74 (s74_A Ψ) Ψ [s, f] h = s74 Ψ s f h) H)

/- 76 dictum/dictumref03.letter -/
def s76 (Ψ : AVal → Heap → Prop) (c : Int) (h : Heap) : Prop :=
  ifT (decide (97 ≤ c)) (
    ifT (decide (c ≤ 122)) (
      retG (.bool true) h Ψ) (
      ifT (decide (65 ≤ c)) (
        retG (.bool (decide (c ≤ 90))) h Ψ) (
        retG (.bool false) h Ψ))) (
    ifT (decide (65 ≤ c)) (
      retG (.bool (decide (c ≤ 90))) h Ψ) (
      retG (.bool false) h Ψ))

def s76_A (Ψ : AVal → Heap → Prop) : Ann :=
  .seq (rA 1)
  (.seq (.reg [⟨none, [(0, false), (1, false), (2, false)]⟩, ⟨some (5, true), [(3, false), (4, false)]⟩, ⟨none, [(5, false), (6, false)]⟩, ⟨some (9, false), [(7, false), (8, false), (9, false)]⟩, ⟨some (12, true), [(10, false), (11, false)]⟩, ⟨some (9, false), [(12, false)]⟩, ⟨none, [(13, false), (14, false)]⟩])
  (.leaf))

theorem s76_ok {Ψ : AVal → Heap → Prop} {c : Int} {h : Heap} (H : s76 Ψ c h) : ACalls prog 76 [(.int .u8 c)] h Ψ :=
  calls_of_evF func76 (by kernel_rfl) (by kernel_rfl) (by kernel_rfl)
    (Eq.mpr (by as_aux_lemma => kernel_rfl : oblF prog f76 (s76_A Ψ) Ψ = (True ∧ True ∧ True)) ⟨trivial, ⟨trivial, trivial⟩⟩)
    (Eq.mpr (by as_aux_lemma => kernel_rfl : evF prog f76 (s76_A Ψ) Ψ [(.int .u8 c)] h = s76 Ψ c h) H)

/- 78 (*dictum/dictumref03.T).Put -/
def s78c1 (Ψ : AVal → Heap → Prop) (t1 n : AVal) (h : Heap) : Prop :=
  ldN 4 h n fun l_ =>
  tCons l_ fun v l_1 =>
  tInt .i64 v fun v1 =>
  tCons l_1 fun v2 l_2 =>
  tStr v2 fun v3 =>
  tCons l_2 fun v4 l_3 =>
  tInt .i64 v4 fun v5 =>
  tCons l_3 fun v6 l_4 =>
  tInt .i64 v6 fun v7 =>
  tNil l_4 (
    callG prog 85 [t1, (.agg [(.int .i64 v1), (.str v3), (.int .i64 v5), (.int .i64 v7)])] h fun v8 h_ =>
    tTup v8 fun l_5 =>
    tCons l_5 fun v9 l_6 =>
    tInt .i64 v9 fun v10 =>
    tCons l_6 fun v11 l_7 =>
    tBool v11 fun v12 =>
    tNil l_7 (
      ifT v12 (
        retG (.tuple [(.int .i64 v10), (.int .i64 0)]) h_ Ψ) (
        nilCheckA t1 fun p =>
        addOff p 0 fun p1 =>
        ld1 h_ p1 fun v13 =>
        lenN v13 fun n1 =>
        ifT (decide (1024 ≤ n1)) (
          retG (.tuple [(.int .i64 0), (.int .i64 30)]) h_ Ψ) (
          nilCheckA t1 fun p2 =>
          addOff p2 0 fun p3 =>
          ld1 h_ p3 fun v14 =>
          ldN 4 h_ n fun l_8 =>
          tCons l_8 fun v15 l_9 =>
          tInt .i64 v15 fun v16 =>
          tCons l_9 fun v17 l_10 =>
          tStr v17 fun v18 =>
          tCons l_10 fun v19 l_11 =>
          tInt .i64 v19 fun v20 =>
          tCons l_11 fun v21 l_12 =>
          tInt .i64 v21 fun v22 =>
          tNil l_12 (
            (ld1 h_ p3 fun v23 =>
            v23 = v14) ∧
            appC 4 40 h_ v14 (.lsl 4 [(.agg [(.int .i64 v16), (.str v18), (.int .i64 v20), (.int .i64 v22)])]) fun v24 h_1 =>
            nilCheckA t1 fun p4 =>
            addOff p4 0 fun p5 =>
            chk (sc v24) (
              st true h_1 p5 [v24] fun h_2 =>
              nilCheckA t1 fun p6 =>
              addOff p6 0 fun p7 =>
              ld1 h_2 p7 fun v25 =>
              lenN v25 fun n2 =>
              rg (n2 - 1) (
                retG (.tuple [(.int .i64 (n2 - 1)), (.int .i64 0)]) h_2 Ψ)))))))

def s78c2 (Ψ : AVal → Heap → Prop) (t2 n3 : AVal) (t19 : Bool) (h : Heap) : Prop :=
  ifT t19 (
    retG (.tuple [(.int .i64 0), (.int .i64 31)]) h Ψ) (
    addOff n3 1 fun p8 =>
    ld1 h p8 fun v26 =>
    tStr v26 fun v27 =>
    callG prog 48 [(.str v27)] h fun v28 h_3 =>
    tBool v28 fun v29 =>
    ifT (!v29) (
      retG (.tuple [(.int .i64 0), (.int .i64 32)]) h_3 Ψ) (
      s78c1 Ψ t2 n3 h_3))

def s78c3 (Ψ : AVal → Heap → Prop) (t3 n4 : AVal) (t38 : Bool) (h : Heap) : Prop :=
  ifT t38 (
    retG (.tuple [(.int .i64 0), (.int .i64 31)]) h Ψ) (
    s78c1 Ψ t3 n4 h)

def s78c5 (Ψ : AVal → Heap → Prop) (t5 n6 : AVal) (t59 : Bool) (h : Heap) : Prop :=
  ifT t59 (
    retG (.tuple [(.int .i64 0), (.int .i64 31)]) h Ψ) (
    s78c1 Ψ t5 n6 h)

def s78c4 (Ψ : AVal → Heap → Prop) (t4 n5 : AVal) (t39 : Bool) (h : Heap) : Prop :=
  ifT t39 (
    addOff n5 1 fun p9 =>
    ld1 h p9 fun v30 =>
    tStr v30 fun v31 =>
    ifT (!strEq v31 (ByteArray.mk #[])) (
      s78c5 Ψ t4 n5 true h) (
      addOff n5 2 fun p10 =>
      ld1 h p10 fun v32 =>
      tInt .i64 v32 fun v33 =>
      callG prog 84 [t4, (.int .i64 v33)] h fun v34 h_4 =>
      tBool v34 fun v35 =>
      ifT (!v35) (
        s78c5 Ψ t4 n5 true h_4) (
        addOff n5 3 fun p11 =>
        ld1 h_4 p11 fun v36 =>
        tInt .i64 v36 fun v37 =>
        callG prog 84 [t4, (.int .i64 v37)] h_4 fun v38 h_5 =>
        tBool v38 fun v39 =>
        s78c5 Ψ t4 n5 (!v39) h_5))) (
    retG (.tuple [(.int .i64 0), (.int .i64 31)]) h Ψ)

def s78 (Ψ : AVal → Heap → Prop) (t : AVal) (n_Kind : Int) (n_Name : ByteArray) (n_L : Int) (n_R : Int) (h : Heap) : Prop :=
  ifT (n_Kind == 1) (
    ifT (n_L != 0) (
      s78c2 Ψ t (.lptr [(.int .i64 n_Kind), (.str n_Name), (.int .i64 n_L), (.int .i64 n_R)]) true h) (
      s78c2 Ψ t (.lptr [(.int .i64 n_Kind), (.str n_Name), (.int .i64 n_L), (.int .i64 n_R)]) (n_R != 0) h)) (
    ifT (n_Kind == 2) (
      ifT (!strEq n_Name (ByteArray.mk #[])) (
        s78c3 Ψ t (.lptr [(.int .i64 n_Kind), (.str n_Name), (.int .i64 n_L), (.int .i64 n_R)]) true h) (
        ifT (n_L != 0) (
          s78c3 Ψ t (.lptr [(.int .i64 n_Kind), (.str n_Name), (.int .i64 n_L), (.int .i64 n_R)]) true h) (
          s78c3 Ψ t (.lptr [(.int .i64 n_Kind), (.str n_Name), (.int .i64 n_L), (.int .i64 n_R)]) (n_R != 0) h))) (
      ifT (n_Kind == 3) (
        s78c4 Ψ t (.lptr [(.int .i64 n_Kind), (.str n_Name), (.int .i64 n_L), (.int .i64 n_R)]) (n_Kind == 3) h) (
        ifT (n_Kind == 4) (
          s78c4 Ψ t (.lptr [(.int .i64 n_Kind), (.str n_Name), (.int .i64 n_L), (.int .i64 n_R)]) (n_Kind == 4) h) (
          s78c4 Ψ t (.lptr [(.int .i64 n_Kind), (.str n_Name), (.int .i64 n_L), (.int .i64 n_R)]) (n_Kind == 5) h))))

def s78_A (Ψ : AVal → Heap → Prop) : Ann :=
  .seq (.reg [⟨none, [(0, true), (1, false), (2, false)]⟩])
  (.cut [(0, .any), (3, .any)] (fun l h => J.cons l fun x0 l => J.cons l fun x1 l => J.nil l (s78c1 Ψ x0 x1 h)) (.seq (rA 2)
  (.block (.seq (rA 2)
  (.cond (.seq (.cut [(0, .any), (3, .any), (19, .bool)] (fun l h => J.cons l fun x0 l => J.cons l fun x1 l => J.cons l fun v l => J.bool v fun x2 => J.nil l (s78c2 Ψ x0 x1 x2 h)) (.reg [⟨none, [(0, false), (1, false), (2, false), (3, false)]⟩, ⟨some (15, false), [(4, false), (5, false), (6, false)]⟩, ⟨none, [(7, false)]⟩])
  (.cond (.seq (rA 2)
  (.leaf))
  (.leaf)))
  (.seq (rA 4)
  (.cond (.seq (rA 2)
  (.leaf))
  (.leaf))))
  (.seq (rA 2)
  (.cond (.cut [(0, .any), (3, .any), (38, .bool)] (fun l h => J.cons l fun x0 l => J.cons l fun x1 l => J.cons l fun v l => J.bool v fun x2 => J.nil l (s78c3 Ψ x0 x1 x2 h)) (.reg [⟨none, [(0, false), (1, false), (2, false), (3, false)]⟩, ⟨some (29, false), [(4, false), (5, false), (6, false)]⟩, ⟨none, [(7, false), (8, false)]⟩, ⟨some (34, false), [(9, false), (10, false), (11, false)]⟩, ⟨none, [(12, false)]⟩])
  (.cond (.seq (rA 2)
  (.leaf))
  (.leaf)))
  (.cut [(0, .any), (3, .any), (39, .bool)] (fun l h => J.cons l fun x0 l => J.cons l fun x1 l => J.cons l fun v l => J.bool v fun x2 => J.nil l (s78c4 Ψ x0 x1 x2 h)) (.seq (rA 2)
  (.cond (.leaf)
  (.seq (rA 2)
  (.cond (.leaf)
  (rA 2)))))
  (.cond (.cut [(0, .any), (3, .any), (59, .bool)] (fun l h => J.cons l fun x0 l => J.cons l fun x1 l => J.cons l fun v l => J.bool v fun x2 => J.nil l (s78c5 Ψ x0 x1 x2 h)) (.reg [⟨none, [(0, false), (1, false), (2, false), (3, false)]⟩, ⟨some (46, false), [(4, false), (5, false), (6, false), (7, false), (8, false)]⟩, ⟨none, [(9, false), (10, false)]⟩, ⟨some (53, false), [(11, false), (12, false), (13, false), (14, false), (15, false)]⟩, ⟨none, [(16, false)]⟩])
  (.cond (.seq (rA 2)
  (.leaf))
  (.leaf)))
  (.seq (rA 2)
  (.leaf))))))))))
  (.seq (rA 8)
  (.seq (.seq (rA 1)
  (.cond (.seq (rA 3)
  (.leaf))
  (.leaf)))
  (.seq (.seq (rA 6)
  (.cond (.seq (rA 2)
  (.leaf))
  (.leaf)))
  (.seq (.draw [(0, false), (1, false), (2, false), (3, false), (4, false), (5, false), (6, true), (7, false), (8, false), (9, false), (10, false)] [0, 0, 2, 6, 14, 0, 32, 126, 255, 511, 1023])
  (.seq (rA 8)
  (.leaf)))))))

theorem s78_ok {Ψ : AVal → Heap → Prop} {t : AVal} {n_Kind : Int} {n_Name : ByteArray} {n_L : Int} {n_R : Int} {h : Heap} (H : s78 Ψ t n_Kind n_Name n_L n_R h) : ACalls prog 78 [t, (.agg [(.int .i64 n_Kind), (.str n_Name), (.int .i64 n_L), (.int .i64 n_R)])] h Ψ :=
  calls_of_evF func78 (by kernel_rfl) (by kernel_rfl) (by kernel_rfl)
    (Eq.mpr (by as_aux_lemma => kernel_rfl : oblF prog f78 (s78_A Ψ) Ψ = (True ∧ (True ∧ True ∧ (((True) ∧ (∀ (h : Heap) (x0 x1 : AVal) (x2 : Bool), OI (s78c2 Ψ x0 x1 x2 h)) ∧ ((True ∧ True) ∧ True)) ∧ True ∧ (True ∧ True) ∧ True) ∧ True ∧ ((True) ∧ (∀ (h : Heap) (x0 x1 : AVal) (x2 : Bool), OI (s78c3 Ψ x0 x1 x2 h)) ∧ ((True ∧ True) ∧ True)) ∧ (True ∧ True ∧ True ∧ True ∧ True) ∧ (∀ (h : Heap) (x0 x1 : AVal) (x2 : Bool), OI (s78c4 Ψ x0 x1 x2 h)) ∧ (((True) ∧ (∀ (h : Heap) (x0 x1 : AVal) (x2 : Bool), OI (s78c5 Ψ x0 x1 x2 h)) ∧ ((True ∧ True) ∧ True)) ∧ True ∧ True)) ∧ (∀ (h : Heap) (x0 x1 : AVal), OI (s78c1 Ψ x0 x1 h)) ∧ (True ∧ (True ∧ (True ∧ True) ∧ True) ∧ (True ∧ (True ∧ True) ∧ True) ∧ True ∧ True ∧ True))) ⟨trivial, ⟨⟨trivial, ⟨trivial, ⟨⟨⟨trivial, fun _ _ _ _ H => H, ⟨⟨trivial, trivial⟩, trivial⟩⟩, ⟨trivial, ⟨⟨trivial, trivial⟩, trivial⟩⟩⟩, ⟨trivial, ⟨⟨trivial, fun _ _ _ _ H => H, ⟨⟨trivial, trivial⟩, trivial⟩⟩, ⟨⟨trivial, ⟨trivial, ⟨trivial, ⟨trivial, trivial⟩⟩⟩⟩, fun _ _ _ _ H => H, ⟨⟨trivial, fun _ _ _ _ H => H, ⟨⟨trivial, trivial⟩, trivial⟩⟩, ⟨trivial, trivial⟩⟩⟩⟩⟩⟩⟩⟩, fun _ _ _ H => H, ⟨trivial, ⟨⟨trivial, ⟨⟨trivial, trivial⟩, trivial⟩⟩, ⟨⟨trivial, ⟨⟨trivial, trivial⟩, trivial⟩⟩, ⟨trivial, ⟨trivial, trivial⟩⟩⟩⟩⟩⟩⟩)
    (Eq.mpr (by as_aux_lemma => kernel_rfl : evF prog f78 (s78_A Ψ) Ψ [t, (.agg [(.int .i64 n_Kind), (.str n_Name), (.int .i64 n_L), (.int .i64 n_R)])] h = s78 Ψ t n_Kind n_Name n_L n_R h) H)

/- 80 slices.Index[[]int,int] -/
abbrev s80l1_T := AVal → Int → Int → Int → Heap → Prop
def s80l1_R (F : s80l1_T) (l : List AVal) (h : Heap) : Prop := J.cons l fun x0 l => J.cons l fun v l => J.int .i64 v fun x1 => J.cons l fun v l => J.int .i64 v fun x2 => J.cons l fun v l => J.int .i64 v fun x3 => J.nil l (F x0 x1 x2 x3 h)
def s80l1_G (F : s80l1_T) (x0 : AVal) (x1 x2 x3 : Int) (h : Heap) : Prop := gJ [.any, .int .i64, .int .i64, .int .i64] [x0, (.int .i64 x1), (.int .i64 x2), (.int .i64 x3)] h (s80l1_R F)
def s80l1_E (F : Nat → s80l1_T) (x0 : AVal) (x1 x2 x3 : Int) (h : Heap) : Prop := gJ [.any, .int .i64, .int .i64, .int .i64] [x0, (.int .i64 x1), (.int .i64 x2), (.int .i64 x3)] h (fun l h => ∃ n, s80l1_R (F n) l h)
theorem s80l1_go {F : s80l1_T} {x0 : AVal} {x1 x2 x3 : Int} {h : Heap} (H : F x0 x1 x2 x3 h) : s80l1_G F x0 x1 x2 x3 h := gJ_plain rfl H
theorem s80l1_in {F : Nat → s80l1_T} {x0 : AVal} {x1 x2 x3 : Int} {h : Heap} (n : Nat) (H : F n x0 x1 x2 x3 h) : s80l1_E F x0 x1 x2 x3 h := gJ_plain rfl ⟨n, H⟩

def s80l1 (Ψ : AVal → Heap → Prop) : Nat → s80l1_T
  | 0, _, _, _, _, _ => False
  | n1 + 1, s1, v1, t7, t8, h =>
    ifT (decide (t8 < t7)) (
      ixS 1 s1 t8 fun p =>
      ld1 h p fun v2 =>
      tInt .i64 v2 fun v3 =>
      ifT (v1 == v3) (
        retG (.int .i64 t8) h Ψ) (
        rg (t8 + 1) (
          s80l1_G (s80l1 Ψ n1) s1 v1 t7 (t8 + 1) h))) (
      retG (.int .i64 (-1)) h Ψ)

def s80 (Ψ : AVal → Heap → Prop) (s : AVal) (v : Int) (h : Heap) : Prop :=
  lenN s fun n =>
  s80l1_E (s80l1 Ψ) s v n 0 h

def s80_A (Ψ : AVal → Heap → Prop) : Ann :=
  .seq (rA 1)
  (.seq (.seq (rA 3)
  (.block (.loop [(0, .any), (1, .int .i64), (7, .int .i64), (8, .int .i64)] (fun n l h => s80l1_R (s80l1 Ψ n) l h) (fun L1 =>
  .seq (rA 1)
  (.seq (.cond (.leaf)
  (.leaf))
  (.seq (.block (.seq (rA 2)
  (.seq (rA 6)
  (.cond (.seq (rA 2)
  (.leaf))
  (.leaf)))))
  (rA 2)))))))
  (.seq (rA 1)
  (.leaf)))

theorem s80_ok {Ψ : AVal → Heap → Prop} {s : AVal} {v : Int} {h : Heap} (H : s80 Ψ s v h) : ACalls prog 80 [s, (.int .i64 v)] h Ψ :=
  calls_of_evF func80 (by kernel_rfl) (by kernel_rfl) (by kernel_rfl)
    (Eq.mpr (by as_aux_lemma => kernel_rfl : oblF prog f80 (s80_A Ψ) Ψ = (True ∧ (True ∧ (∀ (h : Heap) (x0 : AVal) (x1 x2 x3 : Int), ON (s80l1 Ψ 0 x0 x1 x2 x3 h)) ∧ ∀ n1 : Nat, (∀ (h : Heap) (x0 : AVal) (x1 x2 x3 : Int), OI (s80l1 Ψ (n1 + 1) x0 x1 x2 x3 h)) ∧ (True ∧ (True ∧ True) ∧ (True ∧ True ∧ (True ∧ True) ∧ True) ∧ True)) ∧ True ∧ True)) ⟨trivial, ⟨⟨trivial, ⟨fun _ _ _ _ _ H => H, fun _ => ⟨fun _ _ _ _ _ H => H, ⟨trivial, ⟨⟨trivial, trivial⟩, ⟨⟨trivial, ⟨trivial, ⟨⟨trivial, trivial⟩, trivial⟩⟩⟩, trivial⟩⟩⟩⟩⟩⟩, ⟨trivial, trivial⟩⟩⟩)
    (Eq.mpr (by as_aux_lemma => kernel_rfl : evF prog f80 (s80_A Ψ) Ψ [s, (.int .i64 v)] h = s80 Ψ s v h) H)

/- 82 slices.isNaN[int] -/
def s82 (Ψ : AVal → Heap → Prop) (x : Int) (h : Heap) : Prop :=
  retG (.bool (x != x)) h Ψ

def s82_A (Ψ : AVal → Heap → Prop) : Ann :=
  .seq (rA 1)
  (.seq (rA 4)
  (.leaf))

theorem s82_ok {Ψ : AVal → Heap → Prop} {x : Int} {h : Heap} (H : s82 Ψ x h) : ACalls prog 82 [(.int .i64 x)] h Ψ :=
  calls_of_evF func82 (by kernel_rfl) (by kernel_rfl) (by kernel_rfl)
    (Eq.mpr (by as_aux_lemma => kernel_rfl : oblF prog f82 (s82_A Ψ) Ψ = (True ∧ True ∧ True)) ⟨trivial, ⟨trivial, trivial⟩⟩)
    (Eq.mpr (by as_aux_lemma => kernel_rfl : evF prog f82 (s82_A Ψ) Ψ [(.int .i64 x)] h = s82 Ψ x h) H)

/- 84 (*dictum/dictumref03.T).Has -/
def s84 (Ψ : AVal → Heap → Prop) (t : AVal) (id_ : Int) (h : Heap) : Prop :=
  ifT (decide (0 ≤ id_)) (
    nilCheckA t fun p =>
    addOff p 0 fun p1 =>
    ld1 h p1 fun v =>
    lenN v fun n =>
    retG (.bool (decide (id_ < n))) h Ψ) (
    retG (.bool false) h Ψ)

def s84_A (Ψ : AVal → Heap → Prop) : Ann :=
  .seq (rA 1)
  (.seq (.reg [⟨none, [(0, false), (1, false), (2, false)]⟩, ⟨some (7, true), [(3, false), (4, false), (5, false), (6, false), (7, false), (8, false), (9, false)]⟩, ⟨none, [(10, false), (11, false)]⟩])
  (.leaf))

theorem s84_ok {Ψ : AVal → Heap → Prop} {t : AVal} {id_ : Int} {h : Heap} (H : s84 Ψ t id_ h) : ACalls prog 84 [t, (.int .i64 id_)] h Ψ :=
  calls_of_evF func84 (by kernel_rfl) (by kernel_rfl) (by kernel_rfl)
    (Eq.mpr (by as_aux_lemma => kernel_rfl : oblF prog f84 (s84_A Ψ) Ψ = (True ∧ True ∧ True)) ⟨trivial, ⟨trivial, trivial⟩⟩)
    (Eq.mpr (by as_aux_lemma => kernel_rfl : evF prog f84 (s84_A Ψ) Ψ [t, (.int .i64 id_)] h = s84 Ψ t id_ h) H)

/- 86 cmp.isNaN[int] -/
def s86 (Ψ : AVal → Heap → Prop) (x : Int) (h : Heap) : Prop :=
  retG (.bool (x != x)) h Ψ

def s86_A (Ψ : AVal → Heap → Prop) : Ann :=
  .seq (rA 1)
  (.seq (rA 4)
  (.leaf))

theorem s86_ok {Ψ : AVal → Heap → Prop} {x : Int} {h : Heap} (H : s86 Ψ x h) : ACalls prog 86 [(.int .i64 x)] h Ψ :=
  calls_of_evF func86 (by kernel_rfl) (by kernel_rfl) (by kernel_rfl)
    (Eq.mpr (by as_aux_lemma => kernel_rfl : oblF prog f86 (s86_A Ψ) Ψ = (True ∧ True ∧ True)) ⟨trivial, ⟨trivial, trivial⟩⟩)
    (Eq.mpr (by as_aux_lemma => kernel_rfl : evF prog f86 (s86_A Ψ) Ψ [(.int .i64 x)] h = s86 Ψ x h) H)

/- 88 dictum/worlds.rising -/
abbrev s88l1_T := AVal → AVal → Int → Int → Heap → Prop
def s88l1_R (F : s88l1_T) (l : List AVal) (h : Heap) : Prop := J.cons l fun x0 l => J.cons l fun x1 l => J.cons l fun v l => J.int .i64 v fun x2 => J.cons l fun v l => J.int .i64 v fun x3 => J.nil l (F x0 x1 x2 x3 h)
def s88l1_G (F : s88l1_T) (x0 x1 : AVal) (x2 x3 : Int) (h : Heap) : Prop := gJ [.any, .any, .int .i64, .int .i64] [x0, x1, (.int .i64 x2), (.int .i64 x3)] h (s88l1_R F)
def s88l1_E (F : Nat → s88l1_T) (x0 x1 : AVal) (x2 x3 : Int) (h : Heap) : Prop := gJ [.any, .any, .int .i64, .int .i64] [x0, x1, (.int .i64 x2), (.int .i64 x3)] h (fun l h => ∃ n, s88l1_R (F n) l h)
theorem s88l1_go {F : s88l1_T} {x0 x1 : AVal} {x2 x3 : Int} {h : Heap} (H : F x0 x1 x2 x3 h) : s88l1_G F x0 x1 x2 x3 h := gJ_plain rfl H
theorem s88l1_in {F : Nat → s88l1_T} {x0 x1 : AVal} {x2 x3 : Int} {h : Heap} (n : Nat) (H : F n x0 x1 x2 x3 h) : s88l1_E F x0 x1 x2 x3 h := gJ_plain rfl ⟨n, H⟩

def s88c2 (Ψ : AVal → Heap → Prop) (L1 : s88l1_T) (l_2 t5_1 : AVal) (t6_1 t7_1 : Int) (t27 : Bool) (h : Heap) : Prop :=
  ifT t27 (
    retG (.bool false) h Ψ) (
    rg (t7_1 + 1) (
      L1 l_2 t5_1 t6_1 (t7_1 + 1) h))

def s88l1 (Ψ : AVal → Heap → Prop) : Nat → s88l1_T
  | 0, _, _, _, _, _ => False
  | n1 + 1, l_1, t5, t6, t7, h =>
    ifT (decide (t7 < t6)) (
      ixS 1 t5 t7 fun p =>
      ld1 h p fun v =>
      tStr v fun v1 =>
      callG prog 42 [(.str v1)] h fun v2 h_ =>
      tBool v2 fun v3 =>
      ifT (!v3) (
        s88c2 Ψ (s88l1_G (s88l1 Ψ n1)) l_1 t5 t6 t7 true h_) (
        ifT (decide (0 < t7)) (
          rg (t7 - 1) (
            ixS 1 l_1 (t7 - 1) fun p1 =>
            ld1 h_ p1 fun v4 =>
            tStr v4 fun v5 =>
            s88c2 Ψ (s88l1_G (s88l1 Ψ n1)) l_1 t5 t6 t7 (!strLt v5 v1) h_)) (
          s88c2 Ψ (s88l1_G (s88l1 Ψ n1)) l_1 t5 t6 t7 false h_))) (
      retG (.bool true) h Ψ)

def s88 (Ψ : AVal → Heap → Prop) (l_ : AVal) (h : Heap) : Prop :=
  lenN l_ fun n =>
  s88l1_E (s88l1 Ψ) l_ l_ n 0 h

def s88_A (Ψ : AVal → Heap → Prop) : Ann :=
  .seq (rA 1)
  (.seq (.seq (rA 3)
  (.block (.loop [(0, .any), (5, .any), (6, .int .i64), (7, .int .i64)] (fun n l h => s88l1_R (s88l1 Ψ n) l h) (fun L1 =>
  .seq (rA 1)
  (.seq (.cond (.leaf)
  (.leaf))
  (.seq (.block (.seq (rA 5)
  (.cut [(0, .any), (5, .any), (6, .int .i64), (7, .int .i64), (27, .bool)] (fun l h => J.cons l fun x0 l => J.cons l fun x1 l => J.cons l fun v l => J.int .i64 v fun x2 => J.cons l fun v l => J.int .i64 v fun x3 => J.cons l fun v l => J.bool v fun x4 => J.nil l (s88c2 Ψ (fun y0 y1 y2 y3 h => L1 [y0, y1, (.int .i64 y2), (.int .i64 y3)] h) x0 x1 x2 x3 x4 h)) (.reg [⟨none, [(0, false), (1, false), (2, false), (3, false)]⟩, ⟨some (15, false), [(4, false), (5, false), (6, false)]⟩, ⟨some (18, true), [(7, false), (8, false), (9, false), (10, false), (11, false), (12, false), (13, false)]⟩, ⟨some (15, false), [(14, false)]⟩, ⟨none, [(15, false)]⟩])
  (.cond (.seq (rA 1)
  (.leaf))
  (.leaf)))))
  (rA 2)))))))
  (.seq (rA 1)
  (.leaf)))

theorem s88_ok {Ψ : AVal → Heap → Prop} {l_ : AVal} {h : Heap} (H : s88 Ψ l_ h) : ACalls prog 88 [l_] h Ψ :=
  calls_of_evF func88 (by kernel_rfl) (by kernel_rfl) (by kernel_rfl)
    (Eq.mpr (by as_aux_lemma => kernel_rfl : oblF prog f88 (s88_A Ψ) Ψ = (True ∧ (True ∧ (∀ (h : Heap) (x0 x1 : AVal) (x2 x3 : Int), ON (s88l1 Ψ 0 x0 x1 x2 x3 h)) ∧ ∀ n1 : Nat, (∀ (h : Heap) (x0 x1 : AVal) (x2 x3 : Int), OI (s88l1 Ψ (n1 + 1) x0 x1 x2 x3 h)) ∧ (True ∧ (True ∧ True) ∧ (True ∧ (True) ∧ (∀ (h : Heap) (x0 x1 : AVal) (x2 x3 : Int) (x4 : Bool), OI (s88c2 Ψ (s88l1_G (s88l1 Ψ n1)) x0 x1 x2 x3 x4 h)) ∧ ((True ∧ True) ∧ True)) ∧ True)) ∧ True ∧ True)) ⟨trivial, ⟨⟨trivial, ⟨fun _ _ _ _ _ H => H, fun _ => ⟨fun _ _ _ _ _ H => H, ⟨trivial, ⟨⟨trivial, trivial⟩, ⟨⟨trivial, ⟨trivial, fun _ _ _ _ _ _ H => H, ⟨⟨trivial, trivial⟩, trivial⟩⟩⟩, trivial⟩⟩⟩⟩⟩⟩, ⟨trivial, trivial⟩⟩⟩)
    (Eq.mpr (by as_aux_lemma => kernel_rfl : evF prog f88 (s88_A Ψ) Ψ [l_] h = s88 Ψ l_ h) H)

/- 90 dictum/worlds.reckon$1 -/
def s90 (Ψ : AVal → Heap → Prop) (a : Int) (b : Int) (c0 : AVal) (h : Heap) : Prop :=
  ld1 h c0 fun v =>
  ixS 1 v a fun p =>
  ld1 h p fun v1 =>
  ixS 1 v1 b fun p1 =>
  ld1 h p1 fun v2 =>
  tBool v2 fun v3 =>
  retG (.bool v3) h Ψ

def s90_A (Ψ : AVal → Heap → Prop) : Ann :=
  .seq (rA 1)
  (.seq (rA 8)
  (.leaf))

theorem s90_ok {Ψ : AVal → Heap → Prop} {a : Int} {b : Int} {c0 : AVal} {h : Heap} (H : s90 Ψ a b c0 h) : ACalls prog 90 [(.int .i64 a), (.int .i64 b), c0] h Ψ :=
  calls_of_evF func90 (by kernel_rfl) (by kernel_rfl) (by kernel_rfl)
    (Eq.mpr (by as_aux_lemma => kernel_rfl : oblF prog f90 (s90_A Ψ) Ψ = (True ∧ True ∧ True)) ⟨trivial, ⟨trivial, trivial⟩⟩)
    (Eq.mpr (by as_aux_lemma => kernel_rfl : evF prog f90 (s90_A Ψ) Ψ [(.int .i64 a), (.int .i64 b), c0] h = s90 Ψ a b c0 h) H)

end Go.Proofs.Ytinficcdpggiaaa

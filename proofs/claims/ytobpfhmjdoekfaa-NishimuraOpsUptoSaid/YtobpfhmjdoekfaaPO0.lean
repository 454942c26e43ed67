/- The functions that the proof meets, each as a text that Lean has checked against the program. No condition. -/
import Derived.Test.YtobpfhmjdoekfaaM3
import Derived.Test.YtobpfhmjdoekfaaChecked
namespace Go.Proofs.Ytobpfhmjdoekfaa
open Go Go.Sym Go.Proofs.Try
set_option maxRecDepth 100000
set_option linter.unusedVariables false

/- 3 dictum/dictumlaw26.NishimuraOps -/
def s3 (Ψ : AVal → Heap → Prop) (a : Int) (b : Int) (h : Heap) : Prop :=
  callG prog 7 [(.int .i64 a), (.int .i64 b)] h fun v h_ =>
  tTup v fun l_ =>
  tCons l_ fun v1 l_1 =>
  tBool v1 fun v2 =>
  tCons l_1 fun v3 l_2 =>
  tInt .i64 v3 fun v4 =>
  tNil l_2 (
    callG prog 8 [(.int .i64 a), (.int .i64 b)] h_ fun v5 h_1 =>
    tTup v5 fun l_3 =>
    tCons l_3 fun v6 l_4 =>
    tBool v6 fun v7 =>
    tCons l_4 fun v8 l_5 =>
    tInt .i64 v8 fun v9 =>
    tNil l_5 (
      callG prog 9 [(.int .i64 a), (.int .i64 b)] h_1 fun v10 h_2 =>
      tTup v10 fun l_6 =>
      tCons l_6 fun v11 l_7 =>
      tInt .i64 v11 fun v12 =>
      tCons l_7 fun v13 l_8 =>
      tInt .i64 v13 fun v14 =>
      tNil l_8 (
        callG prog 10 [(.int .i64 a), (.int .i64 b)] h_2 fun v15 h_3 =>
        tTup v15 fun l_9 =>
        tCons l_9 fun v16 l_10 =>
        tInt .i64 v16 fun v17 =>
        tCons l_10 fun v18 l_11 =>
        tInt .i64 v18 fun v19 =>
        tNil l_11 (
          callG prog 11 [(.int .i64 a), (.int .i64 b)] h_3 fun v20 h_4 =>
          tTup v20 fun l_12 =>
          tCons l_12 fun v21 l_13 =>
          tInt .i64 v21 fun v22 =>
          tCons l_13 fun v23 l_14 =>
          tInt .i64 v23 fun v24 =>
          tNil l_14 (
            callG prog 12 [(.int .i64 a), (.int .i64 b)] h_4 fun v25 h_5 =>
            tTup v25 fun l_15 =>
            tCons l_15 fun v26 l_16 =>
            tInt .i64 v26 fun v27 =>
            tCons l_16 fun v28 l_17 =>
            tInt .i64 v28 fun v29 =>
            tNil l_17 (
              callG prog 13 [(.int .i64 a), (.int .i64 b)] h_5 fun v30 h_6 =>
              tTup v30 fun l_18 =>
              tCons l_18 fun v31 l_19 =>
              tInt .i64 v31 fun v32 =>
              tCons l_19 fun v33 l_20 =>
              tInt .i64 v33 fun v34 =>
              tNil l_20 (
                callG prog 14 [(.int .i64 a), (.int .i64 b)] h_6 fun v35 h_7 =>
                tTup v35 fun l_21 =>
                tCons l_21 fun v36 l_22 =>
                tInt .i64 v36 fun v37 =>
                tCons l_22 fun v38 l_23 =>
                tInt .i64 v38 fun v39 =>
                tNil l_23 (
                  eqQ prog 4 (.bool v2) (.bool v7) fun b1 =>
                  ifT b1 (
                    callG prog 15 [(.int .i64 v4)] h_7 fun v40 h_8 =>
                    tInt .i64 v40 fun v41 =>
                    ifT (v41 == v9) (
                      ifT (v12 == v17) (
                        callG prog 15 [(.int .i64 v14)] h_8 fun v42 h_9 =>
                        tInt .i64 v42 fun v43 =>
                        ifT (v43 == v19) (
                          ifT (v22 == v27) (
                            callG prog 15 [(.int .i64 v24)] h_9 fun v44 h_10 =>
                            tInt .i64 v44 fun v45 =>
                            ifT (v45 == v29) (
                              ifT (v32 == v37) (
                                callG prog 15 [(.int .i64 v34)] h_10 fun v46 h_11 =>
                                tInt .i64 v46 fun v47 =>
                                ifT (v47 == v39) (
                                  callG prog 16 [] h_11 fun v48 h_12 =>
                                  tBool v48 fun v49 =>
                                  retG (.bool v49) h_12 Ψ) (
                                  retG (.bool false) h_11 Ψ)) (
                                retG (.bool false) h_10 Ψ)) (
                              retG (.bool false) h_10 Ψ)) (
                            retG (.bool false) h_9 Ψ)) (
                          retG (.bool false) h_9 Ψ)) (
                        retG (.bool false) h_8 Ψ)) (
                      retG (.bool false) h_8 Ψ)) (
                    retG (.bool false) h_7 Ψ)))))))))

def s3_A (Ψ : AVal → Heap → Prop) : Ann :=
  .seq (rA 1)
  (.seq (rA 8)
  (.seq (rA 8)
  (.seq (rA 8)
  (.seq (rA 8)
  (.seq (rA 8)
  (.seq (rA 8)
  (.seq (rA 8)
  (.seq (rA 8)
  (.seq (.reg [⟨none, [(0, false), (1, false), (2, false), (3, false)]⟩, ⟨some (72, true), [(4, false), (5, false), (6, false), (7, false)]⟩, ⟨none, [(8, false), (9, false)]⟩, ⟨some (78, true), [(10, false), (11, false), (12, false)]⟩, ⟨none, [(13, false), (14, false)]⟩, ⟨some (83, true), [(15, false), (16, false), (17, false), (18, false)]⟩, ⟨none, [(19, false), (20, false)]⟩, ⟨some (89, true), [(21, false), (22, false), (23, false)]⟩, ⟨none, [(24, false), (25, false)]⟩, ⟨some (94, true), [(26, false), (27, false), (28, false), (29, false)]⟩, ⟨none, [(30, false), (31, false)]⟩, ⟨some (100, true), [(32, false), (33, false), (34, false)]⟩, ⟨none, [(35, false), (36, false)]⟩, ⟨some (105, true), [(37, false), (38, false), (39, false), (40, false)]⟩, ⟨none, [(41, false), (42, false)]⟩, ⟨some (111, true), [(43, false)]⟩, ⟨none, [(44, false), (45, false)]⟩])
  (.leaf))))))))))

theorem s3_ok {Ψ : AVal → Heap → Prop} {a : Int} {b : Int} {h : Heap} (H : s3 Ψ a b h) : ACalls prog 3 [(.int .i64 a), (.int .i64 b)] h Ψ :=
  calls_of_evF func3 (by kernel_rfl) (by kernel_rfl) (by kernel_rfl)
    (Eq.mpr (by as_aux_lemma => kernel_rfl : oblF prog f3 (s3_A Ψ) Ψ = (True ∧ True ∧ True ∧ True ∧ True ∧ True ∧ True ∧ True ∧ True ∧ True ∧ True)) ⟨trivial, ⟨trivial, ⟨trivial, ⟨trivial, ⟨trivial, ⟨trivial, ⟨trivial, ⟨trivial, ⟨trivial, ⟨trivial, trivial⟩⟩⟩⟩⟩⟩⟩⟩⟩⟩)
    (Eq.mpr (by as_aux_lemma => kernel_rfl : evF prog f3 (s3_A Ψ) Ψ [(.int .i64 a), (.int .i64 b)] h = s3 Ψ a b h) H)

/- 5 dictum/dictumlaw26.NishimuraHeyting -/
def s5c3 (Ψ : AVal → Heap → Prop) (a3 b3 c3 : Int) (bc2 ac2 : Bool) (x h_7 y z : Int) (t103 : Bool) (h : Heap) : Prop :=
  ifT t103 (
    callG prog 15 [(.int .i64 h_7)] h fun v32 h_8 =>
    tInt .i64 v32 fun v33 =>
    ifT (v33 == 0) (
      callG prog 16 [] h_8 fun v34 h_9 =>
      tBool v34 fun v35 =>
      retG (.bool v35) h_9 Ψ) (
      retG (.bool false) h_8 Ψ)) (
    callG prog 7 [(.int .i64 x), (.int .i64 b3)] h fun v36 h_10 =>
    tTup v36 fun l_18 =>
    tCons l_18 fun v37 l_19 =>
    tBool v37 fun v38 =>
    tCons l_19 fun v39 l_20 =>
    tInt .i64 v39 fun v40 =>
    tNil l_20 (
      callG prog 7 [(.int .i64 c3), (.int .i64 y)] h_10 fun v41 h_11 =>
      tTup v41 fun l_21 =>
      tCons l_21 fun v42 l_22 =>
      tBool v42 fun v43 =>
      tCons l_22 fun v44 l_23 =>
      tInt .i64 v44 fun v45 =>
      tNil l_23 (
        callG prog 7 [(.int .i64 a3), (.int .i64 z)] h_11 fun v46 h_12 =>
        tTup v46 fun l_24 =>
        tCons l_24 fun v47 l_25 =>
        tBool v47 fun v48 =>
        tCons l_25 fun v49 l_26 =>
        tInt .i64 v49 fun v50 =>
        tNil l_26 (
          callG prog 7 [(.int .i64 b3), (.int .i64 z)] h_12 fun v51 h_13 =>
          tTup v51 fun l_27 =>
          tCons l_27 fun v52 l_28 =>
          tBool v52 fun v53 =>
          tCons l_28 fun v54 l_29 =>
          tInt .i64 v54 fun v55 =>
          tNil l_29 (
            callG prog 7 [(.int .i64 z), (.int .i64 c3)] h_13 fun v56 h_14 =>
            tTup v56 fun l_30 =>
            tCons l_30 fun v57 l_31 =>
            tBool v57 fun v58 =>
            tCons l_31 fun v59 l_32 =>
            tInt .i64 v59 fun v60 =>
            tNil l_32 (
              callG prog 7 [(.int .i64 x), (.int .i64 a3)] h_14 fun v61 h_15 =>
              tTup v61 fun l_33 =>
              tCons l_33 fun v62 l_34 =>
              tBool v62 fun v63 =>
              tCons l_34 fun v64 l_35 =>
              tInt .i64 v64 fun v65 =>
              tNil l_35 (
                callG prog 7 [(.int .i64 x), (.int .i64 c3)] h_15 fun v66 h_16 =>
                tTup v66 fun l_36 =>
                tCons l_36 fun v67 l_37 =>
                tBool v67 fun v68 =>
                tCons l_37 fun v69 l_38 =>
                tInt .i64 v69 fun v70 =>
                tNil l_38 (
                  eqQ prog 4 (.bool v38) (.bool v43) fun b4 =>
                  ifT b4 (
                    ifT v48 (
                      ifT v53 (
                        ifT ac2 (
                          eqQ prog 4 (.bool v58) (.bool bc2) fun b5 =>
                          ifT b5 (
                            ifT v63 (
                              ifT v68 (
                                callG prog 16 [] h_16 fun v71 h_17 =>
                                tBool v71 fun v72 =>
                                retG (.bool v72) h_17 Ψ) (
                                retG (.bool false) h_16 Ψ)) (
                              retG (.bool false) h_16 Ψ)) (
                            retG (.bool false) h_16 Ψ)) (
                          eqQ prog 4 (.bool v58) (.bool false) fun b6 =>
                          ifT b6 (
                            ifT v63 (
                              ifT v68 (
                                callG prog 16 [] h_16 fun v73 h_18 =>
                                tBool v73 fun v74 =>
                                retG (.bool v74) h_18 Ψ) (
                                retG (.bool false) h_16 Ψ)) (
                              retG (.bool false) h_16 Ψ)) (
                            retG (.bool false) h_16 Ψ))) (
                        retG (.bool false) h_16 Ψ)) (
                      retG (.bool false) h_16 Ψ)) (
                    retG (.bool false) h_16 Ψ)))))))))

def s5c2 (Ψ : AVal → Heap → Prop) (a2 b2 c2 : Int) (bc1 ac1 t72 : Bool) (h : Heap) : Prop :=
  ifT t72 (
    retG (.bool false) h Ψ) (
    callG prog 9 [(.int .i64 c2), (.int .i64 a2)] h fun v17 h_4 =>
    tTup v17 fun l_9 =>
    tCons l_9 fun v18 l_10 =>
    tInt .i64 v18 fun v19 =>
    tCons l_10 fun v20 l_11 =>
    tInt .i64 v20 fun v21 =>
    tNil l_11 (
      callG prog 13 [(.int .i64 a2), (.int .i64 b2)] h_4 fun v22 h_5 =>
      tTup v22 fun l_12 =>
      tCons l_12 fun v23 l_13 =>
      tInt .i64 v23 fun v24 =>
      tCons l_13 fun v25 l_14 =>
      tInt .i64 v25 fun v26 =>
      tNil l_14 (
        callG prog 11 [(.int .i64 a2), (.int .i64 b2)] h_5 fun v27 h_6 =>
        tTup v27 fun l_15 =>
        tCons l_15 fun v28 l_16 =>
        tInt .i64 v28 fun v29 =>
        tCons l_16 fun v30 l_17 =>
        tInt .i64 v30 fun v31 =>
        tNil l_17 (
          callG prog 15 [(.int .i64 v21)] h_6 fun v75 h_19 =>
          tInt .i64 v75 fun v76 =>
          ifT (v76 != 0) (
            s5c3 Ψ a2 b2 c2 bc1 ac1 v19 v21 v24 v29 true h_19) (
            callG prog 15 [(.int .i64 v26)] h_19 fun v77 h_20 =>
            tInt .i64 v77 fun v78 =>
            ifT (v78 != 0) (
              s5c3 Ψ a2 b2 c2 bc1 ac1 v19 v21 v24 v29 true h_20) (
              callG prog 15 [(.int .i64 v31)] h_20 fun v79 h_21 =>
              tInt .i64 v79 fun v80 =>
              s5c3 Ψ a2 b2 c2 bc1 ac1 v19 v21 v24 v29 (v80 != 0) h_21))))))

def s5c1 (Ψ : AVal → Heap → Prop) (a1 b1 c1 : Int) (ab bc ac t63 : Bool) (h : Heap) : Prop :=
  ifT t63 (
    callG prog 16 [] h fun v15 h_3 =>
    tBool v15 fun v16 =>
    retG (.bool v16) h_3 Ψ) (
    ifT ab (
      ifT bc (
        s5c2 Ψ a1 b1 c1 bc ac (!ac) h) (
        s5c2 Ψ a1 b1 c1 bc ac false h)) (
      s5c2 Ψ a1 b1 c1 bc ac false h))

def s5 (Ψ : AVal → Heap → Prop) (a : Int) (b : Int) (c : Int) (h : Heap) : Prop :=
  callG prog 7 [(.int .i64 a), (.int .i64 b)] h fun v h_ =>
  tTup v fun l_ =>
  tCons l_ fun v1 l_1 =>
  tBool v1 fun v2 =>
  tCons l_1 fun v3 l_2 =>
  tInt .i64 v3 fun v4 =>
  tNil l_2 (
    callG prog 7 [(.int .i64 b), (.int .i64 c)] h_ fun v5 h_1 =>
    tTup v5 fun l_3 =>
    tCons l_3 fun v6 l_4 =>
    tBool v6 fun v7 =>
    tCons l_4 fun v8 l_5 =>
    tInt .i64 v8 fun v9 =>
    tNil l_5 (
      callG prog 7 [(.int .i64 a), (.int .i64 c)] h_1 fun v10 h_2 =>
      tTup v10 fun l_6 =>
      tCons l_6 fun v11 l_7 =>
      tBool v11 fun v12 =>
      tCons l_7 fun v13 l_8 =>
      tInt .i64 v13 fun v14 =>
      tNil l_8 (
        callG prog 15 [(.int .i64 v4)] h_2 fun v81 h_22 =>
        tInt .i64 v81 fun v82 =>
        ifT (v82 != 0) (
          s5c1 Ψ a b c v2 v7 v12 true h_22) (
          callG prog 15 [(.int .i64 v9)] h_22 fun v83 h_23 =>
          tInt .i64 v83 fun v84 =>
          ifT (v84 != 0) (
            s5c1 Ψ a b c v2 v7 v12 true h_23) (
            callG prog 15 [(.int .i64 v14)] h_23 fun v85 h_24 =>
            tInt .i64 v85 fun v86 =>
            s5c1 Ψ a b c v2 v7 v12 (v86 != 0) h_24)))))

def s5_A (Ψ : AVal → Heap → Prop) : Ann :=
  .seq (rA 1)
  (.seq (rA 8)
  (.seq (rA 8)
  (.seq (rA 8)
  (.seq (.cut [(0, .int .i64), (1, .int .i64), (2, .int .i64), (7, .bool), (9, .bool), (11, .bool), (63, .bool)] (fun l h => J.cons l fun v l => J.int .i64 v fun x0 => J.cons l fun v l => J.int .i64 v fun x1 => J.cons l fun v l => J.int .i64 v fun x2 => J.cons l fun v l => J.bool v fun x3 => J.cons l fun v l => J.bool v fun x4 => J.cons l fun v l => J.bool v fun x5 => J.cons l fun v l => J.bool v fun x6 => J.nil l (s5c1 Ψ x0 x1 x2 x3 x4 x5 x6 h)) (.reg [⟨none, [(0, false), (1, false), (2, false), (3, false)]⟩, ⟨some (54, false), [(4, false), (5, false), (6, false)]⟩, ⟨none, [(7, false), (8, false)]⟩, ⟨some (59, false), [(9, false), (10, false), (11, false)]⟩, ⟨none, [(12, false)]⟩])
  (.cond (.seq (rA 2)
  (.leaf))
  (.leaf)))
  (.seq (.cut [(0, .int .i64), (1, .int .i64), (2, .int .i64), (9, .bool), (11, .bool), (72, .bool)] (fun l h => J.cons l fun v l => J.int .i64 v fun x0 => J.cons l fun v l => J.int .i64 v fun x1 => J.cons l fun v l => J.int .i64 v fun x2 => J.cons l fun v l => J.bool v fun x3 => J.cons l fun v l => J.bool v fun x4 => J.cons l fun v l => J.bool v fun x5 => J.nil l (s5c2 Ψ x0 x1 x2 x3 x4 x5 h)) (.reg [⟨none, [(0, false), (1, false)]⟩, ⟨some (66, true), [(2, false)]⟩, ⟨none, [(3, false), (4, false)]⟩, ⟨some (69, true), [(5, false), (6, false)]⟩, ⟨none, [(7, false)]⟩])
  (.cond (.seq (rA 1)
  (.leaf))
  (.leaf)))
  (.seq (rA 8)
  (.seq (rA 8)
  (.seq (rA 8)
  (.seq (.cut [(0, .int .i64), (1, .int .i64), (2, .int .i64), (9, .bool), (11, .bool), (13, .int .i64), (14, .int .i64), (15, .int .i64), (17, .int .i64), (103, .bool)] (fun l h => J.cons l fun v l => J.int .i64 v fun x0 => J.cons l fun v l => J.int .i64 v fun x1 => J.cons l fun v l => J.int .i64 v fun x2 => J.cons l fun v l => J.bool v fun x3 => J.cons l fun v l => J.bool v fun x4 => J.cons l fun v l => J.int .i64 v fun x5 => J.cons l fun v l => J.int .i64 v fun x6 => J.cons l fun v l => J.int .i64 v fun x7 => J.cons l fun v l => J.int .i64 v fun x8 => J.cons l fun v l => J.bool v fun x9 => J.nil l (s5c3 Ψ x0 x1 x2 x3 x4 x5 x6 x7 x8 x9 h)) (.reg [⟨none, [(0, false), (1, false), (2, false), (3, false)]⟩, ⟨some (94, false), [(4, false), (5, false), (6, false)]⟩, ⟨none, [(7, false), (8, false)]⟩, ⟨some (99, false), [(9, false), (10, false), (11, false)]⟩, ⟨none, [(12, false)]⟩])
  (.cond (.seq (.reg [⟨none, [(0, false), (1, false), (2, false), (3, false)]⟩, ⟨some (107, true), [(4, false)]⟩, ⟨none, [(5, false), (6, false)]⟩])
  (.leaf))
  (.leaf)))
  (.seq (rA 8)
  (.seq (rA 8)
  (.seq (rA 8)
  (.seq (rA 8)
  (.seq (rA 8)
  (.seq (rA 8)
  (.seq (rA 8)
  (.seq (.reg [⟨none, [(0, false), (1, false), (2, false), (3, false)]⟩, ⟨some (155, true), [(4, false)]⟩, ⟨none, [(5, false), (6, false)]⟩, ⟨some (158, true), [(7, false)]⟩, ⟨none, [(8, false), (9, false)]⟩, ⟨some (161, true), [(10, false), (11, false), (12, false)]⟩, ⟨some (164, true), [(13, false)]⟩, ⟨some (161, true), [(14, false), (15, false)]⟩, ⟨none, [(16, false), (17, false)]⟩, ⟨some (169, true), [(18, false)]⟩, ⟨none, [(19, false), (20, false)]⟩, ⟨some (172, true), [(21, false)]⟩, ⟨none, [(22, false), (23, false)]⟩, ⟨some (175, true), [(24, false)]⟩, ⟨none, [(25, false), (26, false)]⟩])
  (.leaf))))))))))))))))))

theorem s5_ok {Ψ : AVal → Heap → Prop} {a : Int} {b : Int} {c : Int} {h : Heap} (H : s5 Ψ a b c h) : ACalls prog 5 [(.int .i64 a), (.int .i64 b), (.int .i64 c)] h Ψ :=
  calls_of_evF func5 (by kernel_rfl) (by kernel_rfl) (by kernel_rfl)
    (Eq.mpr (by as_aux_lemma => kernel_rfl : oblF prog f5 (s5_A Ψ) Ψ = (True ∧ True ∧ True ∧ True ∧ ((True) ∧ (∀ (h : Heap) (x0 x1 x2 : Int) (x3 x4 x5 x6 : Bool), OI (s5c1 Ψ x0 x1 x2 x3 x4 x5 x6 h)) ∧ ((True ∧ True) ∧ True)) ∧ ((True) ∧ (∀ (h : Heap) (x0 x1 x2 : Int) (x3 x4 x5 : Bool), OI (s5c2 Ψ x0 x1 x2 x3 x4 x5 h)) ∧ ((True ∧ True) ∧ True)) ∧ True ∧ True ∧ True ∧ ((True) ∧ (∀ (h : Heap) (x0 x1 x2 : Int) (x3 x4 : Bool) (x5 x6 x7 x8 : Int) (x9 : Bool), OI (s5c3 Ψ x0 x1 x2 x3 x4 x5 x6 x7 x8 x9 h)) ∧ ((True ∧ True) ∧ True)) ∧ True ∧ True ∧ True ∧ True ∧ True ∧ True ∧ True ∧ True ∧ True)) ⟨trivial, ⟨trivial, ⟨trivial, ⟨trivial, ⟨⟨trivial, fun _ _ _ _ _ _ _ _ H => H, ⟨⟨trivial, trivial⟩, trivial⟩⟩, ⟨⟨trivial, fun _ _ _ _ _ _ _ H => H, ⟨⟨trivial, trivial⟩, trivial⟩⟩, ⟨trivial, ⟨trivial, ⟨trivial, ⟨⟨trivial, fun _ _ _ _ _ _ _ _ _ _ _ H => H, ⟨⟨trivial, trivial⟩, trivial⟩⟩, ⟨trivial, ⟨trivial, ⟨trivial, ⟨trivial, ⟨trivial, ⟨trivial, ⟨trivial, ⟨trivial, trivial⟩⟩⟩⟩⟩⟩⟩⟩⟩⟩⟩⟩⟩⟩⟩⟩⟩⟩)
    (Eq.mpr (by as_aux_lemma => kernel_rfl : evF prog f5 (s5_A Ψ) Ψ [(.int .i64 a), (.int .i64 b), (.int .i64 c)] h = s5 Ψ a b c h) H)

/- 6 dictum/dictumlaw26.NishimuraNobody -/
def s6 (Ψ : AVal → Heap → Prop) (id_ : Int) (k : Int) (h : Heap) : Prop :=
  callG prog 20 [.nilptr, (.int .i64 id_), (.int .i64 k)] h fun v h_ =>
  tBool v fun v1 =>
  ifT v1 (
    Sym.newRow 2 [(.agg [.nilsl, .nilmap])] h_ fun r h_1 =>
    callG prog 20 [(.ptr r 0 0), (.int .i64 id_), (.int .i64 k)] h_1 fun v2 h_2 =>
    tBool v2 fun v3 =>
    ifT v3 (
      callG prog 16 [] h_2 fun v4 h_3 =>
      tBool v4 fun v5 =>
      retG (.bool v5) h_3 Ψ) (
      retG (.bool false) h_2 Ψ)) (
    retG (.bool false) h_ Ψ)

def s6_A (Ψ : AVal → Heap → Prop) : Ann :=
  .seq (rA 1)
  (.seq (rA 1)
  (.seq (.reg [⟨none, [(0, false), (1, false), (2, false), (3, false), (4, false)]⟩, ⟨some (10, true), [(5, false), (6, false), (7, false), (8, false), (9, false)]⟩, ⟨none, [(10, false), (11, false)]⟩, ⟨some (17, true), [(12, false)]⟩, ⟨none, [(13, false), (14, false)]⟩])
  (.leaf)))

theorem s6_ok {Ψ : AVal → Heap → Prop} {id_ : Int} {k : Int} {h : Heap} (H : s6 Ψ id_ k h) : ACalls prog 6 [(.int .i64 id_), (.int .i64 k)] h Ψ :=
  calls_of_evF func6 (by kernel_rfl) (by kernel_rfl) (by kernel_rfl)
    (Eq.mpr (by as_aux_lemma => kernel_rfl : oblF prog f6 (s6_A Ψ) Ψ = (True ∧ True ∧ True ∧ True)) ⟨trivial, ⟨trivial, ⟨trivial, trivial⟩⟩⟩)
    (Eq.mpr (by as_aux_lemma => kernel_rfl : evF prog f6 (s6_A Ψ) Ψ [(.int .i64 id_), (.int .i64 k)] h = s6 Ψ id_ k h) H)

/- 7 dictum/nishimura.Below -/
def s7c1 (Ψ : AVal → Heap → Prop) (x y : AVal) (t25 : Bool) (h : Heap) : Prop :=
  ifT t25 (
    retG (.tuple [(.bool false), (.int .i64 2)]) h Ψ) (
    ldN 3 h x fun l_14 =>
    tCons l_14 fun v20 l_15 =>
    tBool v20 fun v21 =>
    tCons l_15 fun v22 l_16 =>
    tInt .i64 v22 fun v23 =>
    tCons l_16 fun v24 l_17 =>
    tBool v24 fun v25 =>
    tNil l_17 (
      ldN 3 h y fun l_18 =>
      tCons l_18 fun v26 l_19 =>
      tBool v26 fun v27 =>
      tCons l_19 fun v28 l_20 =>
      tInt .i64 v28 fun v29 =>
      tCons l_20 fun v30 l_21 =>
      tBool v30 fun v31 =>
      tNil l_21 (
        callG prog 22 [(.agg [(.bool v21), (.int .i64 v23), (.bool v25)]), (.agg [(.bool v27), (.int .i64 v29), (.bool v31)])] h fun v32 h_6 =>
        tBool v32 fun v33 =>
        retG (.tuple [(.bool v33), (.int .i64 0)]) h_6 Ψ)))

def s7 (Ψ : AVal → Heap → Prop) (a : Int) (b : Int) (h : Heap) : Prop :=
  callG prog 21 [(.int .i64 a)] h fun v h_ =>
  tTup v fun l_ =>
  tCons l_ fun v1 l_1 =>
  tCons l_1 fun v2 l_2 =>
  tBool v2 fun v3 =>
  tNil l_2 (
    tAgg v1 fun l_3 =>
    tCons l_3 fun v4 l_4 =>
    tBool v4 fun v5 =>
    tCons l_4 fun v6 l_5 =>
    tInt .i64 v6 fun v7 =>
    tCons l_5 fun v8 l_6 =>
    tBool v8 fun v9 =>
    tNil l_6 (
      Sym.newRow 3 [(.agg [(.bool false), (.int .i64 0), (.bool false)])] h_ fun r h_1 =>
      st false h_1 (.ptr r 0 0) [(.bool v5), (.int .i64 v7), (.bool v9)] fun h_2 =>
      callG prog 21 [(.int .i64 b)] h_2 fun v10 h_3 =>
      tTup v10 fun l_7 =>
      tCons l_7 fun v11 l_8 =>
      tCons l_8 fun v12 l_9 =>
      tBool v12 fun v13 =>
      tNil l_9 (
        tAgg v11 fun l_10 =>
        tCons l_10 fun v14 l_11 =>
        tBool v14 fun v15 =>
        tCons l_11 fun v16 l_12 =>
        tInt .i64 v16 fun v17 =>
        tCons l_12 fun v18 l_13 =>
        tBool v18 fun v19 =>
        tNil l_13 (
          Sym.newRow 3 [(.agg [(.bool false), (.int .i64 0), (.bool false)])] h_3 fun r1 h_4 =>
          st false h_4 (.ptr r1 0 0) [(.bool v15), (.int .i64 v17), (.bool v19)] fun h_5 =>
          ifT (!v3) (
            s7c1 Ψ (.ptr r 0 0) (.ptr r1 0 0) true h_5) (
            s7c1 Ψ (.ptr r 0 0) (.ptr r1 0 0) (!v13) h_5)))))

def s7_A (Ψ : AVal → Heap → Prop) : Ann :=
  .seq (rA 2)
  (.seq (rA 8)
  (.seq (rA 8)
  (.seq (.cut [(6, .any), (8, .any), (25, .bool)] (fun l h => J.cons l fun x0 l => J.cons l fun x1 l => J.cons l fun v l => J.bool v fun x2 => J.nil l (s7c1 Ψ x0 x1 x2 h)) (.reg [⟨none, [(0, false), (1, false), (2, false)]⟩, ⟨some (22, false), [(3, false), (4, false)]⟩, ⟨none, [(5, false)]⟩])
  (.cond (.seq (rA 2)
  (.leaf))
  (.leaf)))
  (.seq (rA 5)
  (.leaf)))))

theorem s7_ok {Ψ : AVal → Heap → Prop} {a : Int} {b : Int} {h : Heap} (H : s7 Ψ a b h) : ACalls prog 7 [(.int .i64 a), (.int .i64 b)] h Ψ :=
  calls_of_evF func7 (by kernel_rfl) (by kernel_rfl) (by kernel_rfl)
    (Eq.mpr (by as_aux_lemma => kernel_rfl : oblF prog f7 (s7_A Ψ) Ψ = (True ∧ True ∧ True ∧ ((True) ∧ (∀ (h : Heap) (x0 x1 : AVal) (x2 : Bool), OI (s7c1 Ψ x0 x1 x2 h)) ∧ ((True ∧ True) ∧ True)) ∧ True ∧ True)) ⟨trivial, ⟨trivial, ⟨trivial, ⟨⟨trivial, fun _ _ _ _ H => H, ⟨⟨trivial, trivial⟩, trivial⟩⟩, ⟨trivial, trivial⟩⟩⟩⟩⟩)
    (Eq.mpr (by as_aux_lemma => kernel_rfl : evF prog f7 (s7_A Ψ) Ψ [(.int .i64 a), (.int .i64 b)] h = s7 Ψ a b h) H)

/- 8 dictum/dictumref26.Below -/
def s8c1 (Ψ : AVal → Heap → Prop) (a1 b1 : Int) (t13 : Bool) (h : Heap) : Prop :=
  ifT t13 (
    retG (.tuple [(.bool false), (.int .i64 2)]) h Ψ) (
    callG prog 24 [(.int .i64 a1), (.int .i64 b1)] h fun v h_ =>
    tBool v fun v1 =>
    retG (.tuple [(.bool v1), (.int .i64 0)]) h_ Ψ)

def s8 (Ψ : AVal → Heap → Prop) (a : Int) (b : Int) (h : Heap) : Prop :=
  callG prog 23 [(.int .i64 a)] h fun v2 h_1 =>
  tBool v2 fun v3 =>
  ifT (!v3) (
    s8c1 Ψ a b true h_1) (
    callG prog 23 [(.int .i64 b)] h_1 fun v4 h_2 =>
    tBool v4 fun v5 =>
    s8c1 Ψ a b (!v5) h_2)

def s8_A (Ψ : AVal → Heap → Prop) : Ann :=
  .seq (rA 2)
  (.seq (.cut [(0, .int .i64), (1, .int .i64), (13, .bool)] (fun l h => J.cons l fun v l => J.int .i64 v fun x0 => J.cons l fun v l => J.int .i64 v fun x1 => J.cons l fun v l => J.bool v fun x2 => J.nil l (s8c1 Ψ x0 x1 x2 h)) (.reg [⟨none, [(0, false), (1, false), (2, false), (3, false)]⟩, ⟨some (9, false), [(4, false), (5, false), (6, false)]⟩, ⟨none, [(7, false)]⟩])
  (.cond (.seq (rA 2)
  (.leaf))
  (.leaf)))
  (.seq (rA 5)
  (.leaf)))

theorem s8_ok {Ψ : AVal → Heap → Prop} {a : Int} {b : Int} {h : Heap} (H : s8 Ψ a b h) : ACalls prog 8 [(.int .i64 a), (.int .i64 b)] h Ψ :=
  calls_of_evF func8 (by kernel_rfl) (by kernel_rfl) (by kernel_rfl)
    (Eq.mpr (by as_aux_lemma => kernel_rfl : oblF prog f8 (s8_A Ψ) Ψ = (True ∧ ((True) ∧ (∀ (h : Heap) (x0 x1 : Int) (x2 : Bool), OI (s8c1 Ψ x0 x1 x2 h)) ∧ ((True ∧ True) ∧ True)) ∧ True ∧ True)) ⟨trivial, ⟨⟨trivial, fun _ _ _ _ H => H, ⟨⟨trivial, trivial⟩, trivial⟩⟩, ⟨trivial, trivial⟩⟩⟩)
    (Eq.mpr (by as_aux_lemma => kernel_rfl : evF prog f8 (s8_A Ψ) Ψ [(.int .i64 a), (.int .i64 b)] h = s8 Ψ a b h) H)

/- 9 dictum/nishimura.Meet -/
def s9 (Ψ : AVal → Heap → Prop) (a : Int) (b : Int) (h : Heap) : Prop :=
  callG prog 25 [(.int .i64 a), (.int .i64 b), (.func (.func 26) [] [])] h fun v h_ =>
  tTup v fun l_ =>
  tCons l_ fun v1 l_1 =>
  tInt .i64 v1 fun v2 =>
  tCons l_1 fun v3 l_2 =>
  tInt .i64 v3 fun v4 =>
  tNil l_2 (
    retG (.tuple [(.int .i64 v2), (.int .i64 v4)]) h_ Ψ)

def s9_A (Ψ : AVal → Heap → Prop) : Ann :=
  .seq (rA 2)
  (.seq (rA 7)
  (.leaf))

theorem s9_ok {Ψ : AVal → Heap → Prop} {a : Int} {b : Int} {h : Heap} (H : s9 Ψ a b h) : ACalls prog 9 [(.int .i64 a), (.int .i64 b)] h Ψ :=
  calls_of_evF func9 (by kernel_rfl) (by kernel_rfl) (by kernel_rfl)
    (Eq.mpr (by as_aux_lemma => kernel_rfl : oblF prog f9 (s9_A Ψ) Ψ = (True ∧ True ∧ True)) ⟨trivial, ⟨trivial, trivial⟩⟩)
    (Eq.mpr (by as_aux_lemma => kernel_rfl : evF prog f9 (s9_A Ψ) Ψ [(.int .i64 a), (.int .i64 b)] h = s9 Ψ a b h) H)

/- 10 dictum/dictumref26.Meet -/
def s10c1 (Ψ : AVal → Heap → Prop) (a1 b1 : Int) (t13 : Bool) (h : Heap) : Prop :=
  ifT t13 (
    retG (.tuple [(.int .i64 0), (.int .i64 2)]) h Ψ) (
    callG prog 28 [(.int .i64 a1), (.int .i64 b1)] h fun v h_ =>
    tInt .i64 v fun v1 =>
    callG prog 27 [(.int .i64 v1)] h_ fun v2 h_1 =>
    tTup v2 fun l_ =>
    tCons l_ fun v3 l_1 =>
    tInt .i64 v3 fun v4 =>
    tCons l_1 fun v5 l_2 =>
    tInt .i64 v5 fun v6 =>
    tNil l_2 (
      retG (.tuple [(.int .i64 v4), (.int .i64 v6)]) h_1 Ψ))

def s10 (Ψ : AVal → Heap → Prop) (a : Int) (b : Int) (h : Heap) : Prop :=
  callG prog 23 [(.int .i64 a)] h fun v7 h_2 =>
  tBool v7 fun v8 =>
  ifT (!v8) (
    s10c1 Ψ a b true h_2) (
    callG prog 23 [(.int .i64 b)] h_2 fun v9 h_3 =>
    tBool v9 fun v10 =>
    s10c1 Ψ a b (!v10) h_3)

def s10_A (Ψ : AVal → Heap → Prop) : Ann :=
  .seq (rA 2)
  (.seq (.cut [(0, .int .i64), (1, .int .i64), (13, .bool)] (fun l h => J.cons l fun v l => J.int .i64 v fun x0 => J.cons l fun v l => J.int .i64 v fun x1 => J.cons l fun v l => J.bool v fun x2 => J.nil l (s10c1 Ψ x0 x1 x2 h)) (.reg [⟨none, [(0, false), (1, false), (2, false), (3, false)]⟩, ⟨some (9, false), [(4, false), (5, false), (6, false)]⟩, ⟨none, [(7, false)]⟩])
  (.cond (.seq (rA 2)
  (.leaf))
  (.leaf)))
  (.seq (rA 8)
  (.leaf)))

theorem s10_ok {Ψ : AVal → Heap → Prop} {a : Int} {b : Int} {h : Heap} (H : s10 Ψ a b h) : ACalls prog 10 [(.int .i64 a), (.int .i64 b)] h Ψ :=
  calls_of_evF func10 (by kernel_rfl) (by kernel_rfl) (by kernel_rfl)
    (Eq.mpr (by as_aux_lemma => kernel_rfl : oblF prog f10 (s10_A Ψ) Ψ = (True ∧ ((True) ∧ (∀ (h : Heap) (x0 x1 : Int) (x2 : Bool), OI (s10c1 Ψ x0 x1 x2 h)) ∧ ((True ∧ True) ∧ True)) ∧ True ∧ True)) ⟨trivial, ⟨⟨trivial, fun _ _ _ _ H => H, ⟨⟨trivial, trivial⟩, trivial⟩⟩, ⟨trivial, trivial⟩⟩⟩)
    (Eq.mpr (by as_aux_lemma => kernel_rfl : evF prog f10 (s10_A Ψ) Ψ [(.int .i64 a), (.int .i64 b)] h = s10 Ψ a b h) H)

/- 11 dictum/nishimura.Join -/
def s11 (Ψ : AVal → Heap → Prop) (a : Int) (b : Int) (h : Heap) : Prop :=
  callG prog 25 [(.int .i64 a), (.int .i64 b), (.func (.func 29) [] [])] h fun v h_ =>
  tTup v fun l_ =>
  tCons l_ fun v1 l_1 =>
  tInt .i64 v1 fun v2 =>
  tCons l_1 fun v3 l_2 =>
  tInt .i64 v3 fun v4 =>
  tNil l_2 (
    retG (.tuple [(.int .i64 v2), (.int .i64 v4)]) h_ Ψ)

def s11_A (Ψ : AVal → Heap → Prop) : Ann :=
  .seq (rA 2)
  (.seq (rA 7)
  (.leaf))

theorem s11_ok {Ψ : AVal → Heap → Prop} {a : Int} {b : Int} {h : Heap} (H : s11 Ψ a b h) : ACalls prog 11 [(.int .i64 a), (.int .i64 b)] h Ψ :=
  calls_of_evF func11 (by kernel_rfl) (by kernel_rfl) (by kernel_rfl)
    (Eq.mpr (by as_aux_lemma => kernel_rfl : oblF prog f11 (s11_A Ψ) Ψ = (True ∧ True ∧ True)) ⟨trivial, ⟨trivial, trivial⟩⟩)
    (Eq.mpr (by as_aux_lemma => kernel_rfl : evF prog f11 (s11_A Ψ) Ψ [(.int .i64 a), (.int .i64 b)] h = s11 Ψ a b h) H)

/- 12 dictum/dictumref26.Join -/
def s12c1 (Ψ : AVal → Heap → Prop) (a1 b1 : Int) (t13 : Bool) (h : Heap) : Prop :=
  ifT t13 (
    retG (.tuple [(.int .i64 0), (.int .i64 2)]) h Ψ) (
    callG prog 30 [(.int .i64 a1), (.int .i64 b1)] h fun v h_ =>
    tInt .i64 v fun v1 =>
    callG prog 27 [(.int .i64 v1)] h_ fun v2 h_1 =>
    tTup v2 fun l_ =>
    tCons l_ fun v3 l_1 =>
    tInt .i64 v3 fun v4 =>
    tCons l_1 fun v5 l_2 =>
    tInt .i64 v5 fun v6 =>
    tNil l_2 (
      retG (.tuple [(.int .i64 v4), (.int .i64 v6)]) h_1 Ψ))

def s12 (Ψ : AVal → Heap → Prop) (a : Int) (b : Int) (h : Heap) : Prop :=
  callG prog 23 [(.int .i64 a)] h fun v7 h_2 =>
  tBool v7 fun v8 =>
  ifT (!v8) (
    s12c1 Ψ a b true h_2) (
    callG prog 23 [(.int .i64 b)] h_2 fun v9 h_3 =>
    tBool v9 fun v10 =>
    s12c1 Ψ a b (!v10) h_3)

def s12_A (Ψ : AVal → Heap → Prop) : Ann :=
  .seq (rA 2)
  (.seq (.cut [(0, .int .i64), (1, .int .i64), (13, .bool)] (fun l h => J.cons l fun v l => J.int .i64 v fun x0 => J.cons l fun v l => J.int .i64 v fun x1 => J.cons l fun v l => J.bool v fun x2 => J.nil l (s12c1 Ψ x0 x1 x2 h)) (.reg [⟨none, [(0, false), (1, false), (2, false), (3, false)]⟩, ⟨some (9, false), [(4, false), (5, false), (6, false)]⟩, ⟨none, [(7, false)]⟩])
  (.cond (.seq (rA 2)
  (.leaf))
  (.leaf)))
  (.seq (rA 8)
  (.leaf)))

theorem s12_ok {Ψ : AVal → Heap → Prop} {a : Int} {b : Int} {h : Heap} (H : s12 Ψ a b h) : ACalls prog 12 [(.int .i64 a), (.int .i64 b)] h Ψ :=
  calls_of_evF func12 (by kernel_rfl) (by kernel_rfl) (by kernel_rfl)
    (Eq.mpr (by as_aux_lemma => kernel_rfl : oblF prog f12 (s12_A Ψ) Ψ = (True ∧ ((True) ∧ (∀ (h : Heap) (x0 x1 : Int) (x2 : Bool), OI (s12c1 Ψ x0 x1 x2 h)) ∧ ((True ∧ True) ∧ True)) ∧ True ∧ True)) ⟨trivial, ⟨⟨trivial, fun _ _ _ _ H => H, ⟨⟨trivial, trivial⟩, trivial⟩⟩, ⟨trivial, trivial⟩⟩⟩)
    (Eq.mpr (by as_aux_lemma => kernel_rfl : evF prog f12 (s12_A Ψ) Ψ [(.int .i64 a), (.int .i64 b)] h = s12 Ψ a b h) H)

/- 13 dictum/nishimura.Imp -/
def s13 (Ψ : AVal → Heap → Prop) (a : Int) (b : Int) (h : Heap) : Prop :=
  callG prog 25 [(.int .i64 a), (.int .i64 b), (.func (.func 31) [] [])] h fun v h_ =>
  tTup v fun l_ =>
  tCons l_ fun v1 l_1 =>
  tInt .i64 v1 fun v2 =>
  tCons l_1 fun v3 l_2 =>
  tInt .i64 v3 fun v4 =>
  tNil l_2 (
    retG (.tuple [(.int .i64 v2), (.int .i64 v4)]) h_ Ψ)

def s13_A (Ψ : AVal → Heap → Prop) : Ann :=
  .seq (rA 2)
  (.seq (rA 7)
  (.leaf))

theorem s13_ok {Ψ : AVal → Heap → Prop} {a : Int} {b : Int} {h : Heap} (H : s13 Ψ a b h) : ACalls prog 13 [(.int .i64 a), (.int .i64 b)] h Ψ :=
  calls_of_evF func13 (by kernel_rfl) (by kernel_rfl) (by kernel_rfl)
    (Eq.mpr (by as_aux_lemma => kernel_rfl : oblF prog f13 (s13_A Ψ) Ψ = (True ∧ True ∧ True)) ⟨trivial, ⟨trivial, trivial⟩⟩)
    (Eq.mpr (by as_aux_lemma => kernel_rfl : evF prog f13 (s13_A Ψ) Ψ [(.int .i64 a), (.int .i64 b)] h = s13 Ψ a b h) H)

/- 14 dictum/dictumref26.Imp -/
def s14c1 (Ψ : AVal → Heap → Prop) (a1 b1 : Int) (t13 : Bool) (h : Heap) : Prop :=
  ifT t13 (
    retG (.tuple [(.int .i64 0), (.int .i64 2)]) h Ψ) (
    callG prog 32 [(.int .i64 a1), (.int .i64 b1)] h fun v h_ =>
    tInt .i64 v fun v1 =>
    callG prog 27 [(.int .i64 v1)] h_ fun v2 h_1 =>
    tTup v2 fun l_ =>
    tCons l_ fun v3 l_1 =>
    tInt .i64 v3 fun v4 =>
    tCons l_1 fun v5 l_2 =>
    tInt .i64 v5 fun v6 =>
    tNil l_2 (
      retG (.tuple [(.int .i64 v4), (.int .i64 v6)]) h_1 Ψ))

def s14 (Ψ : AVal → Heap → Prop) (a : Int) (b : Int) (h : Heap) : Prop :=
  callG prog 23 [(.int .i64 a)] h fun v7 h_2 =>
  tBool v7 fun v8 =>
  ifT (!v8) (
    s14c1 Ψ a b true h_2) (
    callG prog 23 [(.int .i64 b)] h_2 fun v9 h_3 =>
    tBool v9 fun v10 =>
    s14c1 Ψ a b (!v10) h_3)

def s14_A (Ψ : AVal → Heap → Prop) : Ann :=
  .seq (rA 2)
  (.seq (.cut [(0, .int .i64), (1, .int .i64), (13, .bool)] (fun l h => J.cons l fun v l => J.int .i64 v fun x0 => J.cons l fun v l => J.int .i64 v fun x1 => J.cons l fun v l => J.bool v fun x2 => J.nil l (s14c1 Ψ x0 x1 x2 h)) (.reg [⟨none, [(0, false), (1, false), (2, false), (3, false)]⟩, ⟨some (9, false), [(4, false), (5, false), (6, false)]⟩, ⟨none, [(7, false)]⟩])
  (.cond (.seq (rA 2)
  (.leaf))
  (.leaf)))
  (.seq (rA 8)
  (.leaf)))

theorem s14_ok {Ψ : AVal → Heap → Prop} {a : Int} {b : Int} {h : Heap} (H : s14 Ψ a b h) : ACalls prog 14 [(.int .i64 a), (.int .i64 b)] h Ψ :=
  calls_of_evF func14 (by kernel_rfl) (by kernel_rfl) (by kernel_rfl)
    (Eq.mpr (by as_aux_lemma => kernel_rfl : oblF prog f14 (s14_A Ψ) Ψ = (True ∧ ((True) ∧ (∀ (h : Heap) (x0 x1 : Int) (x2 : Bool), OI (s14c1 Ψ x0 x1 x2 h)) ∧ ((True ∧ True) ∧ True)) ∧ True ∧ True)) ⟨trivial, ⟨⟨trivial, fun _ _ _ _ H => H, ⟨⟨trivial, trivial⟩, trivial⟩⟩, ⟨trivial, trivial⟩⟩⟩)
    (Eq.mpr (by as_aux_lemma => kernel_rfl : evF prog f14 (s14_A Ψ) Ψ [(.int .i64 a), (.int .i64 b)] h = s14 Ψ a b h) H)

/- 15 dictum/dictumlaw26.num -/
def s15 (Ψ : AVal → Heap → Prop) (e : Int) (h : Heap) : Prop :=
  retG (.int .i64 e) h Ψ

def s15_A (Ψ : AVal → Heap → Prop) : Ann :=
  .seq (rA 1)
  (.seq (rA 2)
  (.leaf))

theorem s15_ok {Ψ : AVal → Heap → Prop} {e : Int} {h : Heap} (H : s15 Ψ e h) : ACalls prog 15 [(.int .i64 e)] h Ψ :=
  calls_of_evF func15 (by kernel_rfl) (by kernel_rfl) (by kernel_rfl)
    (Eq.mpr (by as_aux_lemma => kernel_rfl : oblF prog f15 (s15_A Ψ) Ψ = (True ∧ True ∧ True)) ⟨trivial, ⟨trivial, trivial⟩⟩)
    (Eq.mpr (by as_aux_lemma => kernel_rfl : evF prog f15 (s15_A Ψ) Ψ [(.int .i64 e)] h = s15 Ψ e h) H)

/- 20 dictum/dictumlaw26.nobody -/
def s20 (Ψ : AVal → Heap → Prop) (t : AVal) (id_ : Int) (k : Int) (h : Heap) : Prop :=
  callG prog 34 [t, (.str (ByteArray.mk #[112])), (.int .i64 k)] h fun v h_ =>
  tTup v fun l_ =>
  tCons l_ fun v1 l_1 =>
  tInt .i64 v1 fun v2 =>
  tCons l_1 fun v3 l_2 =>
  tInt .i64 v3 fun v4 =>
  tNil l_2 (
    callG prog 35 [t, (.int .i64 id_)] h_ fun v5 h_1 =>
    tTup v5 fun l_3 =>
    tCons l_3 fun v6 l_4 =>
    tInt .i64 v6 fun v7 =>
    tCons l_4 fun v8 l_5 =>
    tInt .i64 v8 fun v9 =>
    tNil l_5 (
      callG prog 41 [t, (.int .i64 id_), (.int .i64 id_)] h_1 fun v10 h_2 =>
      tTup v10 fun l_6 =>
      tCons l_6 fun v11 l_7 =>
      tBool v11 fun v12 =>
      tCons l_7 fun v13 l_8 =>
      tInt .i64 v13 fun v14 =>
      tNil l_8 (
        ifT (v2 == 0) (
          ifT (v4 == 1) (
            ifT (v7 == 0) (
              ifT (v9 == 1) (
                ifT (!v12) (
                  retG (.bool (v14 == 1)) h_2 Ψ) (
                  retG (.bool false) h_2 Ψ)) (
                retG (.bool false) h_2 Ψ)) (
              retG (.bool false) h_2 Ψ)) (
            retG (.bool false) h_2 Ψ)) (
          retG (.bool false) h_2 Ψ))))

def s20_A (Ψ : AVal → Heap → Prop) : Ann :=
  .seq (rA 1)
  (.seq (rA 8)
  (.seq (rA 8)
  (.seq (rA 9)
  (.seq (rA 1)
  (.seq (.reg [⟨none, [(0, false), (1, false), (2, false)]⟩, ⟨some (35, true), [(3, false), (4, false), (5, false)]⟩, ⟨none, [(6, false), (7, false)]⟩, ⟨some (40, true), [(8, false), (9, false)]⟩, ⟨none, [(10, false), (11, false)]⟩, ⟨some (44, true), [(12, false), (13, false), (14, false)]⟩, ⟨none, [(15, false), (16, false)]⟩, ⟨some (49, true), [(17, false), (18, false)]⟩, ⟨none, [(19, false), (20, false)]⟩, ⟨some (53, true), [(21, false), (22, false), (23, false)]⟩, ⟨none, [(24, false), (25, false)]⟩])
  (.leaf))))))

theorem s20_ok {Ψ : AVal → Heap → Prop} {t : AVal} {id_ : Int} {k : Int} {h : Heap} (H : s20 Ψ t id_ k h) : ACalls prog 20 [t, (.int .i64 id_), (.int .i64 k)] h Ψ :=
  calls_of_evF func20 (by kernel_rfl) (by kernel_rfl) (by kernel_rfl)
    (Eq.mpr (by as_aux_lemma => kernel_rfl : oblF prog f20 (s20_A Ψ) Ψ = (True ∧ True ∧ True ∧ True ∧ True ∧ True ∧ True)) ⟨trivial, ⟨trivial, ⟨trivial, ⟨trivial, ⟨trivial, ⟨trivial, trivial⟩⟩⟩⟩⟩⟩)
    (Eq.mpr (by as_aux_lemma => kernel_rfl : evF prog f20 (s20_A Ψ) Ψ [t, (.int .i64 id_), (.int .i64 k)] h = s20 Ψ t id_ k h) H)

/- 21 dictum/nishimura.of -/
def s21c1 (Ψ : AVal → Heap → Prop) (k1 : Int) (t2 : AVal) (t8 : Bool) (h : Heap) : Prop :=
  ifT t8 (
    st false h t2 [(.bool false), (.int .i64 0), (.bool false)] fun h_2 =>
    ldN 3 h_2 t2 fun l_4 =>
    tCons l_4 fun v6 l_5 =>
    tBool v6 fun v7 =>
    tCons l_5 fun v8 l_6 =>
    tInt .i64 v8 fun v9 =>
    tCons l_6 fun v10 l_7 =>
    tBool v10 fun v11 =>
    tNil l_7 (
      retG (.tuple [(.agg [(.bool v7), (.int .i64 v9), (.bool v11)]), (.bool false)]) h_2 Ψ)) (
    ifT (k1 == 0) (
      st false h t2 [(.bool false), (.int .i64 0), (.bool false)] fun h_3 =>
      ldN 3 h_3 t2 fun l_8 =>
      tCons l_8 fun v12 l_9 =>
      tBool v12 fun v13 =>
      tCons l_9 fun v14 l_10 =>
      tInt .i64 v14 fun v15 =>
      tCons l_10 fun v16 l_11 =>
      tBool v16 fun v17 =>
      tNil l_11 (
        retG (.tuple [(.agg [(.bool v13), (.int .i64 v15), (.bool v17)]), (.bool true)]) h_3 Ψ)) (
      2 ≠ (0 : Int) ∧
      ifT ((Int.tmod k1 2) == 1) (
        rg (k1 + 1) (
          2 ≠ (0 : Int) ∧
          rg (Int.tdiv (k1 + 1) 2) (
            st false h t2 [(.bool false), (.int .i64 (Int.tdiv (k1 + 1) 2)), (.bool false)] fun h_4 =>
            ldN 3 h_4 t2 fun l_12 =>
            tCons l_12 fun v18 l_13 =>
            tBool v18 fun v19 =>
            tCons l_13 fun v20 l_14 =>
            tInt .i64 v20 fun v21 =>
            tCons l_14 fun v22 l_15 =>
            tBool v22 fun v23 =>
            tNil l_15 (
              retG (.tuple [(.agg [(.bool v19), (.int .i64 v21), (.bool v23)]), (.bool true)]) h_4 Ψ)))) (
        2 ≠ (0 : Int) ∧
        rg (Int.tdiv k1 2) (
          rg ((Int.tdiv k1 2) - 1) (
            st false h t2 [(.bool false), (.int .i64 ((Int.tdiv k1 2) - 1)), (.bool true)] fun h_5 =>
            ldN 3 h_5 t2 fun l_16 =>
            tCons l_16 fun v24 l_17 =>
            tBool v24 fun v25 =>
            tCons l_17 fun v26 l_18 =>
            tInt .i64 v26 fun v27 =>
            tCons l_18 fun v28 l_19 =>
            tBool v28 fun v29 =>
            tNil l_19 (
              retG (.tuple [(.agg [(.bool v25), (.int .i64 v27), (.bool v29)]), (.bool true)]) h_5 Ψ))))))

def s21 (Ψ : AVal → Heap → Prop) (k : Int) (h : Heap) : Prop :=
  Sym.newRow 3 [(.agg [(.bool false), (.int .i64 0), (.bool false)])] h fun r h_ =>
  ifT (k == (-1)) (
    st false h_ (.ptr r 0 0) [(.bool true), (.int .i64 0), (.bool false)] fun h_1 =>
    ldN 3 h_1 (.ptr r 0 0) fun l_ =>
    tCons l_ fun v l_1 =>
    tBool v fun v1 =>
    tCons l_1 fun v2 l_2 =>
    tInt .i64 v2 fun v3 =>
    tCons l_2 fun v4 l_3 =>
    tBool v4 fun v5 =>
    tNil l_3 (
      retG (.tuple [(.agg [(.bool v1), (.int .i64 v3), (.bool v5)]), (.bool true)]) h_1 Ψ)) (
    ifT (decide (k < 0)) (
      s21c1 Ψ k (.ptr r 0 0) true h_) (
      s21c1 Ψ k (.ptr r 0 0) (decide (4096 < k)) h_))

def s21_A (Ψ : AVal → Heap → Prop) : Ann :=
  .seq (rA 2)
  (.seq (.block (.seq (rA 3)
  (.cond (.seq (rA 3)
  (.leaf))
  (.cut [(0, .int .i64), (2, .any), (8, .bool)] (fun l h => J.cons l fun v l => J.int .i64 v fun x0 => J.cons l fun x1 l => J.cons l fun v l => J.bool v fun x2 => J.nil l (s21c1 Ψ x0 x1 x2 h)) (.reg [⟨none, [(0, false), (1, false), (2, false)]⟩, ⟨some (11, false), [(3, false), (4, false)]⟩, ⟨none, [(5, false), (6, false)]⟩])
  (.cond (.seq (rA 3)
  (.leaf))
  (.seq (rA 3)
  (.cond (.seq (rA 3)
  (.leaf))
  (.seq (rA 4)
  (.cond (.seq (rA 6)
  (.leaf))
  (.leaf))))))))))
  (.seq (rA 6)
  (.leaf)))

theorem s21_ok {Ψ : AVal → Heap → Prop} {k : Int} {h : Heap} (H : s21 Ψ k h) : ACalls prog 21 [(.int .i64 k)] h Ψ :=
  calls_of_evF func21 (by kernel_rfl) (by kernel_rfl) (by kernel_rfl)
    (Eq.mpr (by as_aux_lemma => kernel_rfl : oblF prog f21 (s21_A Ψ) Ψ = (True ∧ (True ∧ (True ∧ True) ∧ (True) ∧ (∀ (h : Heap) (x0 : Int) (x1 : AVal) (x2 : Bool), OI (s21c1 Ψ x0 x1 x2 h)) ∧ ((True ∧ True) ∧ True ∧ (True ∧ True) ∧ True ∧ (True ∧ True) ∧ True)) ∧ True ∧ True)) ⟨trivial, ⟨⟨trivial, ⟨⟨trivial, trivial⟩, ⟨trivial, fun _ _ _ _ H => H, ⟨⟨trivial, trivial⟩, ⟨trivial, ⟨⟨trivial, trivial⟩, ⟨trivial, ⟨⟨trivial, trivial⟩, trivial⟩⟩⟩⟩⟩⟩⟩⟩, ⟨trivial, trivial⟩⟩⟩)
    (Eq.mpr (by as_aux_lemma => kernel_rfl : evF prog f21 (s21_A Ψ) Ψ [(.int .i64 k)] h = s21 Ψ k h) H)

/- 22 dictum/nishimura.below -/
def s22 (Ψ : AVal → Heap → Prop) (a_all : Bool) (a_low : Int) (a_gap : Bool) (b_all : Bool) (b_low : Int) (b_gap : Bool) (h : Heap) : Prop :=
  callG prog 31 [(.agg [(.bool a_all), (.int .i64 a_low), (.bool a_gap)]), (.agg [(.bool b_all), (.int .i64 b_low), (.bool b_gap)])] h fun v h_ =>
  tAgg v fun l_ =>
  tCons l_ fun v1 l_1 =>
  tBool v1 fun v2 =>
  tCons l_1 fun v3 l_2 =>
  tInt .i64 v3 fun v4 =>
  tCons l_2 fun v5 l_3 =>
  tBool v5 fun v6 =>
  tNil l_3 (
    retG (.bool v2) h_ Ψ)

def s22_A (Ψ : AVal → Heap → Prop) : Ann :=
  .seq (.reg [⟨none, [(0, true), (1, true), (2, false)]⟩])
  (.seq (rA 5)
  (.leaf))

theorem s22_ok {Ψ : AVal → Heap → Prop} {a_all : Bool} {a_low : Int} {a_gap : Bool} {b_all : Bool} {b_low : Int} {b_gap : Bool} {h : Heap} (H : s22 Ψ a_all a_low a_gap b_all b_low b_gap h) : ACalls prog 22 [(.agg [(.bool a_all), (.int .i64 a_low), (.bool a_gap)]), (.agg [(.bool b_all), (.int .i64 b_low), (.bool b_gap)])] h Ψ :=
  calls_of_evF func22 (by kernel_rfl) (by kernel_rfl) (by kernel_rfl)
    (Eq.mpr (by as_aux_lemma => kernel_rfl : oblF prog f22 (s22_A Ψ) Ψ = (True ∧ True ∧ True)) ⟨trivial, ⟨trivial, trivial⟩⟩)
    (Eq.mpr (by as_aux_lemma => kernel_rfl : evF prog f22 (s22_A Ψ) Ψ [(.agg [(.bool a_all), (.int .i64 a_low), (.bool a_gap)]), (.agg [(.bool b_all), (.int .i64 b_low), (.bool b_gap)])] h = s22 Ψ a_all a_low a_gap b_all b_low b_gap h) H)

/- 23 dictum/dictumref26.is -/
def s23 (Ψ : AVal → Heap → Prop) (k : Int) (h : Heap) : Prop :=
  ifT (decide ((-1) ≤ k)) (
    retG (.bool (decide (k ≤ 4096))) h Ψ) (
    retG (.bool false) h Ψ)

def s23_A (Ψ : AVal → Heap → Prop) : Ann :=
  .seq (rA 1)
  (.seq (.reg [⟨none, [(0, false), (1, false), (2, false)]⟩, ⟨some (5, true), [(3, false), (4, false)]⟩, ⟨none, [(5, false), (6, false)]⟩])
  (.leaf))

theorem s23_ok {Ψ : AVal → Heap → Prop} {k : Int} {h : Heap} (H : s23 Ψ k h) : ACalls prog 23 [(.int .i64 k)] h Ψ :=
  calls_of_evF func23 (by kernel_rfl) (by kernel_rfl) (by kernel_rfl)
    (Eq.mpr (by as_aux_lemma => kernel_rfl : oblF prog f23 (s23_A Ψ) Ψ = (True ∧ True ∧ True)) ⟨trivial, ⟨trivial, trivial⟩⟩)
    (Eq.mpr (by as_aux_lemma => kernel_rfl : evF prog f23 (s23_A Ψ) Ψ [(.int .i64 k)] h = s23 Ψ k h) H)

/- 24 dictum/dictumref26.below -/
abbrev s24l1_T := Int → Int → Int → Heap → Prop
def s24l1_R (F : s24l1_T) (l : List AVal) (h : Heap) : Prop := J.cons l fun v l => J.int .i64 v fun x0 => J.cons l fun v l => J.int .i64 v fun x1 => J.cons l fun v l => J.int .i64 v fun x2 => J.nil l (F x0 x1 x2 h)
def s24l1_G (F : s24l1_T) (x0 x1 x2 : Int) (h : Heap) : Prop := gJ [.int .i64, .int .i64, .int .i64] [(.int .i64 x0), (.int .i64 x1), (.int .i64 x2)] h (s24l1_R F)
def s24l1_E (F : Nat → s24l1_T) (x0 x1 x2 : Int) (h : Heap) : Prop := gJ [.int .i64, .int .i64, .int .i64] [(.int .i64 x0), (.int .i64 x1), (.int .i64 x2)] h (fun l h => ∃ n, s24l1_R (F n) l h)
theorem s24l1_go {F : s24l1_T} {x0 x1 x2 : Int} {h : Heap} (H : F x0 x1 x2 h) : s24l1_G F x0 x1 x2 h := gJ_plain rfl H
theorem s24l1_in {F : Nat → s24l1_T} {x0 x1 x2 : Int} {h : Heap} (n : Nat) (H : F n x0 x1 x2 h) : s24l1_E F x0 x1 x2 h := gJ_plain rfl ⟨n, H⟩

def s24c2 (Ψ : AVal → Heap → Prop) (L1 : s24l1_T) (a2 b2 w1 : Int) (t21 : Bool) (h : Heap) : Prop :=
  ifT t21 (
    retG (.bool false) h Ψ) (
    rg (w1 + 1) (
      L1 a2 b2 (w1 + 1) h))

def s24l1 (Ψ : AVal → Heap → Prop) : Nat → s24l1_T
  | 0, _, _, _, _ => False
  | n + 1, a1, b1, w, h =>
    callG prog 42 [(.int .i64 a1), (.int .i64 b1)] h fun v h_ =>
    tInt .i64 v fun v1 =>
    ifT (decide (w < v1)) (
      callG prog 43 [(.int .i64 a1), (.int .i64 w)] h_ fun v2 h_1 =>
      tBool v2 fun v3 =>
      ifT v3 (
        callG prog 43 [(.int .i64 b1), (.int .i64 w)] h_1 fun v4 h_2 =>
        tBool v4 fun v5 =>
        s24c2 Ψ (s24l1_G (s24l1 Ψ n)) a1 b1 w (!v5) h_2) (
        s24c2 Ψ (s24l1_G (s24l1 Ψ n)) a1 b1 w false h_1)) (
      retG (.bool true) h_ Ψ)

def s24 (Ψ : AVal → Heap → Prop) (a : Int) (b : Int) (h : Heap) : Prop :=
  s24l1_E (s24l1 Ψ) a b 0 h

def s24_A (Ψ : AVal → Heap → Prop) : Ann :=
  .seq (rA 1)
  (.seq (.seq (rA 1)
  (.block (.loop [(0, .int .i64), (1, .int .i64), (5, .int .i64)] (fun n l h => s24l1_R (s24l1 Ψ n) l h) (fun L1 =>
  .seq (.seq (rA 5)
  (.cond (.leaf)
  (.leaf)))
  (.seq (.block (.cut [(0, .int .i64), (1, .int .i64), (5, .int .i64), (21, .bool)] (fun l h => J.cons l fun v l => J.int .i64 v fun x0 => J.cons l fun v l => J.int .i64 v fun x1 => J.cons l fun v l => J.int .i64 v fun x2 => J.cons l fun v l => J.bool v fun x3 => J.nil l (s24c2 Ψ (fun y0 y1 y2 h => L1 [(.int .i64 y0), (.int .i64 y1), (.int .i64 y2)] h) x0 x1 x2 x3 h)) (.reg [⟨none, [(0, false), (1, false), (2, false), (3, false)]⟩, ⟨some (16, true), [(4, false), (5, false), (6, false), (7, false)]⟩, ⟨none, [(8, false)]⟩])
  (.cond (.seq (rA 1)
  (.leaf))
  (.leaf))))
  (rA 3))))))
  (.seq (rA 1)
  (.leaf)))

theorem s24_ok {Ψ : AVal → Heap → Prop} {a : Int} {b : Int} {h : Heap} (H : s24 Ψ a b h) : ACalls prog 24 [(.int .i64 a), (.int .i64 b)] h Ψ :=
  calls_of_evF func24 (by kernel_rfl) (by kernel_rfl) (by kernel_rfl)
    (Eq.mpr (by as_aux_lemma => kernel_rfl : oblF prog f24 (s24_A Ψ) Ψ = (True ∧ (True ∧ (∀ (h : Heap) (x0 x1 x2 : Int), ON (s24l1 Ψ 0 x0 x1 x2 h)) ∧ ∀ n1 : Nat, (∀ (h : Heap) (x0 x1 x2 : Int), OI (s24l1 Ψ (n1 + 1) x0 x1 x2 h)) ∧ ((True ∧ True ∧ True) ∧ ((True) ∧ (∀ (h : Heap) (x0 x1 x2 : Int) (x3 : Bool), OI (s24c2 Ψ (s24l1_G (s24l1 Ψ n1)) x0 x1 x2 x3 h)) ∧ ((True ∧ True) ∧ True)) ∧ True)) ∧ True ∧ True)) ⟨trivial, ⟨⟨trivial, ⟨fun _ _ _ _ H => H, fun _ => ⟨fun _ _ _ _ H => H, ⟨⟨trivial, ⟨trivial, trivial⟩⟩, ⟨⟨trivial, fun _ _ _ _ _ H => H, ⟨⟨trivial, trivial⟩, trivial⟩⟩, trivial⟩⟩⟩⟩⟩, ⟨trivial, trivial⟩⟩⟩)
    (Eq.mpr (by as_aux_lemma => kernel_rfl : evF prog f24 (s24_A Ψ) Ψ [(.int .i64 a), (.int .i64 b)] h = s24 Ψ a b h) H)

/- 25 dictum/nishimura.two -/
def s25c1 (Ψ : AVal → Heap → Prop) (how1 x y : AVal) (t28 : Bool) (h : Heap) : Prop :=
  ifT t28 (
    retG (.tuple [(.int .i64 0), (.int .i64 2)]) h Ψ) (
    ldN 3 h x fun l_14 =>
    tCons l_14 fun v20 l_15 =>
    tBool v20 fun v21 =>
    tCons l_15 fun v22 l_16 =>
    tInt .i64 v22 fun v23 =>
    tCons l_16 fun v24 l_17 =>
    tBool v24 fun v25 =>
    tNil l_17 (
      ldN 3 h y fun l_18 =>
      tCons l_18 fun v26 l_19 =>
      tBool v26 fun v27 =>
      tCons l_19 fun v28 l_20 =>
      tInt .i64 v28 fun v29 =>
      tCons l_20 fun v30 l_21 =>
      tBool v30 fun v31 =>
      tNil l_21 (
        callV prog how1 [(.agg [(.bool v21), (.int .i64 v23), (.bool v25)]), (.agg [(.bool v27), (.int .i64 v29), (.bool v31)])] h fun v32 h_6 =>
        tAgg v32 fun l_22 =>
        tCons l_22 fun v33 l_23 =>
        tBool v33 fun v34 =>
        tCons l_23 fun v35 l_24 =>
        tInt .i64 v35 fun v36 =>
        tCons l_24 fun v37 l_25 =>
        tBool v37 fun v38 =>
        tNil l_25 (
          callG prog 44 [(.agg [(.bool v34), (.int .i64 v36), (.bool v38)])] h_6 fun v39 h_7 =>
          tInt .i64 v39 fun v40 =>
          ifT (decide (4096 < v40)) (
            retG (.tuple [(.int .i64 0), (.int .i64 2)]) h_7 Ψ) (
            retG (.tuple [(.int .i64 v40), (.int .i64 0)]) h_7 Ψ)))))

def s25 (Ψ : AVal → Heap → Prop) (a : Int) (b : Int) (how : AVal) (h : Heap) : Prop :=
  callG prog 21 [(.int .i64 a)] h fun v h_ =>
  tTup v fun l_ =>
  tCons l_ fun v1 l_1 =>
  tCons l_1 fun v2 l_2 =>
  tBool v2 fun v3 =>
  tNil l_2 (
    tAgg v1 fun l_3 =>
    tCons l_3 fun v4 l_4 =>
    tBool v4 fun v5 =>
    tCons l_4 fun v6 l_5 =>
    tInt .i64 v6 fun v7 =>
    tCons l_5 fun v8 l_6 =>
    tBool v8 fun v9 =>
    tNil l_6 (
      Sym.newRow 3 [(.agg [(.bool false), (.int .i64 0), (.bool false)])] h_ fun r h_1 =>
      st false h_1 (.ptr r 0 0) [(.bool v5), (.int .i64 v7), (.bool v9)] fun h_2 =>
      callG prog 21 [(.int .i64 b)] h_2 fun v10 h_3 =>
      tTup v10 fun l_7 =>
      tCons l_7 fun v11 l_8 =>
      tCons l_8 fun v12 l_9 =>
      tBool v12 fun v13 =>
      tNil l_9 (
        tAgg v11 fun l_10 =>
        tCons l_10 fun v14 l_11 =>
        tBool v14 fun v15 =>
        tCons l_11 fun v16 l_12 =>
        tInt .i64 v16 fun v17 =>
        tCons l_12 fun v18 l_13 =>
        tBool v18 fun v19 =>
        tNil l_13 (
          Sym.newRow 3 [(.agg [(.bool false), (.int .i64 0), (.bool false)])] h_3 fun r1 h_4 =>
          st false h_4 (.ptr r1 0 0) [(.bool v15), (.int .i64 v17), (.bool v19)] fun h_5 =>
          ifT (!v3) (
            s25c1 Ψ how (.ptr r 0 0) (.ptr r1 0 0) true h_5) (
            s25c1 Ψ how (.ptr r 0 0) (.ptr r1 0 0) (!v13) h_5)))))

def s25_A (Ψ : AVal → Heap → Prop) : Ann :=
  .seq (rA 2)
  (.seq (rA 8)
  (.seq (rA 8)
  (.seq (.cut [(2, .any), (8, .any), (10, .any), (28, .bool)] (fun l h => J.cons l fun x0 l => J.cons l fun x1 l => J.cons l fun x2 l => J.cons l fun v l => J.bool v fun x3 => J.nil l (s25c1 Ψ x0 x1 x2 x3 h)) (.reg [⟨none, [(0, false), (1, false), (2, false)]⟩, ⟨some (25, false), [(3, false), (4, false)]⟩, ⟨none, [(5, false)]⟩])
  (.cond (.seq (rA 2)
  (.leaf))
  (.leaf)))
  (.seq (rA 6)
  (.seq (.seq (rA 2)
  (.cond (.seq (rA 2)
  (.leaf))
  (.leaf)))
  (.seq (rA 3)
  (.leaf)))))))

theorem s25_ok {Ψ : AVal → Heap → Prop} {a : Int} {b : Int} {how : AVal} {h : Heap} (H : s25 Ψ a b how h) : ACalls prog 25 [(.int .i64 a), (.int .i64 b), how] h Ψ :=
  calls_of_evF func25 (by kernel_rfl) (by kernel_rfl) (by kernel_rfl)
    (Eq.mpr (by as_aux_lemma => kernel_rfl : oblF prog f25 (s25_A Ψ) Ψ = (True ∧ True ∧ True ∧ ((True) ∧ (∀ (h : Heap) (x0 x1 x2 : AVal) (x3 : Bool), OI (s25c1 Ψ x0 x1 x2 x3 h)) ∧ ((True ∧ True) ∧ True)) ∧ True ∧ (True ∧ (True ∧ True) ∧ True) ∧ True ∧ True)) ⟨trivial, ⟨trivial, ⟨trivial, ⟨⟨trivial, fun _ _ _ _ _ H => H, ⟨⟨trivial, trivial⟩, trivial⟩⟩, ⟨trivial, ⟨⟨trivial, ⟨⟨trivial, trivial⟩, trivial⟩⟩, ⟨trivial, trivial⟩⟩⟩⟩⟩⟩⟩)
    (Eq.mpr (by as_aux_lemma => kernel_rfl : evF prog f25 (s25_A Ψ) Ψ [(.int .i64 a), (.int .i64 b), how] h = s25 Ψ a b how h) H)

/- 26 dictum/nishimura.meet -/
def s26 (Ψ : AVal → Heap → Prop) (a_all : Bool) (a_low : Int) (a_gap : Bool) (b_all : Bool) (b_low : Int) (b_gap : Bool) (h : Heap) : Prop :=
  Sym.newRow 3 [(.agg [(.bool false), (.int .i64 0), (.bool false)])] h fun r h_ =>
  callG prog 46 [(.agg [(.bool a_all), (.int .i64 a_low), (.bool a_gap)]), (.agg [(.bool b_all), (.int .i64 b_low), (.bool b_gap)])] h_ fun v h_1 =>
  tInt .i64 v fun v1 =>
  callG prog 45 [(.int .i64 v1), (.func (.func 47) [] [(.lptr [(.bool a_all), (.int .i64 a_low), (.bool a_gap)]), (.lptr [(.bool b_all), (.int .i64 b_low), (.bool b_gap)])])] h_1 fun v2 h_2 =>
  tAgg v2 fun l_ =>
  tCons l_ fun v3 l_1 =>
  tBool v3 fun v4 =>
  tCons l_1 fun v5 l_2 =>
  tInt .i64 v5 fun v6 =>
  tCons l_2 fun v7 l_3 =>
  tBool v7 fun v8 =>
  tNil l_3 (
    st false h_2 (.ptr r 0 0) [(.bool v4), (.int .i64 v6), (.bool v8)] fun h_3 =>
    ldN 3 h_3 (.ptr r 0 0) fun l_4 =>
    tCons l_4 fun v9 l_5 =>
    tBool v9 fun v10 =>
    tCons l_5 fun v11 l_6 =>
    tInt .i64 v11 fun v12 =>
    tCons l_6 fun v13 l_7 =>
    tBool v13 fun v14 =>
    tNil l_7 (
      retG (.agg [(.bool v10), (.int .i64 v12), (.bool v14)]) h_3 Ψ))

def s26_A (Ψ : AVal → Heap → Prop) : Ann :=
  .seq (.reg [⟨none, [(0, true), (1, true), (2, false)]⟩])
  (.seq (rA 6)
  (.leaf))

theorem s26_ok {Ψ : AVal → Heap → Prop} {a_all : Bool} {a_low : Int} {a_gap : Bool} {b_all : Bool} {b_low : Int} {b_gap : Bool} {h : Heap} (H : s26 Ψ a_all a_low a_gap b_all b_low b_gap h) : ACalls prog 26 [(.agg [(.bool a_all), (.int .i64 a_low), (.bool a_gap)]), (.agg [(.bool b_all), (.int .i64 b_low), (.bool b_gap)])] h Ψ :=
  calls_of_evF func26 (by kernel_rfl) (by kernel_rfl) (by kernel_rfl)
    (Eq.mpr (by as_aux_lemma => kernel_rfl : oblF prog f26 (s26_A Ψ) Ψ = (True ∧ True ∧ True)) ⟨trivial, ⟨trivial, trivial⟩⟩)
    (Eq.mpr (by as_aux_lemma => kernel_rfl : evF prog f26 (s26_A Ψ) Ψ [(.agg [(.bool a_all), (.int .i64 a_low), (.bool a_gap)]), (.agg [(.bool b_all), (.int .i64 b_low), (.bool b_gap)])] h = s26 Ψ a_all a_low a_gap b_all b_low b_gap h) H)

/- 27 dictum/dictumref26.told -/
def s27 (Ψ : AVal → Heap → Prop) (k : Int) (h : Heap) : Prop :=
  ifT (decide (4096 < k)) (
    retG (.tuple [(.int .i64 0), (.int .i64 2)]) h Ψ) (
    retG (.tuple [(.int .i64 k), (.int .i64 0)]) h Ψ)

def s27_A (Ψ : AVal → Heap → Prop) : Ann :=
  .seq (rA 2)
  (.seq (.seq (rA 2)
  (.cond (.seq (rA 2)
  (.leaf))
  (.leaf)))
  (.seq (rA 3)
  (.leaf)))

theorem s27_ok {Ψ : AVal → Heap → Prop} {k : Int} {h : Heap} (H : s27 Ψ k h) : ACalls prog 27 [(.int .i64 k)] h Ψ :=
  calls_of_evF func27 (by kernel_rfl) (by kernel_rfl) (by kernel_rfl)
    (Eq.mpr (by as_aux_lemma => kernel_rfl : oblF prog f27 (s27_A Ψ) Ψ = (True ∧ (True ∧ (True ∧ True) ∧ True) ∧ True ∧ True)) ⟨trivial, ⟨⟨trivial, ⟨⟨trivial, trivial⟩, trivial⟩⟩, ⟨trivial, trivial⟩⟩⟩)
    (Eq.mpr (by as_aux_lemma => kernel_rfl : evF prog f27 (s27_A Ψ) Ψ [(.int .i64 k)] h = s27 Ψ k h) H)

/- 28 dictum/dictumref26.meet -/
abbrev s28l1_T := Int → Int → AVal → Int → Heap → Prop
def s28l1_R (F : s28l1_T) (l : List AVal) (h : Heap) : Prop := J.cons l fun v l => J.int .i64 v fun x0 => J.cons l fun v l => J.int .i64 v fun x1 => J.cons l fun x2 l => J.cons l fun v l => J.int .i64 v fun x3 => J.nil l (F x0 x1 x2 x3 h)
def s28l1_G (F : s28l1_T) (x0 x1 : Int) (x2 : AVal) (x3 : Int) (h : Heap) : Prop := gJ [.int .i64, .int .i64, .any, .int .i64] [(.int .i64 x0), (.int .i64 x1), x2, (.int .i64 x3)] h (s28l1_R F)
def s28l1_E (F : Nat → s28l1_T) (x0 x1 : Int) (x2 : AVal) (x3 : Int) (h : Heap) : Prop := gJ [.int .i64, .int .i64, .any, .int .i64] [(.int .i64 x0), (.int .i64 x1), x2, (.int .i64 x3)] h (fun l h => ∃ n, s28l1_R (F n) l h)
theorem s28l1_go {F : s28l1_T} {x0 x1 : Int} {x2 : AVal} {x3 : Int} {h : Heap} (H : F x0 x1 x2 x3 h) : s28l1_G F x0 x1 x2 x3 h := gJ_plain rfl H
theorem s28l1_in {F : Nat → s28l1_T} {x0 x1 : Int} {x2 : AVal} {x3 : Int} {h : Heap} (n : Nat) (H : F n x0 x1 x2 x3 h) : s28l1_E F x0 x1 x2 x3 h := gJ_plain rfl ⟨n, H⟩

def s28c2 (Ψ : AVal → Heap → Prop) (L1 : s28l1_T) (a2 b2 : Int) (in_1 : AVal) (w1 : Int) (h : Heap) : Prop :=
  rg (w1 + 1) (
    L1 a2 b2 in_1 (w1 + 1) h)

def s28l1 (Ψ : AVal → Heap → Prop) : Nat → s28l1_T
  | 0, _, _, _, _, _ => False
  | n + 1, a1, b1, in_, w, h =>
    lenN in_ fun n1 =>
    ifT (decide (w < n1)) (
      callG prog 43 [(.int .i64 a1), (.int .i64 w)] h fun v3 h_2 =>
      tBool v3 fun v4 =>
      ifT v4 (
        callG prog 43 [(.int .i64 b1), (.int .i64 w)] h_2 fun v5 h_3 =>
        tBool v5 fun v6 =>
        ixS 1 in_ w fun p =>
        st true h_3 p [(.bool v6)] fun h_4 =>
        s28c2 Ψ (s28l1_G (s28l1 Ψ n)) a1 b1 in_ w h_4) (
        ixS 1 in_ w fun p1 =>
        st true h_2 p1 [(.bool false)] fun h_5 =>
        s28c2 Ψ (s28l1_G (s28l1 Ψ n)) a1 b1 in_ w h_5)) (
      callG prog 49 [in_] h fun v7 h_6 =>
      tTup v7 fun l_ =>
      tCons l_ fun v8 l_1 =>
      tInt .i64 v8 fun v9 =>
      tCons l_1 fun v10 l_2 =>
      tBool v10 fun v11 =>
      tNil l_2 (
        retG (.int .i64 v9) h_6 Ψ))

def s28 (Ψ : AVal → Heap → Prop) (a : Int) (b : Int) (h : Heap) : Prop :=
  callG prog 42 [(.int .i64 a), (.int .i64 b)] h fun v h_ =>
  tInt .i64 v fun v1 =>
  mkS false 1 1 (.bool false) h_ v1 v1 fun v2 h_1 =>
  s28l1_E (s28l1 Ψ) a b v2 0 h_1

def s28_A (Ψ : AVal → Heap → Prop) : Ann :=
  .seq (rA 1)
  (.seq (rA 5)
  (.seq (.seq (rA 1)
  (.block (.loop [(0, .int .i64), (1, .int .i64), (5, .any), (6, .int .i64)] (fun n l h => s28l1_R (s28l1 Ψ n) l h) (fun L1 =>
  .seq (.seq (rA 4)
  (.cond (.leaf)
  (.leaf)))
  (.cut [(0, .int .i64), (1, .int .i64), (5, .any), (6, .int .i64)] (fun l h => J.cons l fun v l => J.int .i64 v fun x0 => J.cons l fun v l => J.int .i64 v fun x1 => J.cons l fun x2 l => J.cons l fun v l => J.int .i64 v fun x3 => J.nil l (s28c2 Ψ (fun y0 y1 y2 y3 h => L1 [(.int .i64 y0), (.int .i64 y1), y2, (.int .i64 y3)] h) x0 x1 x2 x3 h)) (.block (.reg [⟨none, [(0, false), (1, false), (2, false), (3, false), (4, false), (5, false)]⟩, ⟨some (24, true), [(6, false), (7, false), (8, false)]⟩, ⟨none, [(9, false), (10, false), (11, false)]⟩]))
  (rA 3))))))
  (.seq (rA 7)
  (.seq (rA 2)
  (.leaf)))))

theorem s28_ok {Ψ : AVal → Heap → Prop} {a : Int} {b : Int} {h : Heap} (H : s28 Ψ a b h) : ACalls prog 28 [(.int .i64 a), (.int .i64 b)] h Ψ :=
  calls_of_evF func28 (by kernel_rfl) (by kernel_rfl) (by kernel_rfl)
    (Eq.mpr (by as_aux_lemma => kernel_rfl : oblF prog f28 (s28_A Ψ) Ψ = (True ∧ True ∧ (True ∧ (∀ (h : Heap) (x0 x1 : Int) (x2 : AVal) (x3 : Int), ON (s28l1 Ψ 0 x0 x1 x2 x3 h)) ∧ ∀ n1 : Nat, (∀ (h : Heap) (x0 x1 : Int) (x2 : AVal) (x3 : Int), OI (s28l1 Ψ (n1 + 1) x0 x1 x2 x3 h)) ∧ ((True ∧ True ∧ True) ∧ (True) ∧ (∀ (h : Heap) (x0 x1 : Int) (x2 : AVal) (x3 : Int), OI (s28c2 Ψ (s28l1_G (s28l1 Ψ n1)) x0 x1 x2 x3 h)) ∧ (True))) ∧ True ∧ True ∧ True)) ⟨trivial, ⟨trivial, ⟨⟨trivial, ⟨fun _ _ _ _ _ H => H, fun _ => ⟨fun _ _ _ _ _ H => H, ⟨⟨trivial, ⟨trivial, trivial⟩⟩, ⟨trivial, fun _ _ _ _ _ H => H, trivial⟩⟩⟩⟩⟩, ⟨trivial, ⟨trivial, trivial⟩⟩⟩⟩⟩)
    (Eq.mpr (by as_aux_lemma => kernel_rfl : evF prog f28 (s28_A Ψ) Ψ [(.int .i64 a), (.int .i64 b)] h = s28 Ψ a b h) H)

/- 29 dictum/nishimura.join -/
def s29 (Ψ : AVal → Heap → Prop) (a_all : Bool) (a_low : Int) (a_gap : Bool) (b_all : Bool) (b_low : Int) (b_gap : Bool) (h : Heap) : Prop :=
  Sym.newRow 3 [(.agg [(.bool false), (.int .i64 0), (.bool false)])] h fun r h_ =>
  callG prog 46 [(.agg [(.bool a_all), (.int .i64 a_low), (.bool a_gap)]), (.agg [(.bool b_all), (.int .i64 b_low), (.bool b_gap)])] h_ fun v h_1 =>
  tInt .i64 v fun v1 =>
  callG prog 45 [(.int .i64 v1), (.func (.func 50) [] [(.lptr [(.bool a_all), (.int .i64 a_low), (.bool a_gap)]), (.lptr [(.bool b_all), (.int .i64 b_low), (.bool b_gap)])])] h_1 fun v2 h_2 =>
  tAgg v2 fun l_ =>
  tCons l_ fun v3 l_1 =>
  tBool v3 fun v4 =>
  tCons l_1 fun v5 l_2 =>
  tInt .i64 v5 fun v6 =>
  tCons l_2 fun v7 l_3 =>
  tBool v7 fun v8 =>
  tNil l_3 (
    st false h_2 (.ptr r 0 0) [(.bool v4), (.int .i64 v6), (.bool v8)] fun h_3 =>
    ldN 3 h_3 (.ptr r 0 0) fun l_4 =>
    tCons l_4 fun v9 l_5 =>
    tBool v9 fun v10 =>
    tCons l_5 fun v11 l_6 =>
    tInt .i64 v11 fun v12 =>
    tCons l_6 fun v13 l_7 =>
    tBool v13 fun v14 =>
    tNil l_7 (
      retG (.agg [(.bool v10), (.int .i64 v12), (.bool v14)]) h_3 Ψ))

def s29_A (Ψ : AVal → Heap → Prop) : Ann :=
  .seq (.reg [⟨none, [(0, true), (1, true), (2, false)]⟩])
  (.seq (rA 6)
  (.leaf))

theorem s29_ok {Ψ : AVal → Heap → Prop} {a_all : Bool} {a_low : Int} {a_gap : Bool} {b_all : Bool} {b_low : Int} {b_gap : Bool} {h : Heap} (H : s29 Ψ a_all a_low a_gap b_all b_low b_gap h) : ACalls prog 29 [(.agg [(.bool a_all), (.int .i64 a_low), (.bool a_gap)]), (.agg [(.bool b_all), (.int .i64 b_low), (.bool b_gap)])] h Ψ :=
  calls_of_evF func29 (by kernel_rfl) (by kernel_rfl) (by kernel_rfl)
    (Eq.mpr (by as_aux_lemma => kernel_rfl : oblF prog f29 (s29_A Ψ) Ψ = (True ∧ True ∧ True)) ⟨trivial, ⟨trivial, trivial⟩⟩)
    (Eq.mpr (by as_aux_lemma => kernel_rfl : evF prog f29 (s29_A Ψ) Ψ [(.agg [(.bool a_all), (.int .i64 a_low), (.bool a_gap)]), (.agg [(.bool b_all), (.int .i64 b_low), (.bool b_gap)])] h = s29 Ψ a_all a_low a_gap b_all b_low b_gap h) H)

/- 30 dictum/dictumref26.join -/
abbrev s30l1_T := Int → Int → AVal → Int → Heap → Prop
def s30l1_R (F : s30l1_T) (l : List AVal) (h : Heap) : Prop := J.cons l fun v l => J.int .i64 v fun x0 => J.cons l fun v l => J.int .i64 v fun x1 => J.cons l fun x2 l => J.cons l fun v l => J.int .i64 v fun x3 => J.nil l (F x0 x1 x2 x3 h)
def s30l1_G (F : s30l1_T) (x0 x1 : Int) (x2 : AVal) (x3 : Int) (h : Heap) : Prop := gJ [.int .i64, .int .i64, .any, .int .i64] [(.int .i64 x0), (.int .i64 x1), x2, (.int .i64 x3)] h (s30l1_R F)
def s30l1_E (F : Nat → s30l1_T) (x0 x1 : Int) (x2 : AVal) (x3 : Int) (h : Heap) : Prop := gJ [.int .i64, .int .i64, .any, .int .i64] [(.int .i64 x0), (.int .i64 x1), x2, (.int .i64 x3)] h (fun l h => ∃ n, s30l1_R (F n) l h)
theorem s30l1_go {F : s30l1_T} {x0 x1 : Int} {x2 : AVal} {x3 : Int} {h : Heap} (H : F x0 x1 x2 x3 h) : s30l1_G F x0 x1 x2 x3 h := gJ_plain rfl H
theorem s30l1_in {F : Nat → s30l1_T} {x0 x1 : Int} {x2 : AVal} {x3 : Int} {h : Heap} (n : Nat) (H : F n x0 x1 x2 x3 h) : s30l1_E F x0 x1 x2 x3 h := gJ_plain rfl ⟨n, H⟩

def s30c2 (Ψ : AVal → Heap → Prop) (L1 : s30l1_T) (a2 b2 : Int) (in_1 : AVal) (w1 : Int) (h : Heap) : Prop :=
  rg (w1 + 1) (
    L1 a2 b2 in_1 (w1 + 1) h)

def s30l1 (Ψ : AVal → Heap → Prop) : Nat → s30l1_T
  | 0, _, _, _, _, _ => False
  | n + 1, a1, b1, in_, w, h =>
    lenN in_ fun n1 =>
    ifT (decide (w < n1)) (
      callG prog 43 [(.int .i64 a1), (.int .i64 w)] h fun v3 h_2 =>
      tBool v3 fun v4 =>
      ifT v4 (
        ixS 1 in_ w fun p1 =>
        st true h_2 p1 [(.bool true)] fun h_5 =>
        s30c2 Ψ (s30l1_G (s30l1 Ψ n)) a1 b1 in_ w h_5) (
        callG prog 43 [(.int .i64 b1), (.int .i64 w)] h_2 fun v5 h_3 =>
        tBool v5 fun v6 =>
        ixS 1 in_ w fun p =>
        st true h_3 p [(.bool v6)] fun h_4 =>
        s30c2 Ψ (s30l1_G (s30l1 Ψ n)) a1 b1 in_ w h_4)) (
      callG prog 49 [in_] h fun v7 h_6 =>
      tTup v7 fun l_ =>
      tCons l_ fun v8 l_1 =>
      tInt .i64 v8 fun v9 =>
      tCons l_1 fun v10 l_2 =>
      tBool v10 fun v11 =>
      tNil l_2 (
        retG (.int .i64 v9) h_6 Ψ))

def s30 (Ψ : AVal → Heap → Prop) (a : Int) (b : Int) (h : Heap) : Prop :=
  callG prog 42 [(.int .i64 a), (.int .i64 b)] h fun v h_ =>
  tInt .i64 v fun v1 =>
  mkS false 1 1 (.bool false) h_ v1 v1 fun v2 h_1 =>
  s30l1_E (s30l1 Ψ) a b v2 0 h_1

def s30_A (Ψ : AVal → Heap → Prop) : Ann :=
  .seq (rA 1)
  (.seq (rA 5)
  (.seq (.seq (rA 1)
  (.block (.loop [(0, .int .i64), (1, .int .i64), (5, .any), (6, .int .i64)] (fun n l h => s30l1_R (s30l1 Ψ n) l h) (fun L1 =>
  .seq (.seq (rA 4)
  (.cond (.leaf)
  (.leaf)))
  (.cut [(0, .int .i64), (1, .int .i64), (5, .any), (6, .int .i64)] (fun l h => J.cons l fun v l => J.int .i64 v fun x0 => J.cons l fun v l => J.int .i64 v fun x1 => J.cons l fun x2 l => J.cons l fun v l => J.int .i64 v fun x3 => J.nil l (s30c2 Ψ (fun y0 y1 y2 y3 h => L1 [(.int .i64 y0), (.int .i64 y1), y2, (.int .i64 y3)] h) x0 x1 x2 x3 h)) (.block (.reg [⟨none, [(0, false), (1, false), (2, false), (3, false), (4, false), (5, false)]⟩, ⟨some (24, false), [(6, false), (7, false), (8, false)]⟩, ⟨none, [(9, false), (10, false), (11, false)]⟩]))
  (rA 3))))))
  (.seq (rA 7)
  (.seq (rA 2)
  (.leaf)))))

theorem s30_ok {Ψ : AVal → Heap → Prop} {a : Int} {b : Int} {h : Heap} (H : s30 Ψ a b h) : ACalls prog 30 [(.int .i64 a), (.int .i64 b)] h Ψ :=
  calls_of_evF func30 (by kernel_rfl) (by kernel_rfl) (by kernel_rfl)
    (Eq.mpr (by as_aux_lemma => kernel_rfl : oblF prog f30 (s30_A Ψ) Ψ = (True ∧ True ∧ (True ∧ (∀ (h : Heap) (x0 x1 : Int) (x2 : AVal) (x3 : Int), ON (s30l1 Ψ 0 x0 x1 x2 x3 h)) ∧ ∀ n1 : Nat, (∀ (h : Heap) (x0 x1 : Int) (x2 : AVal) (x3 : Int), OI (s30l1 Ψ (n1 + 1) x0 x1 x2 x3 h)) ∧ ((True ∧ True ∧ True) ∧ (True) ∧ (∀ (h : Heap) (x0 x1 : Int) (x2 : AVal) (x3 : Int), OI (s30c2 Ψ (s30l1_G (s30l1 Ψ n1)) x0 x1 x2 x3 h)) ∧ (True))) ∧ True ∧ True ∧ True)) ⟨trivial, ⟨trivial, ⟨⟨trivial, ⟨fun _ _ _ _ _ H => H, fun _ => ⟨fun _ _ _ _ _ H => H, ⟨⟨trivial, ⟨trivial, trivial⟩⟩, ⟨trivial, fun _ _ _ _ _ H => H, trivial⟩⟩⟩⟩⟩, ⟨trivial, ⟨trivial, trivial⟩⟩⟩⟩⟩)
    (Eq.mpr (by as_aux_lemma => kernel_rfl : evF prog f30 (s30_A Ψ) Ψ [(.int .i64 a), (.int .i64 b)] h = s30 Ψ a b h) H)

/- 31 dictum/nishimura.imp -/
abbrev s31l1_T := AVal → AVal → Int → Int → Heap → Prop
def s31l1_R (F : s31l1_T) (l : List AVal) (h : Heap) : Prop := J.cons l fun x0 l => J.cons l fun x1 l => J.cons l fun v l => J.int .i64 v fun x2 => J.cons l fun v l => J.int .i64 v fun x3 => J.nil l (F x0 x1 x2 x3 h)
def s31l1_G (F : s31l1_T) (x0 x1 : AVal) (x2 x3 : Int) (h : Heap) : Prop := gJ [.any, .any, .int .i64, .int .i64] [x0, x1, (.int .i64 x2), (.int .i64 x3)] h (s31l1_R F)
def s31l1_E (F : Nat → s31l1_T) (x0 x1 : AVal) (x2 x3 : Int) (h : Heap) : Prop := gJ [.any, .any, .int .i64, .int .i64] [x0, x1, (.int .i64 x2), (.int .i64 x3)] h (fun l h => ∃ n, s31l1_R (F n) l h)
theorem s31l1_go {F : s31l1_T} {x0 x1 : AVal} {x2 x3 : Int} {h : Heap} (H : F x0 x1 x2 x3 h) : s31l1_G F x0 x1 x2 x3 h := gJ_plain rfl H
theorem s31l1_in {F : Nat → s31l1_T} {x0 x1 : AVal} {x2 x3 : Int} {h : Heap} (n : Nat) (H : F n x0 x1 x2 x3 h) : s31l1_E F x0 x1 x2 x3 h := gJ_plain rfl ⟨n, H⟩

def s31l1 (Ψ : AVal → Heap → Prop) : Nat → s31l1_T
  | 0, _, _, _, _, _ => False
  | n + 1, t4, bars, t10, t11, h =>
    ifT (decide (t11 < t10)) (
      callV prog bars [(.int .i64 t11)] h fun v2 h_2 =>
      tBool v2 fun v3 =>
      ifT v3 (
        rg (t11 + 1) (
          callV prog bars [(.int .i64 (t11 + 1))] h_2 fun v4 h_3 =>
          tBool v4 fun v5 =>
          st false h_3 t4 [(.bool false), (.int .i64 t11), (.bool (!v5))] fun h_4 =>
          ldN 3 h_4 t4 fun l_ =>
          tCons l_ fun v6 l_1 =>
          tBool v6 fun v7 =>
          tCons l_1 fun v8 l_2 =>
          tInt .i64 v8 fun v9 =>
          tCons l_2 fun v10 l_3 =>
          tBool v10 fun v11 =>
          tNil l_3 (
            retG (.agg [(.bool v7), (.int .i64 v9), (.bool v11)]) h_4 Ψ))) (
        rg (t11 + 1) (
          s31l1_G (s31l1 Ψ n) t4 bars t10 (t11 + 1) h_2))) (
      st false h t4 [(.bool true), (.int .i64 0), (.bool false)] fun h_5 =>
      ldN 3 h_5 t4 fun l_4 =>
      tCons l_4 fun v12 l_5 =>
      tBool v12 fun v13 =>
      tCons l_5 fun v14 l_6 =>
      tInt .i64 v14 fun v15 =>
      tCons l_6 fun v16 l_7 =>
      tBool v16 fun v17 =>
      tNil l_7 (
        retG (.agg [(.bool v13), (.int .i64 v15), (.bool v17)]) h_5 Ψ))

def s31 (Ψ : AVal → Heap → Prop) (a_all : Bool) (a_low : Int) (a_gap : Bool) (b_all : Bool) (b_low : Int) (b_gap : Bool) (h : Heap) : Prop :=
  Sym.newRow 3 [(.agg [(.bool false), (.int .i64 0), (.bool false)])] h fun r h_ =>
  callG prog 46 [(.agg [(.bool a_all), (.int .i64 a_low), (.bool a_gap)]), (.agg [(.bool b_all), (.int .i64 b_low), (.bool b_gap)])] h_ fun v h_1 =>
  tInt .i64 v fun v1 =>
  s31l1_E (s31l1 Ψ) (.ptr r 0 0) (.func (.func 51) [] [(.lptr [(.bool a_all), (.int .i64 a_low), (.bool a_gap)]), (.lptr [(.bool b_all), (.int .i64 b_low), (.bool b_gap)])]) v1 0 h_1

def s31_A (Ψ : AVal → Heap → Prop) : Ann :=
  .seq (.reg [⟨none, [(0, true), (1, true), (2, false)]⟩])
  (.seq (rA 2)
  (.seq (.seq (rA 4)
  (.block (.loop [(4, .any), (5, .any), (10, .int .i64), (11, .int .i64)] (fun n l h => s31l1_R (s31l1 Ψ n) l h) (fun L1 =>
  .seq (rA 1)
  (.seq (.cond (.leaf)
  (.leaf))
  (.seq (.block (.seq (rA 2)
  (.seq (rA 3)
  (.cond (.seq (rA 8)
  (.leaf))
  (.leaf)))))
  (rA 2)))))))
  (.seq (rA 2)
  (.leaf))))

theorem s31_ok {Ψ : AVal → Heap → Prop} {a_all : Bool} {a_low : Int} {a_gap : Bool} {b_all : Bool} {b_low : Int} {b_gap : Bool} {h : Heap} (H : s31 Ψ a_all a_low a_gap b_all b_low b_gap h) : ACalls prog 31 [(.agg [(.bool a_all), (.int .i64 a_low), (.bool a_gap)]), (.agg [(.bool b_all), (.int .i64 b_low), (.bool b_gap)])] h Ψ :=
  calls_of_evF func31 (by kernel_rfl) (by kernel_rfl) (by kernel_rfl)
    (Eq.mpr (by as_aux_lemma => kernel_rfl : oblF prog f31 (s31_A Ψ) Ψ = (True ∧ True ∧ (True ∧ (∀ (h : Heap) (x0 x1 : AVal) (x2 x3 : Int), ON (s31l1 Ψ 0 x0 x1 x2 x3 h)) ∧ ∀ n1 : Nat, (∀ (h : Heap) (x0 x1 : AVal) (x2 x3 : Int), OI (s31l1 Ψ (n1 + 1) x0 x1 x2 x3 h)) ∧ (True ∧ (True ∧ True) ∧ (True ∧ True ∧ (True ∧ True) ∧ True) ∧ True)) ∧ True ∧ True)) ⟨trivial, ⟨trivial, ⟨⟨trivial, ⟨fun _ _ _ _ _ H => H, fun _ => ⟨fun _ _ _ _ _ H => H, ⟨trivial, ⟨⟨trivial, trivial⟩, ⟨⟨trivial, ⟨trivial, ⟨⟨trivial, trivial⟩, trivial⟩⟩⟩, trivial⟩⟩⟩⟩⟩⟩, ⟨trivial, trivial⟩⟩⟩⟩)
    (Eq.mpr (by as_aux_lemma => kernel_rfl : evF prog f31 (s31_A Ψ) Ψ [(.agg [(.bool a_all), (.int .i64 a_low), (.bool a_gap)]), (.agg [(.bool b_all), (.int .i64 b_low), (.bool b_gap)])] h = s31 Ψ a_all a_low a_gap b_all b_low b_gap h) H)

/- 32 dictum/dictumref26.imp -/
abbrev s32l1_T := Int → Int → AVal → Int → Heap → Prop
def s32l1_R (F : s32l1_T) (l : List AVal) (h : Heap) : Prop := J.cons l fun v l => J.int .i64 v fun x0 => J.cons l fun v l => J.int .i64 v fun x1 => J.cons l fun x2 l => J.cons l fun v l => J.int .i64 v fun x3 => J.nil l (F x0 x1 x2 x3 h)
def s32l1_G (F : s32l1_T) (x0 x1 : Int) (x2 : AVal) (x3 : Int) (h : Heap) : Prop := gJ [.int .i64, .int .i64, .any, .int .i64] [(.int .i64 x0), (.int .i64 x1), x2, (.int .i64 x3)] h (s32l1_R F)
def s32l1_E (F : Nat → s32l1_T) (x0 x1 : Int) (x2 : AVal) (x3 : Int) (h : Heap) : Prop := gJ [.int .i64, .int .i64, .any, .int .i64] [(.int .i64 x0), (.int .i64 x1), x2, (.int .i64 x3)] h (fun l h => ∃ n, s32l1_R (F n) l h)
theorem s32l1_go {F : s32l1_T} {x0 x1 : Int} {x2 : AVal} {x3 : Int} {h : Heap} (H : F x0 x1 x2 x3 h) : s32l1_G F x0 x1 x2 x3 h := gJ_plain rfl H
theorem s32l1_in {F : Nat → s32l1_T} {x0 x1 : Int} {x2 : AVal} {x3 : Int} {h : Heap} (n : Nat) (H : F n x0 x1 x2 x3 h) : s32l1_E F x0 x1 x2 x3 h := gJ_plain rfl ⟨n, H⟩

abbrev s32l3_T := Int → Int → AVal → Int → Int → Heap → Prop
def s32l3_R (F : s32l3_T) (l : List AVal) (h : Heap) : Prop := J.cons l fun v l => J.int .i64 v fun x0 => J.cons l fun v l => J.int .i64 v fun x1 => J.cons l fun x2 l => J.cons l fun v l => J.int .i64 v fun x3 => J.cons l fun v l => J.int .i64 v fun x4 => J.nil l (F x0 x1 x2 x3 x4 h)
def s32l3_G (F : s32l3_T) (x0 x1 : Int) (x2 : AVal) (x3 x4 : Int) (h : Heap) : Prop := gJ [.int .i64, .int .i64, .any, .int .i64, .int .i64] [(.int .i64 x0), (.int .i64 x1), x2, (.int .i64 x3), (.int .i64 x4)] h (s32l3_R F)
def s32l3_E (F : Nat → s32l3_T) (x0 x1 : Int) (x2 : AVal) (x3 x4 : Int) (h : Heap) : Prop := gJ [.int .i64, .int .i64, .any, .int .i64, .int .i64] [(.int .i64 x0), (.int .i64 x1), x2, (.int .i64 x3), (.int .i64 x4)] h (fun l h => ∃ n, s32l3_R (F n) l h)
theorem s32l3_go {F : s32l3_T} {x0 x1 : Int} {x2 : AVal} {x3 x4 : Int} {h : Heap} (H : F x0 x1 x2 x3 x4 h) : s32l3_G F x0 x1 x2 x3 x4 h := gJ_plain rfl H
theorem s32l3_in {F : Nat → s32l3_T} {x0 x1 : Int} {x2 : AVal} {x3 x4 : Int} {h : Heap} (n : Nat) (H : F n x0 x1 x2 x3 x4 h) : s32l3_E F x0 x1 x2 x3 x4 h := gJ_plain rfl ⟨n, H⟩

def s32c4 (Ψ : AVal → Heap → Prop) (L1 : s32l1_T) (L3 : s32l3_T) (a4 b4 : Int) (in_3 : AVal) (w3 v6 : Int) (h : Heap) : Prop :=
  rg (v6 + 1) (
    L3 a4 b4 in_3 w3 (v6 + 1) h)

def s32l3 (Ψ : AVal → Heap → Prop) (L1 : s32l1_T) : Nat → s32l3_T
  | 0, _, _, _, _, _, _ => False
  | n2 + 1, a3, b3, in_2, w2, v5, h =>
    rg (w2 - 2) (
      ifT (decide (v5 ≤ (w2 - 2))) (
        ixS 1 in_2 w2 fun p =>
        ld1 h p fun v7 =>
        tBool v7 fun v8 =>
        ifT v8 (
          callG prog 43 [(.int .i64 a3), (.int .i64 v5)] h fun v9 h_3 =>
          tBool v9 fun v10 =>
          ifT (!v10) (
            ixS 1 in_2 w2 fun p2 =>
            st true h_3 p2 [(.bool true)] fun h_6 =>
            s32c4 Ψ L1 (s32l3_G (s32l3 Ψ L1 n2)) a3 b3 in_2 w2 v5 h_6) (
            callG prog 43 [(.int .i64 b3), (.int .i64 v5)] h_3 fun v11 h_4 =>
            tBool v11 fun v12 =>
            ixS 1 in_2 w2 fun p1 =>
            st true h_4 p1 [(.bool v12)] fun h_5 =>
            s32c4 Ψ L1 (s32l3_G (s32l3 Ψ L1 n2)) a3 b3 in_2 w2 v5 h_5)) (
          ixS 1 in_2 w2 fun p3 =>
          st true h p3 [(.bool false)] fun h_7 =>
          s32c4 Ψ L1 (s32l3_G (s32l3 Ψ L1 n2)) a3 b3 in_2 w2 v5 h_7)) (
        rg (w2 + 1) (
          L1 a3 b3 in_2 (w2 + 1) h)))

def s32c2 (Ψ : AVal → Heap → Prop) (L1 : s32l1_T) (a2 b2 : Int) (in_1 : AVal) (w1 : Int) (h : Heap) : Prop :=
  s32l3_E (s32l3 Ψ L1) a2 b2 in_1 w1 0 h

def s32l1 (Ψ : AVal → Heap → Prop) : Nat → s32l1_T
  | 0, _, _, _, _, _ => False
  | n + 1, a1, b1, in_, w, h =>
    lenN in_ fun n1 =>
    ifT (decide (w < n1)) (
      callG prog 43 [(.int .i64 a1), (.int .i64 w)] h fun v13 h_8 =>
      tBool v13 fun v14 =>
      ifT (!v14) (
        ixS 1 in_ w fun p5 =>
        st true h_8 p5 [(.bool true)] fun h_11 =>
        s32c2 Ψ (s32l1_G (s32l1 Ψ n)) a1 b1 in_ w h_11) (
        callG prog 43 [(.int .i64 b1), (.int .i64 w)] h_8 fun v15 h_9 =>
        tBool v15 fun v16 =>
        ixS 1 in_ w fun p4 =>
        st true h_9 p4 [(.bool v16)] fun h_10 =>
        s32c2 Ψ (s32l1_G (s32l1 Ψ n)) a1 b1 in_ w h_10)) (
      callG prog 49 [in_] h fun v17 h_12 =>
      tTup v17 fun l_ =>
      tCons l_ fun v18 l_1 =>
      tInt .i64 v18 fun v19 =>
      tCons l_1 fun v20 l_2 =>
      tBool v20 fun v21 =>
      tNil l_2 (
        retG (.int .i64 v19) h_12 Ψ))

def s32 (Ψ : AVal → Heap → Prop) (a : Int) (b : Int) (h : Heap) : Prop :=
  callG prog 24 [(.int .i64 a), (.int .i64 b)] h fun v h_ =>
  tBool v fun v1 =>
  ifT v1 (
    retG (.int .i64 (-1)) h_ Ψ) (
    callG prog 42 [(.int .i64 a), (.int .i64 b)] h_ fun v2 h_1 =>
    tInt .i64 v2 fun v3 =>
    mkS false 1 1 (.bool false) h_1 v3 v3 fun v4 h_2 =>
    s32l1_E (s32l1 Ψ) a b v4 0 h_2)

def s32_A (Ψ : AVal → Heap → Prop) : Ann :=
  .seq (rA 1)
  (.seq (.seq (rA 3)
  (.cond (.seq (rA 1)
  (.leaf))
  (.leaf)))
  (.seq (rA 5)
  (.seq (.seq (rA 1)
  (.block (.loop [(0, .int .i64), (1, .int .i64), (5, .any), (6, .int .i64)] (fun n l h => s32l1_R (s32l1 Ψ n) l h) (fun L1 =>
  .seq (.seq (rA 4)
  (.cond (.leaf)
  (.leaf)))
  (.seq (.block (.cut [(0, .int .i64), (1, .int .i64), (5, .any), (6, .int .i64)] (fun l h => J.cons l fun v l => J.int .i64 v fun x0 => J.cons l fun v l => J.int .i64 v fun x1 => J.cons l fun x2 l => J.cons l fun v l => J.int .i64 v fun x3 => J.nil l (s32c2 Ψ (fun y0 y1 y2 y3 h => L1 [(.int .i64 y0), (.int .i64 y1), y2, (.int .i64 y3)] h) x0 x1 x2 x3 h)) (.reg [⟨none, [(0, false), (1, false), (2, false), (3, false), (4, false), (5, false), (6, false)]⟩, ⟨some (29, false), [(7, false), (8, false), (9, false)]⟩, ⟨none, [(10, false), (11, false), (12, false)]⟩])
  (.seq (rA 1)
  (.block (.loop [(0, .int .i64), (1, .int .i64), (5, .any), (6, .int .i64), (7, .int .i64)] (fun n l h => s32l3_R (s32l3 Ψ (fun y0 y1 y2 y3 h => L1 [(.int .i64 y0), (.int .i64 y1), y2, (.int .i64 y3)] h) n) l h) (fun L3 =>
  .seq (.seq (rA 4)
  (.cond (.leaf)
  (.leaf)))
  (.cut [(0, .int .i64), (1, .int .i64), (5, .any), (6, .int .i64), (7, .int .i64)] (fun l h => J.cons l fun v l => J.int .i64 v fun x0 => J.cons l fun v l => J.int .i64 v fun x1 => J.cons l fun x2 l => J.cons l fun v l => J.int .i64 v fun x3 => J.cons l fun v l => J.int .i64 v fun x4 => J.nil l (s32c4 Ψ (fun y0 y1 y2 y3 h => L1 [(.int .i64 y0), (.int .i64 y1), y2, (.int .i64 y3)] h) (fun y0 y1 y2 y3 y4 h => L3 [(.int .i64 y0), (.int .i64 y1), y2, (.int .i64 y3), (.int .i64 y4)] h) x0 x1 x2 x3 x4 h)) (.block (.reg [⟨none, [(0, false), (1, false), (2, false), (3, false), (4, false), (5, false), (6, false)]⟩, ⟨some (47, true), [(7, false), (8, false), (9, false), (10, false), (11, false)]⟩, ⟨some (52, false), [(12, false), (13, false), (14, false)]⟩, ⟨some (47, true), [(15, false)]⟩, ⟨none, [(16, false), (17, false), (18, false)]⟩]))
  (rA 3))))))))
  (rA 3))))))
  (.seq (rA 7)
  (.seq (rA 2)
  (.leaf))))))

theorem s32_ok {Ψ : AVal → Heap → Prop} {a : Int} {b : Int} {h : Heap} (H : s32 Ψ a b h) : ACalls prog 32 [(.int .i64 a), (.int .i64 b)] h Ψ :=
  calls_of_evF func32 (by kernel_rfl) (by kernel_rfl) (by kernel_rfl)
    (Eq.mpr (by as_aux_lemma => kernel_rfl : oblF prog f32 (s32_A Ψ) Ψ = (True ∧ (True ∧ (True ∧ True) ∧ True) ∧ True ∧ (True ∧ (∀ (h : Heap) (x0 x1 : Int) (x2 : AVal) (x3 : Int), ON (s32l1 Ψ 0 x0 x1 x2 x3 h)) ∧ ∀ n1 : Nat, (∀ (h : Heap) (x0 x1 : Int) (x2 : AVal) (x3 : Int), OI (s32l1 Ψ (n1 + 1) x0 x1 x2 x3 h)) ∧ ((True ∧ True ∧ True) ∧ ((True) ∧ (∀ (h : Heap) (x0 x1 : Int) (x2 : AVal) (x3 : Int), OI (s32c2 Ψ (s32l1_G (s32l1 Ψ n1)) x0 x1 x2 x3 h)) ∧ (True ∧ (∀ (h : Heap) (x0 x1 : Int) (x2 : AVal) (x3 x4 : Int), ON (s32l3 Ψ (s32l1_G (s32l1 Ψ n1)) 0 x0 x1 x2 x3 x4 h)) ∧ ∀ n3 : Nat, (∀ (h : Heap) (x0 x1 : Int) (x2 : AVal) (x3 x4 : Int), OI (s32l3 Ψ (s32l1_G (s32l1 Ψ n1)) (n3 + 1) x0 x1 x2 x3 x4 h)) ∧ ((True ∧ True ∧ True) ∧ (True) ∧ (∀ (h : Heap) (x0 x1 : Int) (x2 : AVal) (x3 x4 : Int), OI (s32c4 Ψ (s32l1_G (s32l1 Ψ n1)) (s32l3_G (s32l3 Ψ (s32l1_G (s32l1 Ψ n1)) n3)) x0 x1 x2 x3 x4 h)) ∧ (True)))) ∧ True)) ∧ True ∧ True ∧ True)) ⟨trivial, ⟨⟨trivial, ⟨⟨trivial, trivial⟩, trivial⟩⟩, ⟨trivial, ⟨⟨trivial, ⟨fun _ _ _ _ _ H => H, fun _ => ⟨fun _ _ _ _ _ H => H, ⟨⟨trivial, ⟨trivial, trivial⟩⟩, ⟨⟨trivial, fun _ _ _ _ _ H => H, ⟨trivial, ⟨fun _ _ _ _ _ _ H => H, fun _ => ⟨fun _ _ _ _ _ _ H => H, ⟨⟨trivial, ⟨trivial, trivial⟩⟩, ⟨trivial, fun _ _ _ _ _ _ H => H, trivial⟩⟩⟩⟩⟩⟩, trivial⟩⟩⟩⟩⟩, ⟨trivial, ⟨trivial, trivial⟩⟩⟩⟩⟩⟩)
    (Eq.mpr (by as_aux_lemma => kernel_rfl : evF prog f32 (s32_A Ψ) Ψ [(.int .i64 a), (.int .i64 b)] h = s32 Ψ a b h) H)

/- 34 dictum/nishimura.Ladder -/
def s34c1 (Ψ : AVal → Heap → Prop) (t1 : AVal) (atom1 : ByteArray) (k1 : Int) (t19 : Bool) (h : Heap) : Prop :=
  ifT t19 (
    retG (.tuple [(.int .i64 0), (.int .i64 2)]) h Ψ) (
    callG prog 53 [t1] h fun v3 h_2 =>
    tInt .i64 v3 fun v4 =>
    callG prog 54 [t1, (.str atom1), (.int .i64 k1)] h_2 fun v5 h_3 =>
    tTup v5 fun l_ =>
    tCons l_ fun v6 l_1 =>
    tInt .i64 v6 fun v7 =>
    tCons l_1 fun v8 l_2 =>
    tInt .i64 v8 fun v9 =>
    tNil l_2 (
      ifT (v9 != 0) (
        callG prog 55 [t1, (.int .i64 v4)] h_3 fun v10 h_4 =>
        tInt .i64 v10 fun v11 =>
        retG (.tuple [(.int .i64 0), (.int .i64 v9)]) h_4 Ψ) (
        retG (.tuple [(.int .i64 v7), (.int .i64 0)]) h_3 Ψ)))

def s34 (Ψ : AVal → Heap → Prop) (t : AVal) (atom : ByteArray) (k : Int) (h : Heap) : Prop :=
  callG prog 52 [t] h fun v h_ =>
  nilP v fun b =>
  ifT b (
    retG (.tuple [(.int .i64 0), (.int .i64 1)]) h_ Ψ) (
    callG prog 37 [(.str atom)] h_ fun v1 h_1 =>
    tBool v1 fun v2 =>
    ifT (!v2) (
      retG (.tuple [(.int .i64 0), (.int .i64 32)]) h_1 Ψ) (
      ifT (decide (k < (-1))) (
        s34c1 Ψ t atom k true h_1) (
        s34c1 Ψ t atom k (decide (4096 < k)) h_1)))

def s34_A (Ψ : AVal → Heap → Prop) : Ann :=
  .seq (rA 2)
  (.seq (.block (.seq (rA 4)
  (.cond (.seq (rA 2)
  (.leaf))
  (.seq (rA 4)
  (.cond (.seq (rA 2)
  (.leaf))
  (.cut [(0, .any), (1, .str), (2, .int .i64), (19, .bool)] (fun l h => J.cons l fun x0 l => J.cons l fun v l => J.str v fun x1 => J.cons l fun v l => J.int .i64 v fun x2 => J.cons l fun v l => J.bool v fun x3 => J.nil l (s34c1 Ψ x0 x1 x2 x3 h)) (.reg [⟨none, [(0, false), (1, false), (2, false)]⟩, ⟨some (22, false), [(3, false), (4, false)]⟩, ⟨none, [(5, false), (6, false)]⟩])
  (.cond (.seq (rA 2)
  (.leaf))
  (.leaf))))))))
  (.seq (rA 3)
  (.seq (rA 9)
  (.seq (.seq (rA 2)
  (.cond (.seq (rA 3)
  (.seq (rA 3)
  (.leaf)))
  (.leaf)))
  (.seq (rA 3)
  (.leaf))))))

theorem s34_ok {Ψ : AVal → Heap → Prop} {t : AVal} {atom : ByteArray} {k : Int} {h : Heap} (H : s34 Ψ t atom k h) : ACalls prog 34 [t, (.str atom), (.int .i64 k)] h Ψ :=
  calls_of_evF func34 (by kernel_rfl) (by kernel_rfl) (by kernel_rfl)
    (Eq.mpr (by as_aux_lemma => kernel_rfl : oblF prog f34 (s34_A Ψ) Ψ = (True ∧ (True ∧ (True ∧ True) ∧ True ∧ (True ∧ True) ∧ (True) ∧ (∀ (h : Heap) (x0 : AVal) (x1 : ByteArray) (x2 : Int) (x3 : Bool), OI (s34c1 Ψ x0 x1 x2 x3 h)) ∧ ((True ∧ True) ∧ True)) ∧ True ∧ True ∧ (True ∧ (True ∧ True ∧ True) ∧ True) ∧ True ∧ True)) ⟨trivial, ⟨⟨trivial, ⟨⟨trivial, trivial⟩, ⟨trivial, ⟨⟨trivial, trivial⟩, ⟨trivial, fun _ _ _ _ _ H => H, ⟨⟨trivial, trivial⟩, trivial⟩⟩⟩⟩⟩⟩, ⟨trivial, ⟨trivial, ⟨⟨trivial, ⟨⟨trivial, ⟨trivial, trivial⟩⟩, trivial⟩⟩, ⟨trivial, trivial⟩⟩⟩⟩⟩⟩)
    (Eq.mpr (by as_aux_lemma => kernel_rfl : evF prog f34 (s34_A Ψ) Ψ [t, (.str atom), (.int .i64 k)] h = s34 Ψ t atom k h) H)

/- 35 dictum/nishimura.Rung -/
abbrev s35l1_T := AVal → Int → AVal → AVal → Int → Int → Heap → Prop
def s35l1_R (F : s35l1_T) (l : List AVal) (h : Heap) : Prop := J.cons l fun x0 l => J.cons l fun v l => J.int .i64 v fun x1 => J.cons l fun x2 l => J.cons l fun x3 l => J.cons l fun v l => J.int .i64 v fun x4 => J.cons l fun v l => J.int .i64 v fun x5 => J.nil l (F x0 x1 x2 x3 x4 x5 h)
def s35l1_G (F : s35l1_T) (x0 : AVal) (x1 : Int) (x2 x3 : AVal) (x4 x5 : Int) (h : Heap) : Prop := gJ [.any, .int .i64, .any, .any, .int .i64, .int .i64] [x0, (.int .i64 x1), x2, x3, (.int .i64 x4), (.int .i64 x5)] h (s35l1_R F)
def s35l1_E (F : Nat → s35l1_T) (x0 : AVal) (x1 : Int) (x2 x3 : AVal) (x4 x5 : Int) (h : Heap) : Prop := gJ [.any, .int .i64, .any, .any, .int .i64, .int .i64] [x0, (.int .i64 x1), x2, x3, (.int .i64 x4), (.int .i64 x5)] h (fun l h => ∃ n, s35l1_R (F n) l h)
theorem s35l1_go {F : s35l1_T} {x0 : AVal} {x1 : Int} {x2 x3 : AVal} {x4 x5 : Int} {h : Heap} (H : F x0 x1 x2 x3 x4 x5 h) : s35l1_G F x0 x1 x2 x3 x4 x5 h := gJ_plain rfl H
theorem s35l1_in {F : Nat → s35l1_T} {x0 : AVal} {x1 : Int} {x2 x3 : AVal} {x4 x5 : Int} {h : Heap} (n : Nat) (H : F n x0 x1 x2 x3 x4 x5 h) : s35l1_E F x0 x1 x2 x3 x4 x5 h := gJ_plain rfl ⟨n, H⟩

def s35c2 (Ψ : AVal → Heap → Prop) (L1 : s35l1_T) (t2 : AVal) (id_2 : Int) (known1 t34_1 : AVal) (t35_1 t36_1 : Int) (h : Heap) : Prop :=
  rg (t36_1 + 1) (
    L1 t2 id_2 known1 t34_1 t35_1 (t36_1 + 1) h)

def s35l1 (Ψ : AVal → Heap → Prop) : Nat → s35l1_T
  | 0, _, _, _, _, _, _, _ => False
  | n2 + 1, t1, id_1, known, t34, t35, t36, h =>
    ifT (decide (t36 < t35)) (
      ixS 1 t34 t36 fun p =>
      ld1 h p fun v8 =>
      tInt .i64 v8 fun v9 =>
      callG prog 36 [t1, (.int .i64 v9)] h fun v10 h_3 =>
      tTup v10 fun l_6 =>
      tCons l_6 fun v11 l_7 =>
      tCons l_7 fun v12 l_8 =>
      tBool v12 fun v13 =>
      tNil l_8 (
        tAgg v11 fun l_9 =>
        tCons l_9 fun v14 l_10 =>
        tInt .i64 v14 fun v15 =>
        tCons l_10 fun v16 l_11 =>
        tStr v16 fun v17 =>
        tCons l_11 fun v18 l_12 =>
        tInt .i64 v18 fun v19 =>
        tCons l_12 fun v20 l_13 =>
        tInt .i64 v20 fun v21 =>
        tNil l_13 (
          Sym.newRow 4 [(.agg [(.int .i64 0), (.str (ByteArray.mk #[])), (.int .i64 0), (.int .i64 0)])] h_3 fun r1 h_4 =>
          st false h_4 (.ptr r1 0 0) [(.int .i64 v15), (.str v17), (.int .i64 v19), (.int .i64 v21)] fun h_5 =>
          ld1 h_5 (.ptr r1 0 0) fun v22 =>
          tInt .i64 v22 fun v23 =>
          ifT (v23 == 1) (
            mapPut h_5 known (.int .i64 v9) (.agg [(.bool false), (.int .i64 1), (.bool false)]) fun h_6 =>
            s35c2 Ψ (s35l1_G (s35l1 Ψ n2)) t1 id_1 known t34 t35 t36 h_6) (
            ifT (v23 == 3) (
              ld1 h_5 (.ptr r1 0 2) fun v24 =>
              tInt .i64 v24 fun v25 =>
              mapGet (.agg [(.bool false), (.int .i64 0), (.bool false)]) h_5 known (.int .i64 v25) fun v26 b =>
              tAgg v26 fun l_14 =>
              tCons l_14 fun v27 l_15 =>
              tBool v27 fun v28 =>
              tCons l_15 fun v29 l_16 =>
              tInt .i64 v29 fun v30 =>
              tCons l_16 fun v31 l_17 =>
              tBool v31 fun v32 =>
              tNil l_17 (
                ld1 h_5 (.ptr r1 0 3) fun v33 =>
                tInt .i64 v33 fun v34 =>
                mapGet (.agg [(.bool false), (.int .i64 0), (.bool false)]) h_5 known (.int .i64 v34) fun v35 b1 =>
                tAgg v35 fun l_18 =>
                tCons l_18 fun v36 l_19 =>
                tBool v36 fun v37 =>
                tCons l_19 fun v38 l_20 =>
                tInt .i64 v38 fun v39 =>
                tCons l_20 fun v40 l_21 =>
                tBool v40 fun v41 =>
                tNil l_21 (
                  callG prog 26 [(.agg [(.bool v28), (.int .i64 v30), (.bool v32)]), (.agg [(.bool v37), (.int .i64 v39), (.bool v41)])] h_5 fun v42 h_7 =>
                  tAgg v42 fun l_22 =>
                  tCons l_22 fun v43 l_23 =>
                  tBool v43 fun v44 =>
                  tCons l_23 fun v45 l_24 =>
                  tInt .i64 v45 fun v46 =>
                  tCons l_24 fun v47 l_25 =>
                  tBool v47 fun v48 =>
                  tNil l_25 (
                    mapPut h_7 known (.int .i64 v9) (.agg [(.bool v44), (.int .i64 v46), (.bool v48)]) fun h_8 =>
                    s35c2 Ψ (s35l1_G (s35l1 Ψ n2)) t1 id_1 known t34 t35 t36 h_8)))) (
              ifT (v23 == 4) (
                ld1 h_5 (.ptr r1 0 2) fun v49 =>
                tInt .i64 v49 fun v50 =>
                mapGet (.agg [(.bool false), (.int .i64 0), (.bool false)]) h_5 known (.int .i64 v50) fun v51 b2 =>
                tAgg v51 fun l_26 =>
                tCons l_26 fun v52 l_27 =>
                tBool v52 fun v53 =>
                tCons l_27 fun v54 l_28 =>
                tInt .i64 v54 fun v55 =>
                tCons l_28 fun v56 l_29 =>
                tBool v56 fun v57 =>
                tNil l_29 (
                  ld1 h_5 (.ptr r1 0 3) fun v58 =>
                  tInt .i64 v58 fun v59 =>
                  mapGet (.agg [(.bool false), (.int .i64 0), (.bool false)]) h_5 known (.int .i64 v59) fun v60 b3 =>
                  tAgg v60 fun l_30 =>
                  tCons l_30 fun v61 l_31 =>
                  tBool v61 fun v62 =>
                  tCons l_31 fun v63 l_32 =>
                  tInt .i64 v63 fun v64 =>
                  tCons l_32 fun v65 l_33 =>
                  tBool v65 fun v66 =>
                  tNil l_33 (
                    callG prog 29 [(.agg [(.bool v53), (.int .i64 v55), (.bool v57)]), (.agg [(.bool v62), (.int .i64 v64), (.bool v66)])] h_5 fun v67 h_9 =>
                    tAgg v67 fun l_34 =>
                    tCons l_34 fun v68 l_35 =>
                    tBool v68 fun v69 =>
                    tCons l_35 fun v70 l_36 =>
                    tInt .i64 v70 fun v71 =>
                    tCons l_36 fun v72 l_37 =>
                    tBool v72 fun v73 =>
                    tNil l_37 (
                      mapPut h_9 known (.int .i64 v9) (.agg [(.bool v69), (.int .i64 v71), (.bool v73)]) fun h_10 =>
                      s35c2 Ψ (s35l1_G (s35l1 Ψ n2)) t1 id_1 known t34 t35 t36 h_10)))) (
                ifT (v23 == 5) (
                  ld1 h_5 (.ptr r1 0 2) fun v74 =>
                  tInt .i64 v74 fun v75 =>
                  mapGet (.agg [(.bool false), (.int .i64 0), (.bool false)]) h_5 known (.int .i64 v75) fun v76 b4 =>
                  tAgg v76 fun l_38 =>
                  tCons l_38 fun v77 l_39 =>
                  tBool v77 fun v78 =>
                  tCons l_39 fun v79 l_40 =>
                  tInt .i64 v79 fun v80 =>
                  tCons l_40 fun v81 l_41 =>
                  tBool v81 fun v82 =>
                  tNil l_41 (
                    ld1 h_5 (.ptr r1 0 3) fun v83 =>
                    tInt .i64 v83 fun v84 =>
                    mapGet (.agg [(.bool false), (.int .i64 0), (.bool false)]) h_5 known (.int .i64 v84) fun v85 b5 =>
                    tAgg v85 fun l_42 =>
                    tCons l_42 fun v86 l_43 =>
                    tBool v86 fun v87 =>
                    tCons l_43 fun v88 l_44 =>
                    tInt .i64 v88 fun v89 =>
                    tCons l_44 fun v90 l_45 =>
                    tBool v90 fun v91 =>
                    tNil l_45 (
                      callG prog 31 [(.agg [(.bool v78), (.int .i64 v80), (.bool v82)]), (.agg [(.bool v87), (.int .i64 v89), (.bool v91)])] h_5 fun v92 h_11 =>
                      tAgg v92 fun l_46 =>
                      tCons l_46 fun v93 l_47 =>
                      tBool v93 fun v94 =>
                      tCons l_47 fun v95 l_48 =>
                      tInt .i64 v95 fun v96 =>
                      tCons l_48 fun v97 l_49 =>
                      tBool v97 fun v98 =>
                      tNil l_49 (
                        mapPut h_11 known (.int .i64 v9) (.agg [(.bool v94), (.int .i64 v96), (.bool v98)]) fun h_12 =>
                        s35c2 Ψ (s35l1_G (s35l1 Ψ n2)) t1 id_1 known t34 t35 t36 h_12)))) (
                  s35c2 Ψ (s35l1_G (s35l1 Ψ n2)) t1 id_1 known t34 t35 t36 h_5))))))) (
      mapGet (.agg [(.bool false), (.int .i64 0), (.bool false)]) h known (.int .i64 id_1) fun v99 b6 =>
      tAgg v99 fun l_50 =>
      tCons l_50 fun v100 l_51 =>
      tBool v100 fun v101 =>
      tCons l_51 fun v102 l_52 =>
      tInt .i64 v102 fun v103 =>
      tCons l_52 fun v104 l_53 =>
      tBool v104 fun v105 =>
      tNil l_53 (
        callG prog 44 [(.agg [(.bool v101), (.int .i64 v103), (.bool v105)])] h fun v106 h_13 =>
        tInt .i64 v106 fun v107 =>
        retG (.tuple [(.int .i64 v107), (.int .i64 0)]) h_13 Ψ))

def s35 (Ψ : AVal → Heap → Prop) (t : AVal) (id_ : Int) (h : Heap) : Prop :=
  callG prog 56 [t, (.int .i64 id_)] h fun v h_ =>
  tTup v fun l_ =>
  tCons l_ fun v1 l_1 =>
  tCons l_1 fun v2 l_2 =>
  tInt .i64 v2 fun v3 =>
  tNil l_2 (
    ifT (v3 != 0) (
      retG (.tuple [(.int .i64 0), (.int .i64 v3)]) h_ Ψ) (
      lenN v1 fun n =>
      ifT (decide (1 < n)) (
        retG (.tuple [(.int .i64 0), (.int .i64 220)]) h_ Ψ) (
        newMap h_ fun r h_1 =>
        callG prog 57 [t, (.int .i64 id_)] h_1 fun v4 h_2 =>
        tTup v4 fun l_3 =>
        tCons l_3 fun v5 l_4 =>
        tCons l_4 fun v6 l_5 =>
        tInt .i64 v6 fun v7 =>
        tNil l_5 (
          lenN v5 fun n1 =>
          s35l1_E (s35l1 Ψ) t id_ (.mapr r) v5 n1 0 h_2))))

def s35_A (Ψ : AVal → Heap → Prop) : Ann :=
  .seq (rA 2)
  (.seq (rA 8)
  (.seq (.seq (rA 2)
  (.cond (.seq (rA 3)
  (.leaf))
  (.leaf)))
  (.seq (.seq (rA 3)
  (.cond (.seq (rA 2)
  (.leaf))
  (.leaf)))
  (.seq (rA 2)
  (.seq (rA 8)
  (.seq (.seq (rA 3)
  (.block (.loop [(0, .any), (1, .int .i64), (8, .any), (34, .any), (35, .int .i64), (36, .int .i64)] (fun n l h => s35l1_R (s35l1 Ψ n) l h) (fun L1 =>
  .seq (rA 1)
  (.seq (.cond (.leaf)
  (.leaf))
  (.cut [(0, .any), (1, .int .i64), (8, .any), (34, .any), (35, .int .i64), (36, .int .i64)] (fun l h => J.cons l fun x0 l => J.cons l fun v l => J.int .i64 v fun x1 => J.cons l fun x2 l => J.cons l fun x3 l => J.cons l fun v l => J.int .i64 v fun x4 => J.cons l fun v l => J.int .i64 v fun x5 => J.nil l (s35c2 Ψ (fun y0 y1 y2 y3 y4 y5 h => L1 [y0, (.int .i64 y1), y2, y3, (.int .i64 y4), (.int .i64 y5)] h) x0 x1 x2 x3 x4 x5 h)) (.block (.seq (rA 3)
  (.seq (rA 9)
  (.seq (rA 2)
  (.block (.seq (rA 2)
  (.cond (rA 4)
  (.seq (rA 2)
  (.cond (rA 12)
  (.seq (rA 2)
  (.cond (rA 12)
  (.seq (rA 2)
  (.cond (rA 12)
  (.leaf))))))))))))))
  (rA 2)))))))
  (.seq (rA 6)
  (.leaf))))))))

theorem s35_ok {Ψ : AVal → Heap → Prop} {t : AVal} {id_ : Int} {h : Heap} (H : s35 Ψ t id_ h) : ACalls prog 35 [t, (.int .i64 id_)] h Ψ :=
  calls_of_evF func35 (by kernel_rfl) (by kernel_rfl) (by kernel_rfl)
    (Eq.mpr (by as_aux_lemma => kernel_rfl : oblF prog f35 (s35_A Ψ) Ψ = (True ∧ True ∧ (True ∧ (True ∧ True) ∧ True) ∧ (True ∧ (True ∧ True) ∧ True) ∧ True ∧ True ∧ (True ∧ (∀ (h : Heap) (x0 : AVal) (x1 : Int) (x2 x3 : AVal) (x4 x5 : Int), ON (s35l1 Ψ 0 x0 x1 x2 x3 x4 x5 h)) ∧ ∀ n1 : Nat, (∀ (h : Heap) (x0 : AVal) (x1 : Int) (x2 x3 : AVal) (x4 x5 : Int), OI (s35l1 Ψ (n1 + 1) x0 x1 x2 x3 x4 x5 h)) ∧ (True ∧ (True ∧ True) ∧ (True ∧ True ∧ True ∧ True ∧ True ∧ True ∧ True ∧ True ∧ True ∧ True ∧ True ∧ True) ∧ (∀ (h : Heap) (x0 : AVal) (x1 : Int) (x2 x3 : AVal) (x4 x5 : Int), OI (s35c2 Ψ (s35l1_G (s35l1 Ψ n1)) x0 x1 x2 x3 x4 x5 h)) ∧ (True))) ∧ True ∧ True)) ⟨trivial, ⟨trivial, ⟨⟨trivial, ⟨⟨trivial, trivial⟩, trivial⟩⟩, ⟨⟨trivial, ⟨⟨trivial, trivial⟩, trivial⟩⟩, ⟨trivial, ⟨trivial, ⟨⟨trivial, ⟨fun _ _ _ _ _ _ _ H => H, fun _ => ⟨fun _ _ _ _ _ _ _ H => H, ⟨trivial, ⟨⟨trivial, trivial⟩, ⟨⟨trivial, ⟨trivial, ⟨trivial, ⟨trivial, ⟨trivial, ⟨trivial, ⟨trivial, ⟨trivial, ⟨trivial, ⟨trivial, ⟨trivial, trivial⟩⟩⟩⟩⟩⟩⟩⟩⟩⟩⟩, fun _ _ _ _ _ _ _ H => H, trivial⟩⟩⟩⟩⟩⟩, ⟨trivial, trivial⟩⟩⟩⟩⟩⟩⟩⟩)
    (Eq.mpr (by as_aux_lemma => kernel_rfl : evF prog f35 (s35_A Ψ) Ψ [t, (.int .i64 id_)] h = s35 Ψ t id_ h) H)

/- 41 dictum/nishimura.Equal -/
def s41c1 (Ψ : AVal → Heap → Prop) (t1 : AVal) (a1 b1 x y : Int) (t43 : Bool) (h : Heap) : Prop :=
  ifT t43 (
    retG (.tuple [(.bool (x == y)), (.int .i64 0)]) h Ψ) (
    callG prog 56 [t1, (.int .i64 a1)] h fun v10 h_2 =>
    tTup v10 fun l_6 =>
    tCons l_6 fun v11 l_7 =>
    tCons l_7 fun v12 l_8 =>
    tInt .i64 v12 fun v13 =>
    tNil l_8 (
      callG prog 56 [t1, (.int .i64 b1)] h_2 fun v14 h_3 =>
      tTup v14 fun l_9 =>
      tCons l_9 fun v15 l_10 =>
      tCons l_10 fun v16 l_11 =>
      tInt .i64 v16 fun v17 =>
      tNil l_11 (
        callG prog 63 [v11, v15] h_3 fun v18 h_4 =>
        tBool v18 fun v19 =>
        retG (.tuple [(.bool v19), (.int .i64 0)]) h_4 Ψ)))

def s41 (Ψ : AVal → Heap → Prop) (t : AVal) (a : Int) (b : Int) (h : Heap) : Prop :=
  callG prog 35 [t, (.int .i64 a)] h fun v h_ =>
  tTup v fun l_ =>
  tCons l_ fun v1 l_1 =>
  tInt .i64 v1 fun v2 =>
  tCons l_1 fun v3 l_2 =>
  tInt .i64 v3 fun v4 =>
  tNil l_2 (
    ifT (v4 != 0) (
      retG (.tuple [(.bool false), (.int .i64 v4)]) h_ Ψ) (
      callG prog 35 [t, (.int .i64 b)] h_ fun v5 h_1 =>
      tTup v5 fun l_3 =>
      tCons l_3 fun v6 l_4 =>
      tInt .i64 v6 fun v7 =>
      tCons l_4 fun v8 l_5 =>
      tInt .i64 v8 fun v9 =>
      tNil l_5 (
        ifT (v9 != 0) (
          retG (.tuple [(.bool false), (.int .i64 v9)]) h_1 Ψ) (
          ifT (v2 != v7) (
            s41c1 Ψ t a b v2 v7 true h_1) (
            ifT (v2 == 0) (
              s41c1 Ψ t a b v2 v7 true h_1) (
              s41c1 Ψ t a b v2 v7 (v2 == (-1)) h_1))))))

def s41_A (Ψ : AVal → Heap → Prop) : Ann :=
  .seq (rA 2)
  (.seq (rA 8)
  (.seq (.seq (rA 2)
  (.cond (.seq (rA 3)
  (.leaf))
  (.leaf)))
  (.seq (rA 8)
  (.seq (.seq (rA 2)
  (.cond (.seq (rA 3)
  (.leaf))
  (.leaf)))
  (.seq (.cut [(0, .any), (1, .int .i64), (2, .int .i64), (8, .int .i64), (10, .int .i64), (43, .bool)] (fun l h => J.cons l fun x0 l => J.cons l fun v l => J.int .i64 v fun x1 => J.cons l fun v l => J.int .i64 v fun x2 => J.cons l fun v l => J.int .i64 v fun x3 => J.cons l fun v l => J.int .i64 v fun x4 => J.cons l fun v l => J.bool v fun x5 => J.nil l (s41c1 Ψ x0 x1 x2 x3 x4 x5 h)) (.reg [⟨none, [(0, false), (1, false), (2, false), (3, false)]⟩, ⟨some (36, false), [(4, false), (5, false)]⟩, ⟨none, [(6, false), (7, false)]⟩, ⟨some (40, false), [(8, false), (9, false)]⟩, ⟨none, [(10, false)]⟩])
  (.cond (.seq (rA 5)
  (.leaf))
  (.leaf)))
  (.seq (rA 8)
  (.seq (rA 8)
  (.seq (rA 5)
  (.leaf)))))))))

theorem s41_ok {Ψ : AVal → Heap → Prop} {t : AVal} {a : Int} {b : Int} {h : Heap} (H : s41 Ψ t a b h) : ACalls prog 41 [t, (.int .i64 a), (.int .i64 b)] h Ψ :=
  calls_of_evF func41 (by kernel_rfl) (by kernel_rfl) (by kernel_rfl)
    (Eq.mpr (by as_aux_lemma => kernel_rfl : oblF prog f41 (s41_A Ψ) Ψ = (True ∧ True ∧ (True ∧ (True ∧ True) ∧ True) ∧ True ∧ (True ∧ (True ∧ True) ∧ True) ∧ ((True) ∧ (∀ (h : Heap) (x0 : AVal) (x1 x2 x3 x4 : Int) (x5 : Bool), OI (s41c1 Ψ x0 x1 x2 x3 x4 x5 h)) ∧ ((True ∧ True) ∧ True)) ∧ True ∧ True ∧ True ∧ True)) ⟨trivial, ⟨trivial, ⟨⟨trivial, ⟨⟨trivial, trivial⟩, trivial⟩⟩, ⟨trivial, ⟨⟨trivial, ⟨⟨trivial, trivial⟩, trivial⟩⟩, ⟨⟨trivial, fun _ _ _ _ _ _ _ H => H, ⟨⟨trivial, trivial⟩, trivial⟩⟩, ⟨trivial, ⟨trivial, ⟨trivial, trivial⟩⟩⟩⟩⟩⟩⟩⟩⟩)
    (Eq.mpr (by as_aux_lemma => kernel_rfl : evF prog f41 (s41_A Ψ) Ψ [t, (.int .i64 a), (.int .i64 b)] h = s41 Ψ t a b h) H)

/- 42 dictum/dictumref26.worlds -/
def s42 (Ψ : AVal → Heap → Prop) (a : Int) (b : Int) (h : Heap) : Prop :=
  2 ≠ (0 : Int) ∧
  rg (Int.tdiv (max a b) 2) (
    rg ((Int.tdiv (max a b) 2) + 5) (
      retG (.int .i64 ((Int.tdiv (max a b) 2) + 5)) h Ψ))

def s42_A (Ψ : AVal → Heap → Prop) : Ann :=
  .seq (rA 1)
  (.seq (rA 6)
  (.leaf))

theorem s42_ok {Ψ : AVal → Heap → Prop} {a : Int} {b : Int} {h : Heap} (H : s42 Ψ a b h) : ACalls prog 42 [(.int .i64 a), (.int .i64 b)] h Ψ :=
  calls_of_evF func42 (by kernel_rfl) (by kernel_rfl) (by kernel_rfl)
    (Eq.mpr (by as_aux_lemma => kernel_rfl : oblF prog f42 (s42_A Ψ) Ψ = (True ∧ True ∧ True)) ⟨trivial, ⟨trivial, trivial⟩⟩)
    (Eq.mpr (by as_aux_lemma => kernel_rfl : evF prog f42 (s42_A Ψ) Ψ [(.int .i64 a), (.int .i64 b)] h = s42 Ψ a b h) H)

/- 43 dictum/dictumref26.Has -/
def s43 (Ψ : AVal → Heap → Prop) (k : Int) (w : Int) (h : Heap) : Prop :=
  rg (k - 1) (
    2 ≠ (0 : Int) ∧
    rg (Int.tdiv (k - 1) 2) (
      ifT (k == (-1)) (
        retG (.bool true) h Ψ) (
        ifT (k == 0) (
          retG (.bool false) h Ψ) (
          2 ≠ (0 : Int) ∧
          ifT ((Int.tmod k 2) == 1) (
            retG (.bool (decide (w ≤ (Int.tdiv (k - 1) 2)))) h Ψ) (
            2 ≠ (0 : Int) ∧
            rg (Int.tdiv k 2) (
              rg ((Int.tdiv k 2) - 1) (
                ifT (decide (w < ((Int.tdiv k 2) - 1))) (
                  retG (.bool true) h Ψ) (
                  2 ≠ (0 : Int) ∧
                  rg (Int.tdiv k 2) (
                    retG (.bool (w == (Int.tdiv k 2))) h Ψ)))))))))

def s43_A (Ψ : AVal → Heap → Prop) : Ann :=
  .seq (rA 1)
  (.seq (rA 4)
  (.seq (.block (.seq (rA 3)
  (.cond (.seq (rA 1)
  (.leaf))
  (.seq (rA 3)
  (.cond (.seq (rA 1)
  (.leaf))
  (.seq (rA 4)
  (.cond (.seq (rA 4)
  (.leaf))
  (.leaf))))))))
  (.seq (.reg [⟨none, [(0, false), (1, false), (2, false), (3, false), (4, false), (5, false)]⟩, ⟨some (27, false), [(6, false), (7, false), (8, false), (9, false)]⟩, ⟨none, [(10, false), (11, false)]⟩])
  (.leaf))))

theorem s43_ok {Ψ : AVal → Heap → Prop} {k : Int} {w : Int} {h : Heap} (H : s43 Ψ k w h) : ACalls prog 43 [(.int .i64 k), (.int .i64 w)] h Ψ :=
  calls_of_evF func43 (by kernel_rfl) (by kernel_rfl) (by kernel_rfl)
    (Eq.mpr (by as_aux_lemma => kernel_rfl : oblF prog f43 (s43_A Ψ) Ψ = (True ∧ True ∧ (True ∧ (True ∧ True) ∧ True ∧ (True ∧ True) ∧ True ∧ (True ∧ True) ∧ True) ∧ True ∧ True)) ⟨trivial, ⟨trivial, ⟨⟨trivial, ⟨⟨trivial, trivial⟩, ⟨trivial, ⟨⟨trivial, trivial⟩, ⟨trivial, ⟨⟨trivial, trivial⟩, trivial⟩⟩⟩⟩⟩⟩, ⟨trivial, trivial⟩⟩⟩⟩)
    (Eq.mpr (by as_aux_lemma => kernel_rfl : evF prog f43 (s43_A Ψ) Ψ [(.int .i64 k), (.int .i64 w)] h = s43 Ψ k w h) H)

/- 44 (dictum/nishimura.rung).number -/
def s44 (Ψ : AVal → Heap → Prop) (r_all : Bool) (r_low : Int) (r_gap : Bool) (h : Heap) : Prop :=
  ifT r_all (
    retG (.int .i64 (-1)) h Ψ) (
    ifT r_gap (
      rg (2 * r_low) (
        rg ((2 * r_low) + 2) (
          retG (.int .i64 ((2 * r_low) + 2)) h Ψ))) (
      ifT (r_low == 0) (
        retG (.int .i64 0) h Ψ) (
        rg (2 * r_low) (
          rg ((2 * r_low) - 1) (
            retG (.int .i64 ((2 * r_low) - 1)) h Ψ)))))

def s44_A (Ψ : AVal → Heap → Prop) : Ann :=
  .seq (.reg [⟨none, [(0, true), (1, false)]⟩])
  (.seq (.block (.seq (rA 3)
  (.cond (.seq (rA 1)
  (.leaf))
  (.seq (rA 3)
  (.cond (.seq (rA 5)
  (.leaf))
  (.seq (rA 4)
  (.cond (.seq (rA 1)
  (.leaf))
  (.leaf))))))))
  (.seq (rA 5)
  (.leaf)))

theorem s44_ok {Ψ : AVal → Heap → Prop} {r_all : Bool} {r_low : Int} {r_gap : Bool} {h : Heap} (H : s44 Ψ r_all r_low r_gap h) : ACalls prog 44 [(.agg [(.bool r_all), (.int .i64 r_low), (.bool r_gap)])] h Ψ :=
  calls_of_evF func44 (by kernel_rfl) (by kernel_rfl) (by kernel_rfl)
    (Eq.mpr (by as_aux_lemma => kernel_rfl : oblF prog f44 (s44_A Ψ) Ψ = (True ∧ (True ∧ (True ∧ True) ∧ True ∧ (True ∧ True) ∧ True ∧ (True ∧ True) ∧ True) ∧ True ∧ True)) ⟨trivial, ⟨⟨trivial, ⟨⟨trivial, trivial⟩, ⟨trivial, ⟨⟨trivial, trivial⟩, ⟨trivial, ⟨⟨trivial, trivial⟩, trivial⟩⟩⟩⟩⟩⟩, ⟨trivial, trivial⟩⟩⟩)
    (Eq.mpr (by as_aux_lemma => kernel_rfl : evF prog f44 (s44_A Ψ) Ψ [(.agg [(.bool r_all), (.int .i64 r_low), (.bool r_gap)])] h = s44 Ψ r_all r_low r_gap h) H)

/- 45 dictum/nishimura.set -/
abbrev s45l1_T := AVal → AVal → Int → Int → Heap → Prop
def s45l1_R (F : s45l1_T) (l : List AVal) (h : Heap) : Prop := J.cons l fun x0 l => J.cons l fun x1 l => J.cons l fun v l => J.int .i64 v fun x2 => J.cons l fun v l => J.int .i64 v fun x3 => J.nil l (F x0 x1 x2 x3 h)
def s45l1_G (F : s45l1_T) (x0 x1 : AVal) (x2 x3 : Int) (h : Heap) : Prop := gJ [.any, .any, .int .i64, .int .i64] [x0, x1, (.int .i64 x2), (.int .i64 x3)] h (s45l1_R F)
def s45l1_E (F : Nat → s45l1_T) (x0 x1 : AVal) (x2 x3 : Int) (h : Heap) : Prop := gJ [.any, .any, .int .i64, .int .i64] [x0, x1, (.int .i64 x2), (.int .i64 x3)] h (fun l h => ∃ n, s45l1_R (F n) l h)
theorem s45l1_go {F : s45l1_T} {x0 x1 : AVal} {x2 x3 : Int} {h : Heap} (H : F x0 x1 x2 x3 h) : s45l1_G F x0 x1 x2 x3 h := gJ_plain rfl H
theorem s45l1_in {F : Nat → s45l1_T} {x0 x1 : AVal} {x2 x3 : Int} {h : Heap} (n : Nat) (H : F n x0 x1 x2 x3 h) : s45l1_E F x0 x1 x2 x3 h := gJ_plain rfl ⟨n, H⟩

def s45l1 (Ψ : AVal → Heap → Prop) : Nat → s45l1_T
  | 0, _, _, _, _, _ => False
  | n + 1, in_1, t4, t6, t7, h =>
    ifT (decide (t7 < t6)) (
      callV prog in_1 [(.int .i64 t7)] h fun v h_1 =>
      tBool v fun v1 =>
      ifT (!v1) (
        rg (t7 + 1) (
          callV prog in_1 [(.int .i64 (t7 + 1))] h_1 fun v2 h_2 =>
          tBool v2 fun v3 =>
          st false h_2 t4 [(.bool false), (.int .i64 t7), (.bool v3)] fun h_3 =>
          ldN 3 h_3 t4 fun l_ =>
          tCons l_ fun v4 l_1 =>
          tBool v4 fun v5 =>
          tCons l_1 fun v6 l_2 =>
          tInt .i64 v6 fun v7 =>
          tCons l_2 fun v8 l_3 =>
          tBool v8 fun v9 =>
          tNil l_3 (
            retG (.agg [(.bool v5), (.int .i64 v7), (.bool v9)]) h_3 Ψ))) (
        rg (t7 + 1) (
          s45l1_G (s45l1 Ψ n) in_1 t4 t6 (t7 + 1) h_1))) (
      st false h t4 [(.bool true), (.int .i64 0), (.bool false)] fun h_4 =>
      ldN 3 h_4 t4 fun l_4 =>
      tCons l_4 fun v10 l_5 =>
      tBool v10 fun v11 =>
      tCons l_5 fun v12 l_6 =>
      tInt .i64 v12 fun v13 =>
      tCons l_6 fun v14 l_7 =>
      tBool v14 fun v15 =>
      tNil l_7 (
        retG (.agg [(.bool v11), (.int .i64 v13), (.bool v15)]) h_4 Ψ))

def s45 (Ψ : AVal → Heap → Prop) (far : Int) (in_ : AVal) (h : Heap) : Prop :=
  Sym.newRow 3 [(.agg [(.bool false), (.int .i64 0), (.bool false)])] h fun r h_ =>
  s45l1_E (s45l1 Ψ) in_ (.ptr r 0 0) far 0 h_

def s45_A (Ψ : AVal → Heap → Prop) : Ann :=
  .seq (rA 1)
  (.seq (.seq (rA 2)
  (.block (.loop [(1, .any), (4, .any), (6, .int .i64), (7, .int .i64)] (fun n l h => s45l1_R (s45l1 Ψ n) l h) (fun L1 =>
  .seq (rA 1)
  (.seq (.cond (.leaf)
  (.leaf))
  (.seq (.block (.seq (rA 2)
  (.seq (rA 4)
  (.cond (.seq (rA 7)
  (.leaf))
  (.leaf)))))
  (rA 2)))))))
  (.seq (rA 2)
  (.leaf)))

theorem s45_ok {Ψ : AVal → Heap → Prop} {far : Int} {in_ : AVal} {h : Heap} (H : s45 Ψ far in_ h) : ACalls prog 45 [(.int .i64 far), in_] h Ψ :=
  calls_of_evF func45 (by kernel_rfl) (by kernel_rfl) (by kernel_rfl)
    (Eq.mpr (by as_aux_lemma => kernel_rfl : oblF prog f45 (s45_A Ψ) Ψ = (True ∧ (True ∧ (∀ (h : Heap) (x0 x1 : AVal) (x2 x3 : Int), ON (s45l1 Ψ 0 x0 x1 x2 x3 h)) ∧ ∀ n1 : Nat, (∀ (h : Heap) (x0 x1 : AVal) (x2 x3 : Int), OI (s45l1 Ψ (n1 + 1) x0 x1 x2 x3 h)) ∧ (True ∧ (True ∧ True) ∧ (True ∧ True ∧ (True ∧ True) ∧ True) ∧ True)) ∧ True ∧ True)) ⟨trivial, ⟨⟨trivial, ⟨fun _ _ _ _ _ H => H, fun _ => ⟨fun _ _ _ _ _ H => H, ⟨trivial, ⟨⟨trivial, trivial⟩, ⟨⟨trivial, ⟨trivial, ⟨⟨trivial, trivial⟩, trivial⟩⟩⟩, trivial⟩⟩⟩⟩⟩⟩, ⟨trivial, trivial⟩⟩⟩)
    (Eq.mpr (by as_aux_lemma => kernel_rfl : evF prog f45 (s45_A Ψ) Ψ [(.int .i64 far), in_] h = s45 Ψ far in_ h) H)

/- 46 dictum/nishimura.far -/
def s46 (Ψ : AVal → Heap → Prop) (a_all : Bool) (a_low : Int) (a_gap : Bool) (b_all : Bool) (b_low : Int) (b_gap : Bool) (h : Heap) : Prop :=
  callG prog 64 [(.lsl 1 [(.int .i64 a_low), (.int .i64 b_low)])] h fun v h_ =>
  tInt .i64 v fun v1 =>
  rg (v1 + 3) (
    retG (.int .i64 (v1 + 3)) h_ Ψ)

def s46_A (Ψ : AVal → Heap → Prop) : Ann :=
  .seq (.reg [⟨none, [(0, true), (1, true), (2, false)]⟩])
  (.seq (.reg [⟨none, [(0, false), (1, false), (2, false), (3, false), (4, true), (5, false), (6, false), (7, false)]⟩])
  (.leaf))

theorem s46_ok {Ψ : AVal → Heap → Prop} {a_all : Bool} {a_low : Int} {a_gap : Bool} {b_all : Bool} {b_low : Int} {b_gap : Bool} {h : Heap} (H : s46 Ψ a_all a_low a_gap b_all b_low b_gap h) : ACalls prog 46 [(.agg [(.bool a_all), (.int .i64 a_low), (.bool a_gap)]), (.agg [(.bool b_all), (.int .i64 b_low), (.bool b_gap)])] h Ψ :=
  calls_of_evF func46 (by kernel_rfl) (by kernel_rfl) (by kernel_rfl)
    (Eq.mpr (by as_aux_lemma => kernel_rfl : oblF prog f46 (s46_A Ψ) Ψ = (True ∧ True ∧ True)) ⟨trivial, ⟨trivial, trivial⟩⟩)
    (Eq.mpr (by as_aux_lemma => kernel_rfl : evF prog f46 (s46_A Ψ) Ψ [(.agg [(.bool a_all), (.int .i64 a_low), (.bool a_gap)]), (.agg [(.bool b_all), (.int .i64 b_low), (.bool b_gap)])] h = s46 Ψ a_all a_low a_gap b_all b_low b_gap h) H)

/- 47 dictum/nishimura.meet$1 -/
def s47 (Ψ : AVal → Heap → Prop) (w : Int) (c0 : AVal) (c1 : AVal) (h : Heap) : Prop :=
  ldN 3 h c0 fun l_ =>
  tCons l_ fun v l_1 =>
  tBool v fun v1 =>
  tCons l_1 fun v2 l_2 =>
  tInt .i64 v2 fun v3 =>
  tCons l_2 fun v4 l_3 =>
  tBool v4 fun v5 =>
  tNil l_3 (
    callG prog 48 [(.agg [(.bool v1), (.int .i64 v3), (.bool v5)]), (.int .i64 w)] h fun v6 h_ =>
    tBool v6 fun v7 =>
    ifT v7 (
      ldN 3 h_ c1 fun l_4 =>
      tCons l_4 fun v8 l_5 =>
      tBool v8 fun v9 =>
      tCons l_5 fun v10 l_6 =>
      tInt .i64 v10 fun v11 =>
      tCons l_6 fun v12 l_7 =>
      tBool v12 fun v13 =>
      tNil l_7 (
        callG prog 48 [(.agg [(.bool v9), (.int .i64 v11), (.bool v13)]), (.int .i64 w)] h_ fun v14 h_1 =>
        tBool v14 fun v15 =>
        retG (.bool v15) h_1 Ψ)) (
      retG (.bool false) h_ Ψ))

def s47_A (Ψ : AVal → Heap → Prop) : Ann :=
  .seq (rA 1)
  (.seq (.reg [⟨none, [(0, false), (1, false), (2, false), (3, false)]⟩, ⟨some (8, true), [(4, false), (5, false), (6, false)]⟩, ⟨none, [(7, false), (8, false)]⟩])
  (.leaf))

theorem s47_ok {Ψ : AVal → Heap → Prop} {w : Int} {c0 : AVal} {c1 : AVal} {h : Heap} (H : s47 Ψ w c0 c1 h) : ACalls prog 47 [(.int .i64 w), c0, c1] h Ψ :=
  calls_of_evF func47 (by kernel_rfl) (by kernel_rfl) (by kernel_rfl)
    (Eq.mpr (by as_aux_lemma => kernel_rfl : oblF prog f47 (s47_A Ψ) Ψ = (True ∧ True ∧ True)) ⟨trivial, ⟨trivial, trivial⟩⟩)
    (Eq.mpr (by as_aux_lemma => kernel_rfl : evF prog f47 (s47_A Ψ) Ψ [(.int .i64 w), c0, c1] h = s47 Ψ w c0 c1 h) H)

/- 48 (dictum/nishimura.rung).has -/
def s48 (Ψ : AVal → Heap → Prop) (r_all : Bool) (r_low : Int) (r_gap : Bool) (w : Int) (h : Heap) : Prop :=
  ifT r_all (
    retG (.bool true) h Ψ) (
    ifT (decide (w < r_low)) (
      retG (.bool true) h Ψ) (
      ifT r_gap (
        rg (r_low + 1) (
          retG (.bool (w == (r_low + 1))) h Ψ)) (
        retG (.bool false) h Ψ)))

def s48_A (Ψ : AVal → Heap → Prop) : Ann :=
  .seq (.reg [⟨none, [(0, true), (1, false)]⟩])
  (.seq (.reg [⟨none, [(0, false), (1, false), (2, false)]⟩, ⟨some (7, false), [(3, false), (4, false), (5, false), (6, false)]⟩, ⟨none, [(7, false), (8, false)]⟩, ⟨some (13, false), [(9, false), (10, false), (11, false)]⟩, ⟨some (16, true), [(12, false), (13, false), (14, false), (15, false), (16, false)]⟩, ⟨some (13, false), [(17, false)]⟩, ⟨none, [(18, false), (19, false)]⟩])
  (.leaf))

theorem s48_ok {Ψ : AVal → Heap → Prop} {r_all : Bool} {r_low : Int} {r_gap : Bool} {w : Int} {h : Heap} (H : s48 Ψ r_all r_low r_gap w h) : ACalls prog 48 [(.agg [(.bool r_all), (.int .i64 r_low), (.bool r_gap)]), (.int .i64 w)] h Ψ :=
  calls_of_evF func48 (by kernel_rfl) (by kernel_rfl) (by kernel_rfl)
    (Eq.mpr (by as_aux_lemma => kernel_rfl : oblF prog f48 (s48_A Ψ) Ψ = (True ∧ True ∧ True)) ⟨trivial, ⟨trivial, trivial⟩⟩)
    (Eq.mpr (by as_aux_lemma => kernel_rfl : evF prog f48 (s48_A Ψ) Ψ [(.agg [(.bool r_all), (.int .i64 r_low), (.bool r_gap)]), (.int .i64 w)] h = s48 Ψ r_all r_low r_gap w h) H)

/- 49 dictum/dictumref26.named -/
abbrev s49l1_T := AVal → Int → Bool → Int → Heap → Prop
def s49l1_R (F : s49l1_T) (l : List AVal) (h : Heap) : Prop := J.cons l fun x0 l => J.cons l fun v l => J.int .i64 v fun x1 => J.cons l fun v l => J.bool v fun x2 => J.cons l fun v l => J.int .i64 v fun x3 => J.nil l (F x0 x1 x2 x3 h)
def s49l1_G (F : s49l1_T) (x0 : AVal) (x1 : Int) (x2 : Bool) (x3 : Int) (h : Heap) : Prop := gJ [.any, .int .i64, .bool, .int .i64] [x0, (.int .i64 x1), (.bool x2), (.int .i64 x3)] h (s49l1_R F)
def s49l1_E (F : Nat → s49l1_T) (x0 : AVal) (x1 : Int) (x2 : Bool) (x3 : Int) (h : Heap) : Prop := gJ [.any, .int .i64, .bool, .int .i64] [x0, (.int .i64 x1), (.bool x2), (.int .i64 x3)] h (fun l h => ∃ n, s49l1_R (F n) l h)
theorem s49l1_go {F : s49l1_T} {x0 : AVal} {x1 : Int} {x2 : Bool} {x3 : Int} {h : Heap} (H : F x0 x1 x2 x3 h) : s49l1_G F x0 x1 x2 x3 h := gJ_plain rfl H
theorem s49l1_in {F : Nat → s49l1_T} {x0 : AVal} {x1 : Int} {x2 : Bool} {x3 : Int} {h : Heap} (n : Nat) (H : F n x0 x1 x2 x3 h) : s49l1_E F x0 x1 x2 x3 h := gJ_plain rfl ⟨n, H⟩

def s49c2 (Ψ : AVal → Heap → Prop) (L1 : s49l1_T) (in_2 : AVal) (n3 : Int) (all1 : Bool) (w1 : Int) (h : Heap) : Prop :=
  rg (w1 + 1) (
    L1 in_2 n3 all1 (w1 + 1) h)

abbrev s49l3_T := AVal → Int → Int → Heap → Prop
def s49l3_R (F : s49l3_T) (l : List AVal) (h : Heap) : Prop := J.cons l fun x0 l => J.cons l fun v l => J.int .i64 v fun x1 => J.cons l fun v l => J.int .i64 v fun x2 => J.nil l (F x0 x1 x2 h)
def s49l3_G (F : s49l3_T) (x0 : AVal) (x1 x2 : Int) (h : Heap) : Prop := gJ [.any, .int .i64, .int .i64] [x0, (.int .i64 x1), (.int .i64 x2)] h (s49l3_R F)
def s49l3_E (F : Nat → s49l3_T) (x0 : AVal) (x1 x2 : Int) (h : Heap) : Prop := gJ [.any, .int .i64, .int .i64] [x0, (.int .i64 x1), (.int .i64 x2)] h (fun l h => ∃ n, s49l3_R (F n) l h)
theorem s49l3_go {F : s49l3_T} {x0 : AVal} {x1 x2 : Int} {h : Heap} (H : F x0 x1 x2 h) : s49l3_G F x0 x1 x2 h := gJ_plain rfl H
theorem s49l3_in {F : Nat → s49l3_T} {x0 : AVal} {x1 x2 : Int} {h : Heap} (n : Nat) (H : F n x0 x1 x2 h) : s49l3_E F x0 x1 x2 h := gJ_plain rfl ⟨n, H⟩

abbrev s49l4_T := AVal → Int → Int → Bool → Int → Heap → Prop
def s49l4_R (F : s49l4_T) (l : List AVal) (h : Heap) : Prop := J.cons l fun x0 l => J.cons l fun v l => J.int .i64 v fun x1 => J.cons l fun v l => J.int .i64 v fun x2 => J.cons l fun v l => J.bool v fun x3 => J.cons l fun v l => J.int .i64 v fun x4 => J.nil l (F x0 x1 x2 x3 x4 h)
def s49l4_G (F : s49l4_T) (x0 : AVal) (x1 x2 : Int) (x3 : Bool) (x4 : Int) (h : Heap) : Prop := gJ [.any, .int .i64, .int .i64, .bool, .int .i64] [x0, (.int .i64 x1), (.int .i64 x2), (.bool x3), (.int .i64 x4)] h (s49l4_R F)
def s49l4_E (F : Nat → s49l4_T) (x0 : AVal) (x1 x2 : Int) (x3 : Bool) (x4 : Int) (h : Heap) : Prop := gJ [.any, .int .i64, .int .i64, .bool, .int .i64] [x0, (.int .i64 x1), (.int .i64 x2), (.bool x3), (.int .i64 x4)] h (fun l h => ∃ n, s49l4_R (F n) l h)
theorem s49l4_go {F : s49l4_T} {x0 : AVal} {x1 x2 : Int} {x3 : Bool} {x4 : Int} {h : Heap} (H : F x0 x1 x2 x3 x4 h) : s49l4_G F x0 x1 x2 x3 x4 h := gJ_plain rfl H
theorem s49l4_in {F : Nat → s49l4_T} {x0 : AVal} {x1 x2 : Int} {x3 : Bool} {x4 : Int} {h : Heap} (n : Nat) (H : F n x0 x1 x2 x3 x4 h) : s49l4_E F x0 x1 x2 x3 x4 h := gJ_plain rfl ⟨n, H⟩

def s49c5 (Ψ : AVal → Heap → Prop) (L3 : s49l3_T) (L4 : s49l4_T) (in_5 : AVal) (n8 k2 : Int) (same1 : Bool) (w3 : Int) (t36 : Bool) (h : Heap) : Prop :=
  ifT t36 (
    ixS 1 in_5 w3 fun p1 =>
    ld1 h p1 fun v2 =>
    tBool v2 fun v3 =>
    callG prog 43 [(.int .i64 k2), (.int .i64 w3)] h fun v4 h_ =>
    tBool v4 fun v5 =>
    (ld1 h_ p1 fun v6 =>
    v6 = (.bool v3)) ∧
    eqQ prog 4 (.bool v5) (.bool v3) fun b =>
    rg (w3 + 1) (
      L4 in_5 n8 k2 b (w3 + 1) h_)) (
    ifT same1 (
      retG (.tuple [(.int .i64 k2), (.bool true)]) h Ψ) (
      rg (k2 + 1) (
        L3 in_5 n8 (k2 + 1) h)))

def s49l4 (Ψ : AVal → Heap → Prop) (L3 : s49l3_T) : Nat → s49l4_T
  | 0, _, _, _, _, _, _ => False
  | n7 + 1, in_4, n6, k1, same, w2, h =>
    ifT (decide (w2 < n6)) (
      s49c5 Ψ L3 (s49l4_G (s49l4 Ψ L3 n7)) in_4 n6 k1 same w2 same h) (
      s49c5 Ψ L3 (s49l4_G (s49l4 Ψ L3 n7)) in_4 n6 k1 same w2 false h)

def s49l3 (Ψ : AVal → Heap → Prop) : Nat → s49l3_T
  | 0, _, _, _, _ => False
  | n5 + 1, in_3, n4, k, h =>
    rg (2 * n4) (
      ifT (decide (k < (2 * n4))) (
        s49l4_E (s49l4 Ψ (s49l3_G (s49l3 Ψ n5))) in_3 n4 k true 0 h) (
        retG (.tuple [(.int .i64 0), (.bool false)]) h Ψ))

def s49l1 (Ψ : AVal → Heap → Prop) : Nat → s49l1_T
  | 0, _, _, _, _, _ => False
  | n2 + 1, in_1, n1, all, w, h =>
    ifT (decide (w < n1)) (
      ifT all (
        ixS 1 in_1 w fun p =>
        ld1 h p fun v =>
        tBool v fun v1 =>
        s49c2 Ψ (s49l1_G (s49l1 Ψ n2)) in_1 n1 v1 w h) (
        s49c2 Ψ (s49l1_G (s49l1 Ψ n2)) in_1 n1 false w h)) (
      ifT all (
        retG (.tuple [(.int .i64 (-1)), (.bool true)]) h Ψ) (
        s49l3_E (s49l3 Ψ) in_1 n1 0 h))

def s49 (Ψ : AVal → Heap → Prop) (in_ : AVal) (h : Heap) : Prop :=
  lenN in_ fun n =>
  s49l1_E (s49l1 Ψ) in_ n true 0 h

def s49_A (Ψ : AVal → Heap → Prop) : Ann :=
  .seq (rA 2)
  (.seq (rA 3)
  (.seq (rA 1)
  (.seq (.seq (rA 1)
  (.block (.loop [(0, .any), (4, .int .i64), (5, .bool), (6, .int .i64)] (fun n l h => s49l1_R (s49l1 Ψ n) l h) (fun L1 =>
  .seq (.seq (rA 3)
  (.cond (.leaf)
  (.leaf)))
  (.cut [(0, .any), (4, .int .i64), (5, .bool), (6, .int .i64)] (fun l h => J.cons l fun x0 l => J.cons l fun v l => J.int .i64 v fun x1 => J.cons l fun v l => J.bool v fun x2 => J.cons l fun v l => J.int .i64 v fun x3 => J.nil l (s49c2 Ψ (fun y0 y1 y2 y3 h => L1 [y0, (.int .i64 y1), (.bool y2), (.int .i64 y3)] h) x0 x1 x2 x3 h)) (.block (.reg [⟨none, [(0, false), (1, false)]⟩, ⟨some (18, true), [(2, false), (3, false), (4, false), (5, false)]⟩, ⟨none, [(6, false), (7, false)]⟩]))
  (rA 3))))))
  (.seq (.seq (rA 1)
  (.cond (.seq (rA 2)
  (.leaf))
  (.leaf)))
  (.seq (.seq (rA 1)
  (.block (.loop [(0, .any), (4, .int .i64), (7, .int .i64)] (fun n l h => s49l3_R (s49l3 Ψ n) l h) (fun L3 =>
  .seq (.seq (rA 4)
  (.cond (.leaf)
  (.leaf)))
  (.seq (.block (.seq (rA 1)
  (.seq (.seq (rA 1)
  (.block (.loop [(0, .any), (4, .int .i64), (7, .int .i64), (8, .bool), (9, .int .i64)] (fun n l h => s49l4_R (s49l4 Ψ (fun y0 y1 y2 h => L3 [y0, (.int .i64 y1), (.int .i64 y2)] h) n) l h) (fun L4 =>
  .seq (.cut [(0, .any), (4, .int .i64), (7, .int .i64), (8, .bool), (9, .int .i64), (36, .bool)] (fun l h => J.cons l fun x0 l => J.cons l fun v l => J.int .i64 v fun x1 => J.cons l fun v l => J.int .i64 v fun x2 => J.cons l fun v l => J.bool v fun x3 => J.cons l fun v l => J.int .i64 v fun x4 => J.cons l fun v l => J.bool v fun x5 => J.nil l (s49c5 Ψ (fun y0 y1 y2 h => L3 [y0, (.int .i64 y1), (.int .i64 y2)] h) (fun y0 y1 y2 y3 y4 h => L4 [y0, (.int .i64 y1), (.int .i64 y2), (.bool y3), (.int .i64 y4)] h) x0 x1 x2 x3 x4 x5 h)) (.reg [⟨none, [(0, false), (1, false), (2, false), (3, false)]⟩, ⟨some (34, true), [(4, false)]⟩, ⟨none, [(5, false)]⟩])
  (.cond (.leaf)
  (.leaf)))
  (.seq (.block (.draw [(0, false), (1, false), (3, false), (4, false), (5, false), (6, false), (2, false), (7, false), (8, false)] [0, 0, 3, 0, 0, 24, 56, 127, 255]))
  (rA 3))))))
  (.seq (rA 1)
  (.cond (.seq (rA 3)
  (.leaf))
  (.leaf))))))
  (rA 3))))))
  (.seq (rA 2)
  (.leaf)))))))

theorem s49_ok {Ψ : AVal → Heap → Prop} {in_ : AVal} {h : Heap} (H : s49 Ψ in_ h) : ACalls prog 49 [in_] h Ψ :=
  calls_of_evF func49 (by kernel_rfl) (by kernel_rfl) (by kernel_rfl)
    (Eq.mpr (by as_aux_lemma => kernel_rfl : oblF prog f49 (s49_A Ψ) Ψ = (True ∧ True ∧ True ∧ (True ∧ (∀ (h : Heap) (x0 : AVal) (x1 : Int) (x2 : Bool) (x3 : Int), ON (s49l1 Ψ 0 x0 x1 x2 x3 h)) ∧ ∀ n1 : Nat, (∀ (h : Heap) (x0 : AVal) (x1 : Int) (x2 : Bool) (x3 : Int), OI (s49l1 Ψ (n1 + 1) x0 x1 x2 x3 h)) ∧ ((True ∧ True ∧ True) ∧ (True) ∧ (∀ (h : Heap) (x0 : AVal) (x1 : Int) (x2 : Bool) (x3 : Int), OI (s49c2 Ψ (s49l1_G (s49l1 Ψ n1)) x0 x1 x2 x3 h)) ∧ (True))) ∧ (True ∧ (True ∧ True) ∧ True) ∧ (True ∧ (∀ (h : Heap) (x0 : AVal) (x1 x2 : Int), ON (s49l3 Ψ 0 x0 x1 x2 h)) ∧ ∀ n3 : Nat, (∀ (h : Heap) (x0 : AVal) (x1 x2 : Int), OI (s49l3 Ψ (n3 + 1) x0 x1 x2 h)) ∧ ((True ∧ True ∧ True) ∧ (True ∧ (True ∧ (∀ (h : Heap) (x0 : AVal) (x1 x2 : Int) (x3 : Bool) (x4 : Int), ON (s49l4 Ψ (s49l3_G (s49l3 Ψ n3)) 0 x0 x1 x2 x3 x4 h)) ∧ ∀ n4 : Nat, (∀ (h : Heap) (x0 : AVal) (x1 x2 : Int) (x3 : Bool) (x4 : Int), OI (s49l4 Ψ (s49l3_G (s49l3 Ψ n3)) (n4 + 1) x0 x1 x2 x3 x4 h)) ∧ (((True) ∧ (∀ (h : Heap) (x0 : AVal) (x1 x2 : Int) (x3 : Bool) (x4 : Int) (x5 : Bool), OI (s49c5 Ψ (s49l3_G (s49l3 Ψ n3)) (s49l4_G (s49l4 Ψ (s49l3_G (s49l3 Ψ n3)) n4)) x0 x1 x2 x3 x4 x5 h)) ∧ (True ∧ True)) ∧ True ∧ True)) ∧ True ∧ (True ∧ True) ∧ True) ∧ True)) ∧ True ∧ True)) ⟨trivial, ⟨trivial, ⟨trivial, ⟨⟨trivial, ⟨fun _ _ _ _ _ H => H, fun _ => ⟨fun _ _ _ _ _ H => H, ⟨⟨trivial, ⟨trivial, trivial⟩⟩, ⟨trivial, fun _ _ _ _ _ H => H, trivial⟩⟩⟩⟩⟩, ⟨⟨trivial, ⟨⟨trivial, trivial⟩, trivial⟩⟩, ⟨⟨trivial, ⟨fun _ _ _ _ H => H, fun _ => ⟨fun _ _ _ _ H => H, ⟨⟨trivial, ⟨trivial, trivial⟩⟩, ⟨⟨trivial, ⟨⟨trivial, ⟨fun _ _ _ _ _ _ H => H, fun _ => ⟨fun _ _ _ _ _ _ H => H, ⟨⟨trivial, fun _ _ _ _ _ _ _ H => H, ⟨trivial, trivial⟩⟩, ⟨trivial, trivial⟩⟩⟩⟩⟩, ⟨trivial, ⟨⟨trivial, trivial⟩, trivial⟩⟩⟩⟩, trivial⟩⟩⟩⟩⟩, ⟨trivial, trivial⟩⟩⟩⟩⟩⟩⟩)
    (Eq.mpr (by as_aux_lemma => kernel_rfl : evF prog f49 (s49_A Ψ) Ψ [in_] h = s49 Ψ in_ h) H)

/- 50 dictum/nishimura.join$1 -/
def s50 (Ψ : AVal → Heap → Prop) (w : Int) (c0 : AVal) (c1 : AVal) (h : Heap) : Prop :=
  ldN 3 h c0 fun l_ =>
  tCons l_ fun v l_1 =>
  tBool v fun v1 =>
  tCons l_1 fun v2 l_2 =>
  tInt .i64 v2 fun v3 =>
  tCons l_2 fun v4 l_3 =>
  tBool v4 fun v5 =>
  tNil l_3 (
    callG prog 48 [(.agg [(.bool v1), (.int .i64 v3), (.bool v5)]), (.int .i64 w)] h fun v6 h_ =>
    tBool v6 fun v7 =>
    ifT v7 (
      retG (.bool true) h_ Ψ) (
      ldN 3 h_ c1 fun l_4 =>
      tCons l_4 fun v8 l_5 =>
      tBool v8 fun v9 =>
      tCons l_5 fun v10 l_6 =>
      tInt .i64 v10 fun v11 =>
      tCons l_6 fun v12 l_7 =>
      tBool v12 fun v13 =>
      tNil l_7 (
        callG prog 48 [(.agg [(.bool v9), (.int .i64 v11), (.bool v13)]), (.int .i64 w)] h_ fun v14 h_1 =>
        tBool v14 fun v15 =>
        retG (.bool v15) h_1 Ψ)))

def s50_A (Ψ : AVal → Heap → Prop) : Ann :=
  .seq (rA 1)
  (.seq (.reg [⟨none, [(0, false), (1, false), (2, false), (3, false)]⟩, ⟨some (8, false), [(4, false), (5, false), (6, false)]⟩, ⟨none, [(7, false), (8, false)]⟩])
  (.leaf))

theorem s50_ok {Ψ : AVal → Heap → Prop} {w : Int} {c0 : AVal} {c1 : AVal} {h : Heap} (H : s50 Ψ w c0 c1 h) : ACalls prog 50 [(.int .i64 w), c0, c1] h Ψ :=
  calls_of_evF func50 (by kernel_rfl) (by kernel_rfl) (by kernel_rfl)
    (Eq.mpr (by as_aux_lemma => kernel_rfl : oblF prog f50 (s50_A Ψ) Ψ = (True ∧ True ∧ True)) ⟨trivial, ⟨trivial, trivial⟩⟩)
    (Eq.mpr (by as_aux_lemma => kernel_rfl : evF prog f50 (s50_A Ψ) Ψ [(.int .i64 w), c0, c1] h = s50 Ψ w c0 c1 h) H)

/- 51 dictum/nishimura.imp$1 -/
def s51 (Ψ : AVal → Heap → Prop) (w : Int) (c0 : AVal) (c1 : AVal) (h : Heap) : Prop :=
  ldN 3 h c0 fun l_ =>
  tCons l_ fun v l_1 =>
  tBool v fun v1 =>
  tCons l_1 fun v2 l_2 =>
  tInt .i64 v2 fun v3 =>
  tCons l_2 fun v4 l_3 =>
  tBool v4 fun v5 =>
  tNil l_3 (
    callG prog 48 [(.agg [(.bool v1), (.int .i64 v3), (.bool v5)]), (.int .i64 w)] h fun v6 h_ =>
    tBool v6 fun v7 =>
    ifT v7 (
      ldN 3 h_ c1 fun l_4 =>
      tCons l_4 fun v8 l_5 =>
      tBool v8 fun v9 =>
      tCons l_5 fun v10 l_6 =>
      tInt .i64 v10 fun v11 =>
      tCons l_6 fun v12 l_7 =>
      tBool v12 fun v13 =>
      tNil l_7 (
        callG prog 48 [(.agg [(.bool v9), (.int .i64 v11), (.bool v13)]), (.int .i64 w)] h_ fun v14 h_1 =>
        tBool v14 fun v15 =>
        retG (.bool (!v15)) h_1 Ψ)) (
      retG (.bool false) h_ Ψ))

def s51_A (Ψ : AVal → Heap → Prop) : Ann :=
  .seq (rA 1)
  (.seq (.reg [⟨none, [(0, false), (1, false), (2, false), (3, false)]⟩, ⟨some (8, true), [(4, false), (5, false), (6, false), (7, false)]⟩, ⟨none, [(8, false), (9, false)]⟩])
  (.leaf))

theorem s51_ok {Ψ : AVal → Heap → Prop} {w : Int} {c0 : AVal} {c1 : AVal} {h : Heap} (H : s51 Ψ w c0 c1 h) : ACalls prog 51 [(.int .i64 w), c0, c1] h Ψ :=
  calls_of_evF func51 (by kernel_rfl) (by kernel_rfl) (by kernel_rfl)
    (Eq.mpr (by as_aux_lemma => kernel_rfl : oblF prog f51 (s51_A Ψ) Ψ = (True ∧ True ∧ True)) ⟨trivial, ⟨trivial, trivial⟩⟩)
    (Eq.mpr (by as_aux_lemma => kernel_rfl : evF prog f51 (s51_A Ψ) Ψ [(.int .i64 w), c0, c1] h = s51 Ψ w c0 c1 h) H)

/- 52 (*dictum/formula.Table).Copy -/
abbrev s52l1_T := AVal → AVal → Int → Int → Heap → Prop
def s52l1_R (F : s52l1_T) (l : List AVal) (h : Heap) : Prop := J.cons l fun x0 l => J.cons l fun x1 l => J.cons l fun v l => J.int .i64 v fun x2 => J.cons l fun v l => J.int .i64 v fun x3 => J.nil l (F x0 x1 x2 x3 h)
def s52l1_G (F : s52l1_T) (x0 x1 : AVal) (x2 x3 : Int) (h : Heap) : Prop := gJ [.any, .any, .int .i64, .int .i64] [x0, x1, (.int .i64 x2), (.int .i64 x3)] h (s52l1_R F)
def s52l1_E (F : Nat → s52l1_T) (x0 x1 : AVal) (x2 x3 : Int) (h : Heap) : Prop := gJ [.any, .any, .int .i64, .int .i64] [x0, x1, (.int .i64 x2), (.int .i64 x3)] h (fun l h => ∃ n, s52l1_R (F n) l h)
theorem s52l1_go {F : s52l1_T} {x0 x1 : AVal} {x2 x3 : Int} {h : Heap} (H : F x0 x1 x2 x3 h) : s52l1_G F x0 x1 x2 x3 h := gJ_plain rfl H
theorem s52l1_in {F : Nat → s52l1_T} {x0 x1 : AVal} {x2 x3 : Int} {h : Heap} (n : Nat) (H : F n x0 x1 x2 x3 h) : s52l1_E F x0 x1 x2 x3 h := gJ_plain rfl ⟨n, H⟩

def s52l1 (Ψ : AVal → Heap → Prop) : Nat → s52l1_T
  | 0, _, _, _, _, _ => False
  | n1 + 1, c, t13, t14, t15, h =>
    ifT (decide (t15 < t14)) (
      ixS 4 t13 t15 fun p2 =>
      ldN 4 h p2 fun l_ =>
      tCons l_ fun v4 l_1 =>
      tInt .i64 v4 fun v5 =>
      tCons l_1 fun v6 l_2 =>
      tStr v6 fun v7 =>
      tCons l_2 fun v8 l_3 =>
      tInt .i64 v8 fun v9 =>
      tCons l_3 fun v10 l_4 =>
      tInt .i64 v10 fun v11 =>
      tNil l_4 (
        Sym.newRow 4 [(.agg [(.int .i64 0), (.str (ByteArray.mk #[])), (.int .i64 0), (.int .i64 0)])] h fun r h_2 =>
        st false h_2 (.ptr r 0 0) [(.int .i64 v5), (.str v7), (.int .i64 v9), (.int .i64 v11)] fun h_3 =>
        nilCheckA c fun p3 =>
        addOff p3 0 fun p4 =>
        ld1 h_3 p4 fun v12 =>
        ldN 4 h_3 (.ptr r 0 0) fun l_5 =>
        tCons l_5 fun v13 l_6 =>
        tInt .i64 v13 fun v14 =>
        tCons l_6 fun v15 l_7 =>
        tStr v15 fun v16 =>
        tCons l_7 fun v17 l_8 =>
        tInt .i64 v17 fun v18 =>
        tCons l_8 fun v19 l_9 =>
        tInt .i64 v19 fun v20 =>
        tNil l_9 (
          (ld1 h_3 p4 fun v21 =>
          v21 = v12) ∧
          appC 4 40 h_3 v12 (.lsl 4 [(.agg [(.int .i64 v14), (.str v16), (.int .i64 v18), (.int .i64 v20)])]) fun v22 h_4 =>
          nilCheckA c fun p5 =>
          addOff p5 0 fun p6 =>
          chk (sc v22) (
            st true h_4 p6 [v22] fun h_5 =>
            nilCheckA c fun p7 =>
            addOff p7 1 fun p8 =>
            ld1 h_5 p8 fun v23 =>
            ldN 4 h_5 (.ptr r 0 0) fun l_10 =>
            tCons l_10 fun v24 l_11 =>
            tInt .i64 v24 fun v25 =>
            tCons l_11 fun v26 l_12 =>
            tStr v26 fun v27 =>
            tCons l_12 fun v28 l_13 =>
            tInt .i64 v28 fun v29 =>
            tCons l_13 fun v30 l_14 =>
            tInt .i64 v30 fun v31 =>
            tNil l_14 (
              mapPut h_5 v23 (.agg [(.int .i64 v25), (.str v27), (.int .i64 v29), (.int .i64 v31)]) (.int .i64 t15) fun h_6 =>
              rg (t15 + 1) (
                s52l1_G (s52l1 Ψ n1) c t13 t14 (t15 + 1) h_6)))))) (
      retG c h Ψ)

def s52 (Ψ : AVal → Heap → Prop) (t : AVal) (h : Heap) : Prop :=
  callG prog 58 [t] h fun v h_ =>
  tBool v fun v1 =>
  ifT (!v1) (
    retG .nilptr h_ Ψ) (
    callG prog 33 [] h_ fun v2 h_1 =>
    nilCheckA t fun p =>
    addOff p 0 fun p1 =>
    ld1 h_1 p1 fun v3 =>
    lenN v3 fun n =>
    s52l1_E (s52l1 Ψ) v2 v3 n 0 h_1)

def s52_A (Ψ : AVal → Heap → Prop) : Ann :=
  .seq (rA 1)
  (.seq (.seq (rA 3)
  (.cond (.seq (rA 1)
  (.leaf))
  (.leaf)))
  (.seq (rA 2)
  (.seq (.seq (rA 6)
  (.block (.loop [(3, .any), (13, .any), (14, .int .i64), (15, .int .i64)] (fun n l h => s52l1_R (s52l1 Ψ n) l h) (fun L1 =>
  .seq (rA 1)
  (.seq (.cond (.leaf)
  (.leaf))
  (.seq (.block (.seq (rA 6)
  (.seq (.draw [(0, false), (1, false), (2, false), (3, false), (4, false), (5, false), (6, true), (7, false), (8, false), (9, false), (10, false)] [0, 0, 2, 6, 14, 0, 32, 126, 255, 511, 1023])
  (.draw [(0, false), (1, false), (2, false), (3, false), (4, false), (5, false), (6, false)] [0, 1, 3, 7, 0, 0, 63]))))
  (rA 2)))))))
  (.seq (rA 2)
  (.leaf)))))

theorem s52_ok {Ψ : AVal → Heap → Prop} {t : AVal} {h : Heap} (H : s52 Ψ t h) : ACalls prog 52 [t] h Ψ :=
  calls_of_evF func52 (by kernel_rfl) (by kernel_rfl) (by kernel_rfl)
    (Eq.mpr (by as_aux_lemma => kernel_rfl : oblF prog f52 (s52_A Ψ) Ψ = (True ∧ (True ∧ (True ∧ True) ∧ True) ∧ True ∧ (True ∧ (∀ (h : Heap) (x0 x1 : AVal) (x2 x3 : Int), ON (s52l1 Ψ 0 x0 x1 x2 x3 h)) ∧ ∀ n1 : Nat, (∀ (h : Heap) (x0 x1 : AVal) (x2 x3 : Int), OI (s52l1 Ψ (n1 + 1) x0 x1 x2 x3 h)) ∧ (True ∧ (True ∧ True) ∧ (True ∧ True ∧ True) ∧ True)) ∧ True ∧ True)) ⟨trivial, ⟨⟨trivial, ⟨⟨trivial, trivial⟩, trivial⟩⟩, ⟨trivial, ⟨⟨trivial, ⟨fun _ _ _ _ _ H => H, fun _ => ⟨fun _ _ _ _ _ H => H, ⟨trivial, ⟨⟨trivial, trivial⟩, ⟨⟨trivial, ⟨trivial, trivial⟩⟩, trivial⟩⟩⟩⟩⟩⟩, ⟨trivial, trivial⟩⟩⟩⟩⟩)
    (Eq.mpr (by as_aux_lemma => kernel_rfl : evF prog f52 (s52_A Ψ) Ψ [t] h = s52 Ψ t h) H)

/- 56 dictum/measure.Atoms -/
abbrev s56l1_T := AVal → AVal → AVal → Int → Int → Heap → Prop
def s56l1_R (F : s56l1_T) (l : List AVal) (h : Heap) : Prop := J.cons l fun x0 l => J.cons l fun x1 l => J.cons l fun x2 l => J.cons l fun v l => J.int .i64 v fun x3 => J.cons l fun v l => J.int .i64 v fun x4 => J.nil l (F x0 x1 x2 x3 x4 h)
def s56l1_G (F : s56l1_T) (x0 x1 x2 : AVal) (x3 x4 : Int) (h : Heap) : Prop := gJ [.any, .any, .any, .int .i64, .int .i64] [x0, x1, x2, (.int .i64 x3), (.int .i64 x4)] h (s56l1_R F)
def s56l1_E (F : Nat → s56l1_T) (x0 x1 x2 : AVal) (x3 x4 : Int) (h : Heap) : Prop := gJ [.any, .any, .any, .int .i64, .int .i64] [x0, x1, x2, (.int .i64 x3), (.int .i64 x4)] h (fun l h => ∃ n, s56l1_R (F n) l h)
theorem s56l1_go {F : s56l1_T} {x0 x1 x2 : AVal} {x3 x4 : Int} {h : Heap} (H : F x0 x1 x2 x3 x4 h) : s56l1_G F x0 x1 x2 x3 x4 h := gJ_plain rfl H
theorem s56l1_in {F : Nat → s56l1_T} {x0 x1 x2 : AVal} {x3 x4 : Int} {h : Heap} (n : Nat) (H : F n x0 x1 x2 x3 x4 h) : s56l1_E F x0 x1 x2 x3 x4 h := gJ_plain rfl ⟨n, H⟩

def s56c2 (Ψ : AVal → Heap → Prop) (L1 : s56l1_T) (t2 out1 t30_1 : AVal) (t31_1 t32_1 : Int) (h : Heap) : Prop :=
  rg (t32_1 + 1) (
    L1 t2 out1 t30_1 t31_1 (t32_1 + 1) h)

def s56l1 (Ψ : AVal → Heap → Prop) : Nat → s56l1_T
  | 0, _, _, _, _, _, _ => False
  | n1 + 1, t1, out, t30, t31, t32, h =>
    ifT (decide (t32 < t31)) (
      ixS 1 t30 t32 fun p =>
      ld1 h p fun v16 =>
      tInt .i64 v16 fun v17 =>
      callG prog 36 [t1, (.int .i64 v17)] h fun v18 h_4 =>
      tTup v18 fun l_11 =>
      tCons l_11 fun v19 l_12 =>
      tCons l_12 fun v20 l_13 =>
      tBool v20 fun v21 =>
      tNil l_13 (
        tAgg v19 fun l_14 =>
        tCons l_14 fun v22 l_15 =>
        tInt .i64 v22 fun v23 =>
        tCons l_15 fun v24 l_16 =>
        tStr v24 fun v25 =>
        tCons l_16 fun v26 l_17 =>
        tInt .i64 v26 fun v27 =>
        tCons l_17 fun v28 l_18 =>
        tInt .i64 v28 fun v29 =>
        tNil l_18 (
          Sym.newRow 4 [(.agg [(.int .i64 0), (.str (ByteArray.mk #[])), (.int .i64 0), (.int .i64 0)])] h_4 fun r1 h_5 =>
          st false h_5 (.ptr r1 0 0) [(.int .i64 v23), (.str v25), (.int .i64 v27), (.int .i64 v29)] fun h_6 =>
          ld1 h_6 (.ptr r1 0 0) fun v30 =>
          tInt .i64 v30 fun v31 =>
          ifT (v31 == 1) (
            ld1 h_6 (.ptr r1 0 1) fun v32 =>
            tStr v32 fun v33 =>
            appC 1 16 h_6 out (.lsl 1 [(.str v33)]) fun v34 h_7 =>
            s56c2 Ψ (s56l1_G (s56l1 Ψ n1)) t1 v34 t30 t31 t32 h_7) (
            s56c2 Ψ (s56l1_G (s56l1 Ψ n1)) t1 out t30 t31 t32 h_6)))) (
      callG prog 71 [out] h fun v35 h_8 =>
      retG (.tuple [out, (.int .i64 0)]) h_8 Ψ)

def s56 (Ψ : AVal → Heap → Prop) (t : AVal) (id_ : Int) (h : Heap) : Prop :=
  callG prog 70 [t, (.int .i64 id_)] h fun v h_ =>
  tTup v fun l_ =>
  tCons l_ fun v1 l_1 =>
  tCons l_1 fun v2 l_2 =>
  tInt .i64 v2 fun v3 =>
  tNil l_2 (
    tAgg v1 fun l_3 =>
    tCons l_3 fun v4 l_4 =>
    tInt .i64 v4 fun v5 =>
    tCons l_4 fun v6 l_5 =>
    tStr v6 fun v7 =>
    tCons l_5 fun v8 l_6 =>
    tInt .i64 v8 fun v9 =>
    tCons l_6 fun v10 l_7 =>
    tInt .i64 v10 fun v11 =>
    tNil l_7 (
      Sym.newRow 4 [(.agg [(.int .i64 0), (.str (ByteArray.mk #[])), (.int .i64 0), (.int .i64 0)])] h_ fun r h_1 =>
      st false h_1 (.ptr r 0 0) [(.int .i64 v5), (.str v7), (.int .i64 v9), (.int .i64 v11)] fun h_2 =>
      ifT (v3 != 0) (
        retG (.tuple [.nilsl, (.int .i64 v3)]) h_2 Ψ) (
        callG prog 57 [t, (.int .i64 id_)] h_2 fun v12 h_3 =>
        tTup v12 fun l_8 =>
        tCons l_8 fun v13 l_9 =>
        tCons l_9 fun v14 l_10 =>
        tInt .i64 v14 fun v15 =>
        tNil l_10 (
          lenN v13 fun n =>
          s56l1_E (s56l1 Ψ) t .nilsl v13 n 0 h_3))))

def s56_A (Ψ : AVal → Heap → Prop) : Ann :=
  .seq (rA 2)
  (.seq (.seq (rA 9)
  (.seq (rA 2)
  (.cond (.seq (rA 3)
  (.leaf))
  (.leaf))))
  (.seq (rA 1)
  (.seq (rA 8)
  (.seq (.seq (rA 3)
  (.block (.loop [(0, .any), (8, .any), (30, .any), (31, .int .i64), (32, .int .i64)] (fun n l h => s56l1_R (s56l1 Ψ n) l h) (fun L1 =>
  .seq (rA 1)
  (.seq (.cond (.leaf)
  (.leaf))
  (.cut [(0, .any), (8, .any), (30, .any), (31, .int .i64), (32, .int .i64)] (fun l h => J.cons l fun x0 l => J.cons l fun x1 l => J.cons l fun x2 l => J.cons l fun v l => J.int .i64 v fun x3 => J.cons l fun v l => J.int .i64 v fun x4 => J.nil l (s56c2 Ψ (fun y0 y1 y2 y3 y4 h => L1 [y0, y1, y2, (.int .i64 y3), (.int .i64 y4)] h) x0 x1 x2 x3 x4 h)) (.block (.seq (rA 3)
  (.seq (rA 9)
  (.seq (rA 3)
  (.cond (.reg [⟨none, [(0, false), (1, false), (2, false), (3, true), (4, false), (5, false)]⟩])
  (.leaf))))))
  (rA 2)))))))
  (.seq (rA 2)
  (.seq (rA 3)
  (.leaf)))))))

theorem s56_ok {Ψ : AVal → Heap → Prop} {t : AVal} {id_ : Int} {h : Heap} (H : s56 Ψ t id_ h) : ACalls prog 56 [t, (.int .i64 id_)] h Ψ :=
  calls_of_evF func56 (by kernel_rfl) (by kernel_rfl) (by kernel_rfl)
    (Eq.mpr (by as_aux_lemma => kernel_rfl : oblF prog f56 (s56_A Ψ) Ψ = (True ∧ (True ∧ True ∧ (True ∧ True) ∧ True) ∧ True ∧ True ∧ (True ∧ (∀ (h : Heap) (x0 x1 x2 : AVal) (x3 x4 : Int), ON (s56l1 Ψ 0 x0 x1 x2 x3 x4 h)) ∧ ∀ n1 : Nat, (∀ (h : Heap) (x0 x1 x2 : AVal) (x3 x4 : Int), OI (s56l1 Ψ (n1 + 1) x0 x1 x2 x3 x4 h)) ∧ (True ∧ (True ∧ True) ∧ (True ∧ True ∧ True ∧ True ∧ True) ∧ (∀ (h : Heap) (x0 x1 x2 : AVal) (x3 x4 : Int), OI (s56c2 Ψ (s56l1_G (s56l1 Ψ n1)) x0 x1 x2 x3 x4 h)) ∧ (True))) ∧ True ∧ True ∧ True)) ⟨trivial, ⟨⟨trivial, ⟨trivial, ⟨⟨trivial, trivial⟩, trivial⟩⟩⟩, ⟨trivial, ⟨trivial, ⟨⟨trivial, ⟨fun _ _ _ _ _ _ H => H, fun _ => ⟨fun _ _ _ _ _ _ H => H, ⟨trivial, ⟨⟨trivial, trivial⟩, ⟨⟨trivial, ⟨trivial, ⟨trivial, ⟨trivial, trivial⟩⟩⟩⟩, fun _ _ _ _ _ _ H => H, trivial⟩⟩⟩⟩⟩⟩, ⟨trivial, ⟨trivial, trivial⟩⟩⟩⟩⟩⟩⟩)
    (Eq.mpr (by as_aux_lemma => kernel_rfl : evF prog f56 (s56_A Ψ) Ψ [t, (.int .i64 id_)] h = s56 Ψ t id_ h) H)

/- 58 (*dictum/formula.Table).alive -/
def s58 (Ψ : AVal → Heap → Prop) (t : AVal) (h : Heap) : Prop :=
  nilP t fun b =>
  ifT (!b) (
    nilCheckA t fun p =>
    addOff p 1 fun p1 =>
    ld1 h p1 fun v =>
    nilM v fun b1 =>
    retG (.bool (!b1)) h Ψ) (
    retG (.bool false) h Ψ)

def s58_A (Ψ : AVal → Heap → Prop) : Ann :=
  .seq (rA 1)
  (.seq (.reg [⟨none, [(0, false), (1, false), (2, false)]⟩, ⟨some (5, true), [(3, false), (4, false), (5, false), (6, false), (7, false)]⟩, ⟨none, [(8, false), (9, false)]⟩])
  (.leaf))

theorem s58_ok {Ψ : AVal → Heap → Prop} {t : AVal} {h : Heap} (H : s58 Ψ t h) : ACalls prog 58 [t] h Ψ :=
  calls_of_evF func58 (by kernel_rfl) (by kernel_rfl) (by kernel_rfl)
    (Eq.mpr (by as_aux_lemma => kernel_rfl : oblF prog f58 (s58_A Ψ) Ψ = (True ∧ True ∧ True)) ⟨trivial, ⟨trivial, trivial⟩⟩)
    (Eq.mpr (by as_aux_lemma => kernel_rfl : evF prog f58 (s58_A Ψ) Ψ [t] h = s58 Ψ t h) H)

/- 64 dictum/nishimura.greatest -/
def s64 (Ψ : AVal → Heap → Prop) (l_ : AVal) (h : Heap) : Prop :=
  callG prog 74 [l_] h fun v h_ =>
  tInt .i64 v fun v1 =>
  retG (.int .i64 v1) h_ Ψ

def s64_A (Ψ : AVal → Heap → Prop) : Ann :=
  .seq (rA 1)
  (.seq (rA 3)
  (.leaf))

theorem s64_ok {Ψ : AVal → Heap → Prop} {l_ : AVal} {h : Heap} (H : s64 Ψ l_ h) : ACalls prog 64 [l_] h Ψ :=
  calls_of_evF func64 (by kernel_rfl) (by kernel_rfl) (by kernel_rfl)
    (Eq.mpr (by as_aux_lemma => kernel_rfl : oblF prog f64 (s64_A Ψ) Ψ = (True ∧ True ∧ True)) ⟨trivial, ⟨trivial, trivial⟩⟩)
    (Eq.mpr (by as_aux_lemma => kernel_rfl : evF prog f64 (s64_A Ψ) Ψ [l_] h = s64 Ψ l_ h) H)

/- 70 dictum/measure.row -/
def s70 (Ψ : AVal → Heap → Prop) (t : AVal) (id_ : Int) (h : Heap) : Prop :=
  Sym.newRow 4 [(.agg [(.int .i64 0), (.str (ByteArray.mk #[])), (.int .i64 0), (.int .i64 0)])] h fun r h_ =>
  callG prog 52 [t] h_ fun v h_1 =>
  nilP v fun b =>
  ifT b (
    st false h_1 (.ptr r 0 0) [(.int .i64 0), (.str (ByteArray.mk #[])), (.int .i64 0), (.int .i64 0)] fun h_2 =>
    ldN 4 h_2 (.ptr r 0 0) fun l_ =>
    tCons l_ fun v1 l_1 =>
    tInt .i64 v1 fun v2 =>
    tCons l_1 fun v3 l_2 =>
    tStr v3 fun v4 =>
    tCons l_2 fun v5 l_3 =>
    tInt .i64 v5 fun v6 =>
    tCons l_3 fun v7 l_4 =>
    tInt .i64 v7 fun v8 =>
    tNil l_4 (
      retG (.tuple [(.agg [(.int .i64 v2), (.str v4), (.int .i64 v6), (.int .i64 v8)]), (.int .i64 1)]) h_2 Ψ)) (
    callG prog 36 [t, (.int .i64 id_)] h_1 fun v9 h_3 =>
    tTup v9 fun l_5 =>
    tCons l_5 fun v10 l_6 =>
    tCons l_6 fun v11 l_7 =>
    tBool v11 fun v12 =>
    tNil l_7 (
      tAgg v10 fun l_8 =>
      tCons l_8 fun v13 l_9 =>
      tInt .i64 v13 fun v14 =>
      tCons l_9 fun v15 l_10 =>
      tStr v15 fun v16 =>
      tCons l_10 fun v17 l_11 =>
      tInt .i64 v17 fun v18 =>
      tCons l_11 fun v19 l_12 =>
      tInt .i64 v19 fun v20 =>
      tNil l_12 (
        Sym.newRow 4 [(.agg [(.int .i64 0), (.str (ByteArray.mk #[])), (.int .i64 0), (.int .i64 0)])] h_3 fun r1 h_4 =>
        st false h_4 (.ptr r1 0 0) [(.int .i64 v14), (.str v16), (.int .i64 v18), (.int .i64 v20)] fun h_5 =>
        ifT (!v12) (
          ldN 4 h_5 (.ptr r1 0 0) fun l_13 =>
          tCons l_13 fun v21 l_14 =>
          tInt .i64 v21 fun v22 =>
          tCons l_14 fun v23 l_15 =>
          tStr v23 fun v24 =>
          tCons l_15 fun v25 l_16 =>
          tInt .i64 v25 fun v26 =>
          tCons l_16 fun v27 l_17 =>
          tInt .i64 v27 fun v28 =>
          tNil l_17 (
            st false h_5 (.ptr r 0 0) [(.int .i64 v22), (.str v24), (.int .i64 v26), (.int .i64 v28)] fun h_6 =>
            ldN 4 h_6 (.ptr r 0 0) fun l_18 =>
            tCons l_18 fun v29 l_19 =>
            tInt .i64 v29 fun v30 =>
            tCons l_19 fun v31 l_20 =>
            tStr v31 fun v32 =>
            tCons l_20 fun v33 l_21 =>
            tInt .i64 v33 fun v34 =>
            tCons l_21 fun v35 l_22 =>
            tInt .i64 v35 fun v36 =>
            tNil l_22 (
              retG (.tuple [(.agg [(.int .i64 v30), (.str v32), (.int .i64 v34), (.int .i64 v36)]), (.int .i64 31)]) h_6 Ψ))) (
          ldN 4 h_5 (.ptr r1 0 0) fun l_23 =>
          tCons l_23 fun v37 l_24 =>
          tInt .i64 v37 fun v38 =>
          tCons l_24 fun v39 l_25 =>
          tStr v39 fun v40 =>
          tCons l_25 fun v41 l_26 =>
          tInt .i64 v41 fun v42 =>
          tCons l_26 fun v43 l_27 =>
          tInt .i64 v43 fun v44 =>
          tNil l_27 (
            st false h_5 (.ptr r 0 0) [(.int .i64 v38), (.str v40), (.int .i64 v42), (.int .i64 v44)] fun h_7 =>
            ldN 4 h_7 (.ptr r 0 0) fun l_28 =>
            tCons l_28 fun v45 l_29 =>
            tInt .i64 v45 fun v46 =>
            tCons l_29 fun v47 l_30 =>
            tStr v47 fun v48 =>
            tCons l_30 fun v49 l_31 =>
            tInt .i64 v49 fun v50 =>
            tCons l_31 fun v51 l_32 =>
            tInt .i64 v51 fun v52 =>
            tNil l_32 (
              retG (.tuple [(.agg [(.int .i64 v46), (.str v48), (.int .i64 v50), (.int .i64 v52)]), (.int .i64 0)]) h_7 Ψ))))))

def s70_A (Ψ : AVal → Heap → Prop) : Ann :=
  .seq (rA 2)
  (.seq (.seq (rA 3)
  (.cond (.seq (rA 3)
  (.leaf))
  (.leaf)))
  (.seq (rA 9)
  (.seq (.seq (rA 2)
  (.cond (.seq (rA 3)
  (.leaf))
  (.leaf)))
  (.seq (rA 3)
  (.leaf)))))

theorem s70_ok {Ψ : AVal → Heap → Prop} {t : AVal} {id_ : Int} {h : Heap} (H : s70 Ψ t id_ h) : ACalls prog 70 [t, (.int .i64 id_)] h Ψ :=
  calls_of_evF func70 (by kernel_rfl) (by kernel_rfl) (by kernel_rfl)
    (Eq.mpr (by as_aux_lemma => kernel_rfl : oblF prog f70 (s70_A Ψ) Ψ = (True ∧ (True ∧ (True ∧ True) ∧ True) ∧ True ∧ (True ∧ (True ∧ True) ∧ True) ∧ True ∧ True)) ⟨trivial, ⟨⟨trivial, ⟨⟨trivial, trivial⟩, trivial⟩⟩, ⟨trivial, ⟨⟨trivial, ⟨⟨trivial, trivial⟩, trivial⟩⟩, ⟨trivial, trivial⟩⟩⟩⟩⟩)
    (Eq.mpr (by as_aux_lemma => kernel_rfl : evF prog f70 (s70_A Ψ) Ψ [t, (.int .i64 id_)] h = s70 Ψ t id_ h) H)

/- 74 slices.Max[[]int,int] -/
abbrev s74l2_T := AVal → Int → Int → Heap → Prop
def s74l2_R (F : s74l2_T) (l : List AVal) (h : Heap) : Prop := J.cons l fun x0 l => J.cons l fun v l => J.int .i64 v fun x1 => J.cons l fun v l => J.int .i64 v fun x2 => J.nil l (F x0 x1 x2 h)
def s74l2_G (F : s74l2_T) (x0 : AVal) (x1 x2 : Int) (h : Heap) : Prop := gJ [.any, .int .i64, .int .i64] [x0, (.int .i64 x1), (.int .i64 x2)] h (s74l2_R F)
def s74l2_E (F : Nat → s74l2_T) (x0 : AVal) (x1 x2 : Int) (h : Heap) : Prop := gJ [.any, .int .i64, .int .i64] [x0, (.int .i64 x1), (.int .i64 x2)] h (fun l h => ∃ n, s74l2_R (F n) l h)
theorem s74l2_go {F : s74l2_T} {x0 : AVal} {x1 x2 : Int} {h : Heap} (H : F x0 x1 x2 h) : s74l2_G F x0 x1 x2 h := gJ_plain rfl H
theorem s74l2_in {F : Nat → s74l2_T} {x0 : AVal} {x1 x2 : Int} {h : Heap} (n : Nat) (H : F n x0 x1 x2 h) : s74l2_E F x0 x1 x2 h := gJ_plain rfl ⟨n, H⟩

def s74l2 (Ψ : AVal → Heap → Prop) : Nat → s74l2_T
  | 0, _, _, _, _ => False
  | n + 1, x2, m, i, h =>
    lenN x2 fun n1 =>
    ifT (decide (i < n1)) (
      ixS 1 x2 i fun p1 =>
      ld1 h p1 fun v2 =>
      tInt .i64 v2 fun v3 =>
      rg (i + 1) (
        s74l2_G (s74l2 Ψ n) x2 (max m v3) (i + 1) h)) (
      retG (.int .i64 m) h Ψ)

def s74c1 (Ψ : AVal → Heap → Prop) (x1 : AVal) (h : Heap) : Prop :=
  ixS 1 x1 0 fun p =>
  ld1 h p fun v =>
  tInt .i64 v fun v1 =>
  s74l2_E (s74l2 Ψ) x1 v1 1 h

def s74 (Ψ : AVal → Heap → Prop) (x : AVal) (h : Heap) : Prop :=
  lenN x fun n3 =>
  ifT (decide (n3 < 1)) (
    False) (
    s74c1 Ψ x h)

def s74_A (Ψ : AVal → Heap → Prop) : Ann :=
  .seq (rA 1)
  (.cut [(0, .any)] (fun l h => J.cons l fun x0 l => J.nil l (s74c1 Ψ x0 h)) (.seq (rA 3)
  (.cond (rA 2)
  (.leaf)))
  (.seq (rA 4)
  (.seq (.seq (rA 1)
  (.block (.loop [(0, .any), (3, .int .i64), (4, .int .i64)] (fun n l h => s74l2_R (s74l2 Ψ n) l h) (fun L2 =>
  .seq (.seq (rA 4)
  (.cond (.leaf)
  (.leaf)))
  (.seq (.block (rA 7))
  (rA 3))))))
  (.seq (rA 2)
  (.leaf)))))

theorem s74_ok {Ψ : AVal → Heap → Prop} {x : AVal} {h : Heap} (H : s74 Ψ x h) : ACalls prog 74 [x] h Ψ :=
  calls_of_evF func74 (by kernel_rfl) (by kernel_rfl) (by kernel_rfl)
    (Eq.mpr (by as_aux_lemma => kernel_rfl : oblF prog f74 (s74_A Ψ) Ψ = (True ∧ (True ∧ True ∧ True) ∧ (∀ (h : Heap) (x0 : AVal), OI (s74c1 Ψ x0 h)) ∧ (True ∧ (True ∧ (∀ (h : Heap) (x0 : AVal) (x1 x2 : Int), ON (s74l2 Ψ 0 x0 x1 x2 h)) ∧ ∀ n2 : Nat, (∀ (h : Heap) (x0 : AVal) (x1 x2 : Int), OI (s74l2 Ψ (n2 + 1) x0 x1 x2 h)) ∧ ((True ∧ True ∧ True) ∧ True ∧ True)) ∧ True ∧ True))) ⟨trivial, ⟨⟨trivial, ⟨trivial, trivial⟩⟩, fun _ _ H => H, ⟨trivial, ⟨⟨trivial, ⟨fun _ _ _ _ H => H, fun _ => ⟨fun _ _ _ _ H => H, ⟨⟨trivial, ⟨trivial, trivial⟩⟩, ⟨trivial, trivial⟩⟩⟩⟩⟩, ⟨trivial, trivial⟩⟩⟩⟩⟩)
    (Eq.mpr (by as_aux_lemma => kernel_rfl : evF prog f74 (s74_A Ψ) Ψ [x] h = s74 Ψ x h) H)

end Go.Proofs.Ytobpfhmjdoekfaa

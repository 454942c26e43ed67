/- The functions that the proof meets, each as a text that Lean has checked against the program. No condition. -/
import Derived.Test.YtobpfhmjdoekfaaM3
import Derived.Test.YtobpfhmjdoekfaaChecked
namespace Go.Proofs.Ytobpfhmjdoekfaa
open Go Go.Sym Go.Proofs.Try
set_option maxRecDepth 100000
set_option linter.unusedVariables false

/- 4 dictum/dictumlaw26.NishimuraModels -/
def s4 (Ψ : AVal → Heap → Prop) (n : Int) (atom : ByteArray) (h : Heap) : Prop :=
  callG prog 17 [(.int .i64 n), (.str atom)] h fun v h_ =>
  tTup v fun l_ =>
  tCons l_ fun v1 l_1 =>
  tCons l_1 fun v2 l_2 =>
  tInt .i64 v2 fun v3 =>
  tNil l_2 (
    tAgg v1 fun l_3 =>
    tCons l_3 fun v4 l_4 =>
    tCons l_4 fun v5 l_5 =>
    tNil l_5 (
      Sym.newRow 2 [(.agg [.nilsl, .nilsl])] h_ fun r h_1 =>
      st false h_1 (.ptr r 0 0) [v4, v5] fun h_2 =>
      callG prog 18 [(.int .i64 n), (.str atom)] h_2 fun v6 h_3 =>
      tTup v6 fun l_6 =>
      tCons l_6 fun v7 l_7 =>
      tCons l_7 fun v8 l_8 =>
      tInt .i64 v8 fun v9 =>
      tNil l_8 (
        tAgg v7 fun l_9 =>
        tCons l_9 fun v10 l_10 =>
        tCons l_10 fun v11 l_11 =>
        tNil l_11 (
          Sym.newRow 2 [(.agg [.nilsl, .nilsl])] h_3 fun r1 h_4 =>
          st false h_4 (.ptr r1 0 0) [v10, v11] fun h_5 =>
          ldN 2 h_5 (.ptr r 0 0) fun l_12 =>
          tCons l_12 fun v12 l_13 =>
          tCons l_13 fun v13 l_14 =>
          tNil l_14 (
            ldN 2 h_5 (.ptr r1 0 0) fun l_15 =>
            tCons l_15 fun v14 l_16 =>
            tCons l_16 fun v15 l_17 =>
            tNil l_17 (
              callG prog 19 [(.agg [v12, v13]), (.agg [v14, v15])] h_5 fun v16 h_6 =>
              tBool v16 fun v17 =>
              ifT v17 (
                callG prog 15 [(.int .i64 v3)] h_6 fun v18 h_7 =>
                tInt .i64 v18 fun v19 =>
                ifT (v19 == v9) (
                  callG prog 16 [] h_7 fun v20 h_8 =>
                  tBool v20 fun v21 =>
                  retG (.bool v21) h_8 Ψ) (
                  retG (.bool false) h_7 Ψ)) (
                retG (.bool false) h_6 Ψ)))))))

def s4_A (Ψ : AVal → Heap → Prop) : Ann :=
  .seq (rA 1)
  (.seq (rA 9)
  (.seq (rA 9)
  (.seq (.reg [⟨none, [(0, false), (1, false), (2, false), (3, false)]⟩, ⟨some (24, true), [(4, false), (5, false), (6, false), (7, false)]⟩, ⟨none, [(8, false), (9, false)]⟩, ⟨some (30, true), [(10, false)]⟩, ⟨none, [(11, false), (12, false)]⟩])
  (.leaf))))

theorem s4_ok {Ψ : AVal → Heap → Prop} {n : Int} {atom : ByteArray} {h : Heap} (H : s4 Ψ n atom h) : ACalls prog 4 [(.int .i64 n), (.str atom)] h Ψ :=
  calls_of_evF func4 (by kernel_rfl) (by kernel_rfl) (by kernel_rfl)
    (Eq.mpr (by as_aux_lemma => kernel_rfl : oblF prog f4 (s4_A Ψ) Ψ = (True ∧ True ∧ True ∧ True ∧ True)) ⟨trivial, ⟨trivial, ⟨trivial, ⟨trivial, trivial⟩⟩⟩⟩)
    (Eq.mpr (by as_aux_lemma => kernel_rfl : evF prog f4 (s4_A Ψ) Ψ [(.int .i64 n), (.str atom)] h = s4 Ψ n atom h) H)

/- 5 dictum/dictumlaw26.NishimuraHeyting -/
def s5c3 (Ψ : AVal → Heap → Prop) (a3 b3 c3 : Int) (bc2 ac2 : Bool) (x h_7 y z : Int) (t103 : Bool) (h : Heap) : Prop :=
  ifT t103 (
    callG prog 15 [(.int .i64 h_7)] h fun v32 h_8 =>
    tInt .i64 v32 fun v33 =>
    ifT (v33 == 0) (
      callG prog 16 [] h_8 fun v34 h_9 =>
      tBool v34 fun v35 =>
      retG (.bool v35) h_9 Ψ) (
      retG (.bool false) h_8 Ψ)) (
    callG prog 7 [(.int .i64 x), (.int .i64 b3)] h fun v36 h_10 =>
    tTup v36 fun l_18 =>
    tCons l_18 fun v37 l_19 =>
    tBool v37 fun v38 =>
    tCons l_19 fun v39 l_20 =>
    tInt .i64 v39 fun v40 =>
    tNil l_20 (
      callG prog 7 [(.int .i64 c3), (.int .i64 y)] h_10 fun v41 h_11 =>
      tTup v41 fun l_21 =>
      tCons l_21 fun v42 l_22 =>
      tBool v42 fun v43 =>
      tCons l_22 fun v44 l_23 =>
      tInt .i64 v44 fun v45 =>
      tNil l_23 (
        callG prog 7 [(.int .i64 a3), (.int .i64 z)] h_11 fun v46 h_12 =>
        tTup v46 fun l_24 =>
        tCons l_24 fun v47 l_25 =>
        tBool v47 fun v48 =>
        tCons l_25 fun v49 l_26 =>
        tInt .i64 v49 fun v50 =>
        tNil l_26 (
          callG prog 7 [(.int .i64 b3), (.int .i64 z)] h_12 fun v51 h_13 =>
          tTup v51 fun l_27 =>
          tCons l_27 fun v52 l_28 =>
          tBool v52 fun v53 =>
          tCons l_28 fun v54 l_29 =>
          tInt .i64 v54 fun v55 =>
          tNil l_29 (
            callG prog 7 [(.int .i64 z), (.int .i64 c3)] h_13 fun v56 h_14 =>
            tTup v56 fun l_30 =>
            tCons l_30 fun v57 l_31 =>
            tBool v57 fun v58 =>
            tCons l_31 fun v59 l_32 =>
            tInt .i64 v59 fun v60 =>
            tNil l_32 (
              callG prog 7 [(.int .i64 x), (.int .i64 a3)] h_14 fun v61 h_15 =>
              tTup v61 fun l_33 =>
              tCons l_33 fun v62 l_34 =>
              tBool v62 fun v63 =>
              tCons l_34 fun v64 l_35 =>
              tInt .i64 v64 fun v65 =>
              tNil l_35 (
                callG prog 7 [(.int .i64 x), (.int .i64 c3)] h_15 fun v66 h_16 =>
                tTup v66 fun l_36 =>
                tCons l_36 fun v67 l_37 =>
                tBool v67 fun v68 =>
                tCons l_37 fun v69 l_38 =>
                tInt .i64 v69 fun v70 =>
                tNil l_38 (
                  eqQ prog 4 (.bool v38) (.bool v43) fun b4 =>
                  ifT b4 (
                    ifT v48 (
                      ifT v53 (
                        ifT ac2 (
                          eqQ prog 4 (.bool v58) (.bool bc2) fun b5 =>
                          ifT b5 (
                            ifT v63 (
                              ifT v68 (
                                callG prog 16 [] h_16 fun v71 h_17 =>
                                tBool v71 fun v72 =>
                                retG (.bool v72) h_17 Ψ) (
                                retG (.bool false) h_16 Ψ)) (
                              retG (.bool false) h_16 Ψ)) (
                            retG (.bool false) h_16 Ψ)) (
                          eqQ prog 4 (.bool v58) (.bool false) fun b6 =>
                          ifT b6 (
                            ifT v63 (
                              ifT v68 (
                                callG prog 16 [] h_16 fun v73 h_18 =>
                                tBool v73 fun v74 =>
                                retG (.bool v74) h_18 Ψ) (
                                retG (.bool false) h_16 Ψ)) (
                              retG (.bool false) h_16 Ψ)) (
                            retG (.bool false) h_16 Ψ))) (
                        retG (.bool false) h_16 Ψ)) (
                      retG (.bool false) h_16 Ψ)) (
                    retG (.bool false) h_16 Ψ)))))))))

def s5c2 (Ψ : AVal → Heap → Prop) (a2 b2 c2 : Int) (bc1 ac1 t72 : Bool) (h : Heap) : Prop :=
  ifT t72 (
    retG (.bool false) h Ψ) (
    callG prog 9 [(.int .i64 c2), (.int .i64 a2)] h fun v17 h_4 =>
    tTup v17 fun l_9 =>
    tCons l_9 fun v18 l_10 =>
    tInt .i64 v18 fun v19 =>
    tCons l_10 fun v20 l_11 =>
    tInt .i64 v20 fun v21 =>
    tNil l_11 (
      callG prog 13 [(.int .i64 a2), (.int .i64 b2)] h_4 fun v22 h_5 =>
      tTup v22 fun l_12 =>
      tCons l_12 fun v23 l_13 =>
      tInt .i64 v23 fun v24 =>
      tCons l_13 fun v25 l_14 =>
      tInt .i64 v25 fun v26 =>
      tNil l_14 (
        callG prog 11 [(.int .i64 a2), (.int .i64 b2)] h_5 fun v27 h_6 =>
        tTup v27 fun l_15 =>
        tCons l_15 fun v28 l_16 =>
        tInt .i64 v28 fun v29 =>
        tCons l_16 fun v30 l_17 =>
        tInt .i64 v30 fun v31 =>
        tNil l_17 (
          callG prog 15 [(.int .i64 v21)] h_6 fun v75 h_19 =>
          tInt .i64 v75 fun v76 =>
          ifT (v76 != 0) (
            s5c3 Ψ a2 b2 c2 bc1 ac1 v19 v21 v24 v29 true h_19) (
            callG prog 15 [(.int .i64 v26)] h_19 fun v77 h_20 =>
            tInt .i64 v77 fun v78 =>
            ifT (v78 != 0) (
              s5c3 Ψ a2 b2 c2 bc1 ac1 v19 v21 v24 v29 true h_20) (
              callG prog 15 [(.int .i64 v31)] h_20 fun v79 h_21 =>
              tInt .i64 v79 fun v80 =>
              s5c3 Ψ a2 b2 c2 bc1 ac1 v19 v21 v24 v29 (v80 != 0) h_21))))))

def s5c1 (Ψ : AVal → Heap → Prop) (a1 b1 c1 : Int) (ab bc ac t63 : Bool) (h : Heap) : Prop :=
  ifT t63 (
    callG prog 16 [] h fun v15 h_3 =>
    tBool v15 fun v16 =>
    retG (.bool v16) h_3 Ψ) (
    ifT ab (
      ifT bc (
        s5c2 Ψ a1 b1 c1 bc ac (!ac) h) (
        s5c2 Ψ a1 b1 c1 bc ac false h)) (
      s5c2 Ψ a1 b1 c1 bc ac false h))

def s5 (Ψ : AVal → Heap → Prop) (a : Int) (b : Int) (c : Int) (h : Heap) : Prop :=
  callG prog 7 [(.int .i64 a), (.int .i64 b)] h fun v h_ =>
  tTup v fun l_ =>
  tCons l_ fun v1 l_1 =>
  tBool v1 fun v2 =>
  tCons l_1 fun v3 l_2 =>
  tInt .i64 v3 fun v4 =>
  tNil l_2 (
    callG prog 7 [(.int .i64 b), (.int .i64 c)] h_ fun v5 h_1 =>
    tTup v5 fun l_3 =>
    tCons l_3 fun v6 l_4 =>
    tBool v6 fun v7 =>
    tCons l_4 fun v8 l_5 =>
    tInt .i64 v8 fun v9 =>
    tNil l_5 (
      callG prog 7 [(.int .i64 a), (.int .i64 c)] h_1 fun v10 h_2 =>
      tTup v10 fun l_6 =>
      tCons l_6 fun v11 l_7 =>
      tBool v11 fun v12 =>
      tCons l_7 fun v13 l_8 =>
      tInt .i64 v13 fun v14 =>
      tNil l_8 (
        callG prog 15 [(.int .i64 v4)] h_2 fun v81 h_22 =>
        tInt .i64 v81 fun v82 =>
        ifT (v82 != 0) (
          s5c1 Ψ a b c v2 v7 v12 true h_22) (
          callG prog 15 [(.int .i64 v9)] h_22 fun v83 h_23 =>
          tInt .i64 v83 fun v84 =>
          ifT (v84 != 0) (
            s5c1 Ψ a b c v2 v7 v12 true h_23) (
            callG prog 15 [(.int .i64 v14)] h_23 fun v85 h_24 =>
            tInt .i64 v85 fun v86 =>
            s5c1 Ψ a b c v2 v7 v12 (v86 != 0) h_24)))))

def s5_A (Ψ : AVal → Heap → Prop) : Ann :=
  .seq (rA 1)
  (.seq (rA 8)
  (.seq (rA 8)
  (.seq (rA 8)
  (.seq (.cut [(0, .int .i64), (1, .int .i64), (2, .int .i64), (7, .bool), (9, .bool), (11, .bool), (63, .bool)] (fun l h => J.cons l fun v l => J.int .i64 v fun x0 => J.cons l fun v l => J.int .i64 v fun x1 => J.cons l fun v l => J.int .i64 v fun x2 => J.cons l fun v l => J.bool v fun x3 => J.cons l fun v l => J.bool v fun x4 => J.cons l fun v l => J.bool v fun x5 => J.cons l fun v l => J.bool v fun x6 => J.nil l (s5c1 Ψ x0 x1 x2 x3 x4 x5 x6 h)) (.reg [⟨none, [(0, false), (1, false), (2, false), (3, false)]⟩, ⟨some (54, false), [(4, false), (5, false), (6, false)]⟩, ⟨none, [(7, false), (8, false)]⟩, ⟨some (59, false), [(9, false), (10, false), (11, false)]⟩, ⟨none, [(12, false)]⟩])
  (.cond (.seq (rA 2)
  (.leaf))
  (.leaf)))
  (.seq (.cut [(0, .int .i64), (1, .int .i64), (2, .int .i64), (9, .bool), (11, .bool), (72, .bool)] (fun l h => J.cons l fun v l => J.int .i64 v fun x0 => J.cons l fun v l => J.int .i64 v fun x1 => J.cons l fun v l => J.int .i64 v fun x2 => J.cons l fun v l => J.bool v fun x3 => J.cons l fun v l => J.bool v fun x4 => J.cons l fun v l => J.bool v fun x5 => J.nil l (s5c2 Ψ x0 x1 x2 x3 x4 x5 h)) (.reg [⟨none, [(0, false), (1, false)]⟩, ⟨some (66, true), [(2, false)]⟩, ⟨none, [(3, false), (4, false)]⟩, ⟨some (69, true), [(5, false), (6, false)]⟩, ⟨none, [(7, false)]⟩])
  (.cond (.seq (rA 1)
  (.leaf))
  (.leaf)))
  (.seq (rA 8)
  (.seq (rA 8)
  (.seq (rA 8)
  (.seq (.cut [(0, .int .i64), (1, .int .i64), (2, .int .i64), (9, .bool), (11, .bool), (13, .int .i64), (14, .int .i64), (15, .int .i64), (17, .int .i64), (103, .bool)] (fun l h => J.cons l fun v l => J.int .i64 v fun x0 => J.cons l fun v l => J.int .i64 v fun x1 => J.cons l fun v l => J.int .i64 v fun x2 => J.cons l fun v l => J.bool v fun x3 => J.cons l fun v l => J.bool v fun x4 => J.cons l fun v l => J.int .i64 v fun x5 => J.cons l fun v l => J.int .i64 v fun x6 => J.cons l fun v l => J.int .i64 v fun x7 => J.cons l fun v l => J.int .i64 v fun x8 => J.cons l fun v l => J.bool v fun x9 => J.nil l (s5c3 Ψ x0 x1 x2 x3 x4 x5 x6 x7 x8 x9 h)) (.reg [⟨none, [(0, false), (1, false), (2, false), (3, false)]⟩, ⟨some (94, false), [(4, false), (5, false), (6, false)]⟩, ⟨none, [(7, false), (8, false)]⟩, ⟨some (99, false), [(9, false), (10, false), (11, false)]⟩, ⟨none, [(12, false)]⟩])
  (.cond (.seq (.reg [⟨none, [(0, false), (1, false), (2, false), (3, false)]⟩, ⟨some (107, true), [(4, false)]⟩, ⟨none, [(5, false), (6, false)]⟩])
  (.leaf))
  (.leaf)))
  (.seq (rA 8)
  (.seq (rA 8)
  (.seq (rA 8)
  (.seq (rA 8)
  (.seq (rA 8)
  (.seq (rA 8)
  (.seq (rA 8)
  (.seq (.reg [⟨none, [(0, false), (1, false), (2, false), (3, false)]⟩, ⟨some (155, true), [(4, false)]⟩, ⟨none, [(5, false), (6, false)]⟩, ⟨some (158, true), [(7, false)]⟩, ⟨none, [(8, false), (9, false)]⟩, ⟨some (161, true), [(10, false), (11, false), (12, false)]⟩, ⟨some (164, true), [(13, false)]⟩, ⟨some (161, true), [(14, false), (15, false)]⟩, ⟨none, [(16, false), (17, false)]⟩, ⟨some (169, true), [(18, false)]⟩, ⟨none, [(19, false), (20, false)]⟩, ⟨some (172, true), [(21, false)]⟩, ⟨none, [(22, false), (23, false)]⟩, ⟨some (175, true), [(24, false)]⟩, ⟨none, [(25, false), (26, false)]⟩])
  (.leaf))))))))))))))))))

theorem s5_ok {Ψ : AVal → Heap → Prop} {a : Int} {b : Int} {c : Int} {h : Heap} (H : s5 Ψ a b c h) : ACalls prog 5 [(.int .i64 a), (.int .i64 b), (.int .i64 c)] h Ψ :=
  calls_of_evF func5 (by kernel_rfl) (by kernel_rfl) (by kernel_rfl)
    (Eq.mpr (by as_aux_lemma => kernel_rfl : oblF prog f5 (s5_A Ψ) Ψ = (True ∧ True ∧ True ∧ True ∧ ((True) ∧ (∀ (h : Heap) (x0 x1 x2 : Int) (x3 x4 x5 x6 : Bool), OI (s5c1 Ψ x0 x1 x2 x3 x4 x5 x6 h)) ∧ ((True ∧ True) ∧ True)) ∧ ((True) ∧ (∀ (h : Heap) (x0 x1 x2 : Int) (x3 x4 x5 : Bool), OI (s5c2 Ψ x0 x1 x2 x3 x4 x5 h)) ∧ ((True ∧ True) ∧ True)) ∧ True ∧ True ∧ True ∧ ((True) ∧ (∀ (h : Heap) (x0 x1 x2 : Int) (x3 x4 : Bool) (x5 x6 x7 x8 : Int) (x9 : Bool), OI (s5c3 Ψ x0 x1 x2 x3 x4 x5 x6 x7 x8 x9 h)) ∧ ((True ∧ True) ∧ True)) ∧ True ∧ True ∧ True ∧ True ∧ True ∧ True ∧ True ∧ True ∧ True)) ⟨trivial, ⟨trivial, ⟨trivial, ⟨trivial, ⟨⟨trivial, fun _ _ _ _ _ _ _ _ H => H, ⟨⟨trivial, trivial⟩, trivial⟩⟩, ⟨⟨trivial, fun _ _ _ _ _ _ _ H => H, ⟨⟨trivial, trivial⟩, trivial⟩⟩, ⟨trivial, ⟨trivial, ⟨trivial, ⟨⟨trivial, fun _ _ _ _ _ _ _ _ _ _ _ H => H, ⟨⟨trivial, trivial⟩, trivial⟩⟩, ⟨trivial, ⟨trivial, ⟨trivial, ⟨trivial, ⟨trivial, ⟨trivial, ⟨trivial, ⟨trivial, trivial⟩⟩⟩⟩⟩⟩⟩⟩⟩⟩⟩⟩⟩⟩⟩⟩⟩⟩)
    (Eq.mpr (by as_aux_lemma => kernel_rfl : evF prog f5 (s5_A Ψ) Ψ [(.int .i64 a), (.int .i64 b), (.int .i64 c)] h = s5 Ψ a b c h) H)

/- 6 dictum/dictumlaw26.NishimuraNobody -/
def s6 (Ψ : AVal → Heap → Prop) (id_ : Int) (k : Int) (h : Heap) : Prop :=
  callG prog 20 [.nilptr, (.int .i64 id_), (.int .i64 k)] h fun v h_ =>
  tBool v fun v1 =>
  ifT v1 (
    Sym.newRow 2 [(.agg [.nilsl, .nilmap])] h_ fun r h_1 =>
    callG prog 20 [(.ptr r 0 0), (.int .i64 id_), (.int .i64 k)] h_1 fun v2 h_2 =>
    tBool v2 fun v3 =>
    ifT v3 (
      callG prog 16 [] h_2 fun v4 h_3 =>
      tBool v4 fun v5 =>
      retG (.bool v5) h_3 Ψ) (
      retG (.bool false) h_2 Ψ)) (
    retG (.bool false) h_ Ψ)

def s6_A (Ψ : AVal → Heap → Prop) : Ann :=
  .seq (rA 1)
  (.seq (rA 1)
  (.seq (.reg [⟨none, [(0, false), (1, false), (2, false), (3, false), (4, false)]⟩, ⟨some (10, true), [(5, false), (6, false), (7, false), (8, false), (9, false)]⟩, ⟨none, [(10, false), (11, false)]⟩, ⟨some (17, true), [(12, false)]⟩, ⟨none, [(13, false), (14, false)]⟩])
  (.leaf)))

theorem s6_ok {Ψ : AVal → Heap → Prop} {id_ : Int} {k : Int} {h : Heap} (H : s6 Ψ id_ k h) : ACalls prog 6 [(.int .i64 id_), (.int .i64 k)] h Ψ :=
  calls_of_evF func6 (by kernel_rfl) (by kernel_rfl) (by kernel_rfl)
    (Eq.mpr (by as_aux_lemma => kernel_rfl : oblF prog f6 (s6_A Ψ) Ψ = (True ∧ True ∧ True ∧ True)) ⟨trivial, ⟨trivial, ⟨trivial, trivial⟩⟩⟩)
    (Eq.mpr (by as_aux_lemma => kernel_rfl : evF prog f6 (s6_A Ψ) Ψ [(.int .i64 id_), (.int .i64 k)] h = s6 Ψ id_ k h) H)

/- 7 dictum/nishimura.Below -/
def s7c1 (Ψ : AVal → Heap → Prop) (x y : AVal) (t25 : Bool) (h : Heap) : Prop :=
  ifT t25 (
    retG (.tuple [(.bool false), (.int .i64 2)]) h Ψ) (
    ldN 3 h x fun l_14 =>
    tCons l_14 fun v20 l_15 =>
    tBool v20 fun v21 =>
    tCons l_15 fun v22 l_16 =>
    tInt .i64 v22 fun v23 =>
    tCons l_16 fun v24 l_17 =>
    tBool v24 fun v25 =>
    tNil l_17 (
      ldN 3 h y fun l_18 =>
      tCons l_18 fun v26 l_19 =>
      tBool v26 fun v27 =>
      tCons l_19 fun v28 l_20 =>
      tInt .i64 v28 fun v29 =>
      tCons l_20 fun v30 l_21 =>
      tBool v30 fun v31 =>
      tNil l_21 (
        callG prog 22 [(.agg [(.bool v21), (.int .i64 v23), (.bool v25)]), (.agg [(.bool v27), (.int .i64 v29), (.bool v31)])] h fun v32 h_6 =>
        tBool v32 fun v33 =>
        retG (.tuple [(.bool v33), (.int .i64 0)]) h_6 Ψ)))

def s7 (Ψ : AVal → Heap → Prop) (a : Int) (b : Int) (h : Heap) : Prop :=
  callG prog 21 [(.int .i64 a)] h fun v h_ =>
  tTup v fun l_ =>
  tCons l_ fun v1 l_1 =>
  tCons l_1 fun v2 l_2 =>
  tBool v2 fun v3 =>
  tNil l_2 (
    tAgg v1 fun l_3 =>
    tCons l_3 fun v4 l_4 =>
    tBool v4 fun v5 =>
    tCons l_4 fun v6 l_5 =>
    tInt .i64 v6 fun v7 =>
    tCons l_5 fun v8 l_6 =>
    tBool v8 fun v9 =>
    tNil l_6 (
      Sym.newRow 3 [(.agg [(.bool false), (.int .i64 0), (.bool false)])] h_ fun r h_1 =>
      st false h_1 (.ptr r 0 0) [(.bool v5), (.int .i64 v7), (.bool v9)] fun h_2 =>
      callG prog 21 [(.int .i64 b)] h_2 fun v10 h_3 =>
      tTup v10 fun l_7 =>
      tCons l_7 fun v11 l_8 =>
      tCons l_8 fun v12 l_9 =>
      tBool v12 fun v13 =>
      tNil l_9 (
        tAgg v11 fun l_10 =>
        tCons l_10 fun v14 l_11 =>
        tBool v14 fun v15 =>
        tCons l_11 fun v16 l_12 =>
        tInt .i64 v16 fun v17 =>
        tCons l_12 fun v18 l_13 =>
        tBool v18 fun v19 =>
        tNil l_13 (
          Sym.newRow 3 [(.agg [(.bool false), (.int .i64 0), (.bool false)])] h_3 fun r1 h_4 =>
          st false h_4 (.ptr r1 0 0) [(.bool v15), (.int .i64 v17), (.bool v19)] fun h_5 =>
          ifT (!v3) (
            s7c1 Ψ (.ptr r 0 0) (.ptr r1 0 0) true h_5) (
            s7c1 Ψ (.ptr r 0 0) (.ptr r1 0 0) (!v13) h_5)))))

def s7_A (Ψ : AVal → Heap → Prop) : Ann :=
  .seq (rA 2)
  (.seq (rA 8)
  (.seq (rA 8)
  (.seq (.cut [(6, .any), (8, .any), (25, .bool)] (fun l h => J.cons l fun x0 l => J.cons l fun x1 l => J.cons l fun v l => J.bool v fun x2 => J.nil l (s7c1 Ψ x0 x1 x2 h)) (.reg [⟨none, [(0, false), (1, false), (2, false)]⟩, ⟨some (22, false), [(3, false), (4, false)]⟩, ⟨none, [(5, false)]⟩])
  (.cond (.seq (rA 2)
  (.leaf))
  (.leaf)))
  (.seq (rA 5)
  (.leaf)))))

theorem s7_ok {Ψ : AVal → Heap → Prop} {a : Int} {b : Int} {h : Heap} (H : s7 Ψ a b h) : ACalls prog 7 [(.int .i64 a), (.int .i64 b)] h Ψ :=
  calls_of_evF func7 (by kernel_rfl) (by kernel_rfl) (by kernel_rfl)
    (Eq.mpr (by as_aux_lemma => kernel_rfl : oblF prog f7 (s7_A Ψ) Ψ = (True ∧ True ∧ True ∧ ((True) ∧ (∀ (h : Heap) (x0 x1 : AVal) (x2 : Bool), OI (s7c1 Ψ x0 x1 x2 h)) ∧ ((True ∧ True) ∧ True)) ∧ True ∧ True)) ⟨trivial, ⟨trivial, ⟨trivial, ⟨⟨trivial, fun _ _ _ _ H => H, ⟨⟨trivial, trivial⟩, trivial⟩⟩, ⟨trivial, trivial⟩⟩⟩⟩⟩)
    (Eq.mpr (by as_aux_lemma => kernel_rfl : evF prog f7 (s7_A Ψ) Ψ [(.int .i64 a), (.int .i64 b)] h = s7 Ψ a b h) H)

/- 9 dictum/nishimura.Meet -/
def s9 (Ψ : AVal → Heap → Prop) (a : Int) (b : Int) (h : Heap) : Prop :=
  callG prog 25 [(.int .i64 a), (.int .i64 b), (.func (.func 26) [] [])] h fun v h_ =>
  tTup v fun l_ =>
  tCons l_ fun v1 l_1 =>
  tInt .i64 v1 fun v2 =>
  tCons l_1 fun v3 l_2 =>
  tInt .i64 v3 fun v4 =>
  tNil l_2 (
    retG (.tuple [(.int .i64 v2), (.int .i64 v4)]) h_ Ψ)

def s9_A (Ψ : AVal → Heap → Prop) : Ann :=
  .seq (rA 2)
  (.seq (rA 7)
  (.leaf))

theorem s9_ok {Ψ : AVal → Heap → Prop} {a : Int} {b : Int} {h : Heap} (H : s9 Ψ a b h) : ACalls prog 9 [(.int .i64 a), (.int .i64 b)] h Ψ :=
  calls_of_evF func9 (by kernel_rfl) (by kernel_rfl) (by kernel_rfl)
    (Eq.mpr (by as_aux_lemma => kernel_rfl : oblF prog f9 (s9_A Ψ) Ψ = (True ∧ True ∧ True)) ⟨trivial, ⟨trivial, trivial⟩⟩)
    (Eq.mpr (by as_aux_lemma => kernel_rfl : evF prog f9 (s9_A Ψ) Ψ [(.int .i64 a), (.int .i64 b)] h = s9 Ψ a b h) H)

/- 11 dictum/nishimura.Join -/
def s11 (Ψ : AVal → Heap → Prop) (a : Int) (b : Int) (h : Heap) : Prop :=
  callG prog 25 [(.int .i64 a), (.int .i64 b), (.func (.func 29) [] [])] h fun v h_ =>
  tTup v fun l_ =>
  tCons l_ fun v1 l_1 =>
  tInt .i64 v1 fun v2 =>
  tCons l_1 fun v3 l_2 =>
  tInt .i64 v3 fun v4 =>
  tNil l_2 (
    retG (.tuple [(.int .i64 v2), (.int .i64 v4)]) h_ Ψ)

def s11_A (Ψ : AVal → Heap → Prop) : Ann :=
  .seq (rA 2)
  (.seq (rA 7)
  (.leaf))

theorem s11_ok {Ψ : AVal → Heap → Prop} {a : Int} {b : Int} {h : Heap} (H : s11 Ψ a b h) : ACalls prog 11 [(.int .i64 a), (.int .i64 b)] h Ψ :=
  calls_of_evF func11 (by kernel_rfl) (by kernel_rfl) (by kernel_rfl)
    (Eq.mpr (by as_aux_lemma => kernel_rfl : oblF prog f11 (s11_A Ψ) Ψ = (True ∧ True ∧ True)) ⟨trivial, ⟨trivial, trivial⟩⟩)
    (Eq.mpr (by as_aux_lemma => kernel_rfl : evF prog f11 (s11_A Ψ) Ψ [(.int .i64 a), (.int .i64 b)] h = s11 Ψ a b h) H)

/- 13 dictum/nishimura.Imp -/
def s13 (Ψ : AVal → Heap → Prop) (a : Int) (b : Int) (h : Heap) : Prop :=
  callG prog 25 [(.int .i64 a), (.int .i64 b), (.func (.func 31) [] [])] h fun v h_ =>
  tTup v fun l_ =>
  tCons l_ fun v1 l_1 =>
  tInt .i64 v1 fun v2 =>
  tCons l_1 fun v3 l_2 =>
  tInt .i64 v3 fun v4 =>
  tNil l_2 (
    retG (.tuple [(.int .i64 v2), (.int .i64 v4)]) h_ Ψ)

def s13_A (Ψ : AVal → Heap → Prop) : Ann :=
  .seq (rA 2)
  (.seq (rA 7)
  (.leaf))

theorem s13_ok {Ψ : AVal → Heap → Prop} {a : Int} {b : Int} {h : Heap} (H : s13 Ψ a b h) : ACalls prog 13 [(.int .i64 a), (.int .i64 b)] h Ψ :=
  calls_of_evF func13 (by kernel_rfl) (by kernel_rfl) (by kernel_rfl)
    (Eq.mpr (by as_aux_lemma => kernel_rfl : oblF prog f13 (s13_A Ψ) Ψ = (True ∧ True ∧ True)) ⟨trivial, ⟨trivial, trivial⟩⟩)
    (Eq.mpr (by as_aux_lemma => kernel_rfl : evF prog f13 (s13_A Ψ) Ψ [(.int .i64 a), (.int .i64 b)] h = s13 Ψ a b h) H)

/- 15 dictum/dictumlaw26.num -/
def s15 (Ψ : AVal → Heap → Prop) (e : Int) (h : Heap) : Prop :=
  retG (.int .i64 e) h Ψ

def s15_A (Ψ : AVal → Heap → Prop) : Ann :=
  .seq (rA 1)
  (.seq (rA 2)
  (.leaf))

theorem s15_ok {Ψ : AVal → Heap → Prop} {e : Int} {h : Heap} (H : s15 Ψ e h) : ACalls prog 15 [(.int .i64 e)] h Ψ :=
  calls_of_evF func15 (by kernel_rfl) (by kernel_rfl) (by kernel_rfl)
    (Eq.mpr (by as_aux_lemma => kernel_rfl : oblF prog f15 (s15_A Ψ) Ψ = (True ∧ True ∧ True)) ⟨trivial, ⟨trivial, trivial⟩⟩)
    (Eq.mpr (by as_aux_lemma => kernel_rfl : evF prog f15 (s15_A Ψ) Ψ [(.int .i64 e)] h = s15 Ψ e h) H)

/- 17 dictum/nishimura.Model -/
abbrev s17l2_T := AVal → AVal → Int → Int → Heap → Prop
def s17l2_R (F : s17l2_T) (l : List AVal) (h : Heap) : Prop := J.cons l fun x0 l => J.cons l fun x1 l => J.cons l fun v l => J.int .i64 v fun x2 => J.cons l fun v l => J.int .i64 v fun x3 => J.nil l (F x0 x1 x2 x3 h)
def s17l2_G (F : s17l2_T) (x0 x1 : AVal) (x2 x3 : Int) (h : Heap) : Prop := gJ [.any, .any, .int .i64, .int .i64] [x0, x1, (.int .i64 x2), (.int .i64 x3)] h (s17l2_R F)
def s17l2_E (F : Nat → s17l2_T) (x0 x1 : AVal) (x2 x3 : Int) (h : Heap) : Prop := gJ [.any, .any, .int .i64, .int .i64] [x0, x1, (.int .i64 x2), (.int .i64 x3)] h (fun l h => ∃ n, s17l2_R (F n) l h)
theorem s17l2_go {F : s17l2_T} {x0 x1 : AVal} {x2 x3 : Int} {h : Heap} (H : F x0 x1 x2 x3 h) : s17l2_G F x0 x1 x2 x3 h := gJ_plain rfl H
theorem s17l2_in {F : Nat → s17l2_T} {x0 x1 : AVal} {x2 x3 : Int} {h : Heap} (n : Nat) (H : F n x0 x1 x2 x3 h) : s17l2_E F x0 x1 x2 x3 h := gJ_plain rfl ⟨n, H⟩

abbrev s17l3_T := AVal → AVal → Int → Int → Int → Int → Heap → Prop
def s17l3_R (F : s17l3_T) (l : List AVal) (h : Heap) : Prop := J.cons l fun x0 l => J.cons l fun x1 l => J.cons l fun v l => J.int .i64 v fun x2 => J.cons l fun v l => J.int .i64 v fun x3 => J.cons l fun v l => J.int .i64 v fun x4 => J.cons l fun v l => J.int .i64 v fun x5 => J.nil l (F x0 x1 x2 x3 x4 x5 h)
def s17l3_G (F : s17l3_T) (x0 x1 : AVal) (x2 x3 x4 x5 : Int) (h : Heap) : Prop := gJ [.any, .any, .int .i64, .int .i64, .int .i64, .int .i64] [x0, x1, (.int .i64 x2), (.int .i64 x3), (.int .i64 x4), (.int .i64 x5)] h (s17l3_R F)
def s17l3_E (F : Nat → s17l3_T) (x0 x1 : AVal) (x2 x3 x4 x5 : Int) (h : Heap) : Prop := gJ [.any, .any, .int .i64, .int .i64, .int .i64, .int .i64] [x0, x1, (.int .i64 x2), (.int .i64 x3), (.int .i64 x4), (.int .i64 x5)] h (fun l h => ∃ n, s17l3_R (F n) l h)
theorem s17l3_go {F : s17l3_T} {x0 x1 : AVal} {x2 x3 x4 x5 : Int} {h : Heap} (H : F x0 x1 x2 x3 x4 x5 h) : s17l3_G F x0 x1 x2 x3 x4 x5 h := gJ_plain rfl H
theorem s17l3_in {F : Nat → s17l3_T} {x0 x1 : AVal} {x2 x3 x4 x5 : Int} {h : Heap} (n : Nat) (H : F n x0 x1 x2 x3 x4 x5 h) : s17l3_E F x0 x1 x2 x3 x4 x5 h := gJ_plain rfl ⟨n, H⟩

def s17l3 (Ψ : AVal → Heap → Prop) (L2 : s17l2_T) : Nat → s17l3_T
  | 0, _, _, _, _, _, _, _ => False
  | n3 + 1, t4_2, m1, w, v9, t32_1, t33_1, h =>
    rg (w - 2) (
      ifT (decide (v9 ≤ (w - 2))) (
        addOff m1 0 fun p1 =>
        ld1 h p1 fun v10 =>
        addOff m1 0 fun p2 =>
        ld1 h p2 fun v11 =>
        ixS 1 v11 w fun p3 =>
        ld1 h p3 fun v12 =>
        (ld1 h p3 fun v13 =>
        v13 = v12) ∧
        (ld1 h p2 fun v14 =>
        v14 = v11) ∧
        (ld1 h p1 fun v15 =>
        v15 = v10) ∧
        appC 1 8 h v12 (.lsl 1 [(.int .i64 v9)]) fun v16 h_9 =>
        (ld1 h_9 p1 fun v17 =>
        v17 = v10) ∧
        ixS 1 v10 w fun p4 =>
        chk (sc v16) (
          st true h_9 p4 [v16] fun h_10 =>
          rg (v9 + 1) (
            s17l3_G (s17l3 Ψ L2 n3) t4_2 m1 w (v9 + 1) t32_1 t33_1 h_10))) (
        rg (t33_1 + 1) (
          L2 t4_2 m1 t32_1 (t33_1 + 1) h)))

def s17l2 (Ψ : AVal → Heap → Prop) : Nat → s17l2_T
  | 0, _, _, _, _, _ => False
  | n2 + 1, t4_1, m, t32, t33, h =>
    ifT (decide (t33 < t32)) (
      rg (t33 - 3) (
        s17l3_E (s17l3 Ψ (s17l2_G (s17l2 Ψ n2))) t4_1 m t33 (max 0 (t33 - 3)) t32 t33 h)) (
      ldN 2 h m fun l_6 =>
      tCons l_6 fun v18 l_7 =>
      tCons l_7 fun v19 l_8 =>
      tNil l_8 (
        st false h t4_1 [v18, v19] fun h_11 =>
        ldN 2 h_11 t4_1 fun l_9 =>
        tCons l_9 fun v20 l_10 =>
        tCons l_10 fun v21 l_11 =>
        tNil l_11 (
          retG (.tuple [(.agg [v20, v21]), (.int .i64 0)]) h_11 Ψ)))

def s17c1 (Ψ : AVal → Heap → Prop) (n1 : Int) (atom1 : ByteArray) (t4 : AVal) (t14 : Bool) (h : Heap) : Prop :=
  ifT t14 (
    st false h t4 [.nilsl, .nilsl] fun h_3 =>
    ldN 2 h_3 t4 fun l_3 =>
    tCons l_3 fun v4 l_4 =>
    tCons l_4 fun v5 l_5 =>
    tNil l_5 (
      retG (.tuple [(.agg [v4, v5]), (.int .i64 2)]) h_3 Ψ)) (
    (((mkS false 1 24 .nilsl h n1 n1 fun v6 h_4 =>
    mkS false 1 24 .nilsl h_4 n1 n1 fun v7 h_5 =>
    chk (sc v6) (
      chk (sc v7) (
        Sym.newRow 2 [(.agg [.nilsl, .nilsl])] h_5 fun r1 h_6 =>
        st false h_6 (.ptr r1 0 0) [v6, v7] fun h_7 =>
        ld1 h_7 (.ptr r1 0 1) fun v8 =>
        ixS 1 v8 0 fun p =>
        st true h_7 p [(.lsl 1 [(.str atom1)])] fun h_8 =>
        s17l2_E (s17l2 Ψ) t4 (.ptr r1 0 0) n1 0 h_8))) ∧
    mkS false 1 24 .nilsl h n1 n1 fun v22 h_12 =>
    Sym.newRow 2 [(.agg [.nilsl, .nilsl])] h_12 fun r2 h_13 =>
    mkS false 1 24 .nilsl h_13 n1 n1 fun v23 h_14 =>
    chk (sc v22) (
      chk (sc v23) (
        st false h_14 (.ptr r2 0 0) [v22, v23] fun h_15 =>
        ld1 h_15 (.ptr r2 0 1) fun v24 =>
        ixS 1 v24 0 fun p5 =>
        st true h_15 p5 [(.lsl 1 [(.str atom1)])] fun h_16 =>
        s17l2_E (s17l2 Ψ) t4 (.ptr r2 0 0) n1 0 h_16))) ∧
    Sym.newRow 2 [(.agg [.nilsl, .nilsl])] h fun r3 h_17 =>
    mkS false 1 24 .nilsl h_17 n1 n1 fun v25 h_18 =>
    mkS false 1 24 .nilsl h_18 n1 n1 fun v26 h_19 =>
    chk (sc v25) (
      chk (sc v26) (
        st false h_19 (.ptr r3 0 0) [v25, v26] fun h_20 =>
        ld1 h_20 (.ptr r3 0 1) fun v27 =>
        ixS 1 v27 0 fun p6 =>
        st true h_20 p6 [(.lsl 1 [(.str atom1)])] fun h_21 =>
        s17l2_E (s17l2 Ψ) t4 (.ptr r3 0 0) n1 0 h_21))) ∧
    (mkS false 1 24 .nilsl h n1 n1 fun v28 h_22 =>
    mkS false 1 24 .nilsl h_22 n1 n1 fun v29 h_23 =>
    chk (sc v29) (
      chk (sc v28) (
        Sym.newRow 2 [(.agg [.nilsl, .nilsl])] h_23 fun r4 h_24 =>
        st false h_24 (.ptr r4 0 0) [v29, v28] fun h_25 =>
        ld1 h_25 (.ptr r4 0 1) fun v30 =>
        ixS 1 v30 0 fun p7 =>
        st true h_25 p7 [(.lsl 1 [(.str atom1)])] fun h_26 =>
        s17l2_E (s17l2 Ψ) t4 (.ptr r4 0 0) n1 0 h_26))) ∧
    (mkS false 1 24 .nilsl h n1 n1 fun v31 h_27 =>
    Sym.newRow 2 [(.agg [.nilsl, .nilsl])] h_27 fun r5 h_28 =>
    mkS false 1 24 .nilsl h_28 n1 n1 fun v32 h_29 =>
    chk (sc v32) (
      chk (sc v31) (
        st false h_29 (.ptr r5 0 0) [v32, v31] fun h_30 =>
        ld1 h_30 (.ptr r5 0 1) fun v33 =>
        ixS 1 v33 0 fun p8 =>
        st true h_30 p8 [(.lsl 1 [(.str atom1)])] fun h_31 =>
        s17l2_E (s17l2 Ψ) t4 (.ptr r5 0 0) n1 0 h_31))) ∧
    Sym.newRow 2 [(.agg [.nilsl, .nilsl])] h fun r6 h_32 =>
    mkS false 1 24 .nilsl h_32 n1 n1 fun v34 h_33 =>
    mkS false 1 24 .nilsl h_33 n1 n1 fun v35 h_34 =>
    chk (sc v35) (
      chk (sc v34) (
        st false h_34 (.ptr r6 0 0) [v35, v34] fun h_35 =>
        ld1 h_35 (.ptr r6 0 1) fun v36 =>
        ixS 1 v36 0 fun p9 =>
        st true h_35 p9 [(.lsl 1 [(.str atom1)])] fun h_36 =>
        s17l2_E (s17l2 Ψ) t4 (.ptr r6 0 0) n1 0 h_36)))

def s17 (Ψ : AVal → Heap → Prop) (n : Int) (atom : ByteArray) (h : Heap) : Prop :=
  Sym.newRow 2 [(.agg [.nilsl, .nilsl])] h fun r h_ =>
  callG prog 37 [(.str atom)] h_ fun v h_1 =>
  tBool v fun v1 =>
  ifT (!v1) (
    st false h_1 (.ptr r 0 0) [.nilsl, .nilsl] fun h_2 =>
    ldN 2 h_2 (.ptr r 0 0) fun l_ =>
    tCons l_ fun v2 l_1 =>
    tCons l_1 fun v3 l_2 =>
    tNil l_2 (
      retG (.tuple [(.agg [v2, v3]), (.int .i64 32)]) h_2 Ψ)) (
    ifT (decide (n < 1)) (
      s17c1 Ψ n atom (.ptr r 0 0) true h_1) (
      s17c1 Ψ n atom (.ptr r 0 0) (decide (512 < n)) h_1))

def s17_A (Ψ : AVal → Heap → Prop) : Ann :=
  .seq (rA 2)
  (.seq (.block (.seq (rA 4)
  (.cond (.seq (rA 3)
  (.leaf))
  (.cut [(0, .int .i64), (1, .str), (4, .any), (14, .bool)] (fun l h => J.cons l fun v l => J.int .i64 v fun x0 => J.cons l fun v l => J.str v fun x1 => J.cons l fun x2 l => J.cons l fun v l => J.bool v fun x3 => J.nil l (s17c1 Ψ x0 x1 x2 x3 h)) (.reg [⟨none, [(0, false), (1, false), (2, false)]⟩, ⟨some (17, false), [(3, false), (4, false)]⟩, ⟨none, [(5, false), (6, false)]⟩])
  (.cond (.seq (rA 3)
  (.leaf))
  (.leaf))))))
  (.seq (.drawT (.split 1 3 (.split 1 5 (.split 3 5 (.leaf [(0, false), (2, false), (1, false), (3, false), (4, false), (5, false), (6, false)]) (.leaf [(0, false), (2, false), (1, false), (5, false), (3, false), (4, false), (6, false)])) (.leaf [(0, false), (2, false), (5, false), (1, false), (3, false), (4, false), (6, false)])) (.split 1 5 (.leaf [(0, false), (2, false), (3, false), (1, false), (4, false), (5, false), (6, false)]) (.split 3 5 (.leaf [(0, false), (2, false), (3, false), (5, false), (1, false), (4, false), (6, false)]) (.leaf [(0, false), (2, false), (5, false), (3, false), (1, false), (4, false), (6, false)])))) [0, 1, 0, 4, 15, 0, 63])
  (.seq (.reg [⟨none, [(0, false), (1, false), (2, false), (3, true), (4, false), (5, false)]⟩])
  (.seq (.seq (rA 2)
  (.block (.loop [(4, .any), (6, .any), (32, .int .i64), (33, .int .i64)] (fun n l h => s17l2_R (s17l2 Ψ n) l h) (fun L2 =>
  .seq (rA 1)
  (.seq (.cond (.leaf)
  (.leaf))
  (.seq (.block (.seq (rA 2)
  (.seq (rA 4)
  (.block (.loop [(4, .any), (6, .any), (7, .int .i64), (8, .int .i64), (32, .int .i64), (33, .int .i64)] (fun n l h => s17l3_R (s17l3 Ψ (fun y0 y1 y2 y3 h => L2 [y0, y1, (.int .i64 y2), (.int .i64 y3)] h) n) l h) (fun L3 =>
  .seq (.seq (rA 4)
  (.cond (.leaf)
  (.leaf)))
  (.seq (.block (.draw [(0, false), (1, false), (2, false), (3, false), (4, false), (5, false), (6, false), (7, false), (8, false), (9, true), (10, false), (11, false), (12, false)] [0, 1, 0, 0, 8, 0, 56, 120, 0, 256, 1016, 2047, 4095]))
  (rA 3))))))))
  (rA 2)))))))
  (.seq (rA 3)
  (.leaf))))))

theorem s17_ok {Ψ : AVal → Heap → Prop} {n : Int} {atom : ByteArray} {h : Heap} (H : s17 Ψ n atom h) : ACalls prog 17 [(.int .i64 n), (.str atom)] h Ψ :=
  calls_of_evF func17 (by kernel_rfl) (by kernel_rfl) (by kernel_rfl)
    (Eq.mpr (by as_aux_lemma => kernel_rfl : oblF prog f17 (s17_A Ψ) Ψ = (True ∧ (True ∧ (True ∧ True) ∧ (True) ∧ (∀ (h : Heap) (x0 : Int) (x1 : ByteArray) (x2 : AVal) (x3 : Bool), OI (s17c1 Ψ x0 x1 x2 x3 h)) ∧ ((True ∧ True) ∧ True)) ∧ True ∧ True ∧ (True ∧ (∀ (h : Heap) (x0 x1 : AVal) (x2 x3 : Int), ON (s17l2 Ψ 0 x0 x1 x2 x3 h)) ∧ ∀ n2 : Nat, (∀ (h : Heap) (x0 x1 : AVal) (x2 x3 : Int), OI (s17l2 Ψ (n2 + 1) x0 x1 x2 x3 h)) ∧ (True ∧ (True ∧ True) ∧ (True ∧ True ∧ (∀ (h : Heap) (x0 x1 : AVal) (x2 x3 x4 x5 : Int), ON (s17l3 Ψ (s17l2_G (s17l2 Ψ n2)) 0 x0 x1 x2 x3 x4 x5 h)) ∧ ∀ n3 : Nat, (∀ (h : Heap) (x0 x1 : AVal) (x2 x3 x4 x5 : Int), OI (s17l3 Ψ (s17l2_G (s17l2 Ψ n2)) (n3 + 1) x0 x1 x2 x3 x4 x5 h)) ∧ ((True ∧ True ∧ True) ∧ True ∧ True)) ∧ True)) ∧ True ∧ True)) ⟨trivial, ⟨⟨trivial, ⟨⟨trivial, trivial⟩, ⟨trivial, fun _ _ _ _ _ H => H, ⟨⟨trivial, trivial⟩, trivial⟩⟩⟩⟩, ⟨trivial, ⟨trivial, ⟨⟨trivial, ⟨fun _ _ _ _ _ H => H, fun _ => ⟨fun _ _ _ _ _ H => H, ⟨trivial, ⟨⟨trivial, trivial⟩, ⟨⟨trivial, ⟨trivial, ⟨fun _ _ _ _ _ _ _ H => H, fun _ => ⟨fun _ _ _ _ _ _ _ H => H, ⟨⟨trivial, ⟨trivial, trivial⟩⟩, ⟨trivial, trivial⟩⟩⟩⟩⟩⟩, trivial⟩⟩⟩⟩⟩⟩, ⟨trivial, trivial⟩⟩⟩⟩⟩⟩)
    (Eq.mpr (by as_aux_lemma => kernel_rfl : evF prog f17 (s17_A Ψ) Ψ [(.int .i64 n), (.str atom)] h = s17 Ψ n atom h) H)

/- 18 dictum/dictumref26.Model -/
abbrev s18l2_T := Int → ByteArray → AVal → AVal → Int → Heap → Prop
def s18l2_R (F : s18l2_T) (l : List AVal) (h : Heap) : Prop := J.cons l fun v l => J.int .i64 v fun x0 => J.cons l fun v l => J.str v fun x1 => J.cons l fun x2 l => J.cons l fun x3 l => J.cons l fun v l => J.int .i64 v fun x4 => J.nil l (F x0 x1 x2 x3 x4 h)
def s18l2_G (F : s18l2_T) (x0 : Int) (x1 : ByteArray) (x2 x3 : AVal) (x4 : Int) (h : Heap) : Prop := gJ [.int .i64, .str, .any, .any, .int .i64] [(.int .i64 x0), (.str x1), x2, x3, (.int .i64 x4)] h (s18l2_R F)
def s18l2_E (F : Nat → s18l2_T) (x0 : Int) (x1 : ByteArray) (x2 x3 : AVal) (x4 : Int) (h : Heap) : Prop := gJ [.int .i64, .str, .any, .any, .int .i64] [(.int .i64 x0), (.str x1), x2, x3, (.int .i64 x4)] h (fun l h => ∃ n, s18l2_R (F n) l h)
theorem s18l2_go {F : s18l2_T} {x0 : Int} {x1 : ByteArray} {x2 x3 : AVal} {x4 : Int} {h : Heap} (H : F x0 x1 x2 x3 x4 h) : s18l2_G F x0 x1 x2 x3 x4 h := gJ_plain rfl H
theorem s18l2_in {F : Nat → s18l2_T} {x0 : Int} {x1 : ByteArray} {x2 x3 : AVal} {x4 : Int} {h : Heap} (n : Nat) (H : F n x0 x1 x2 x3 x4 h) : s18l2_E F x0 x1 x2 x3 x4 h := gJ_plain rfl ⟨n, H⟩

abbrev s18l3_T := Int → ByteArray → AVal → AVal → Int → AVal → Int → Heap → Prop
def s18l3_R (F : s18l3_T) (l : List AVal) (h : Heap) : Prop := J.cons l fun v l => J.int .i64 v fun x0 => J.cons l fun v l => J.str v fun x1 => J.cons l fun x2 l => J.cons l fun x3 l => J.cons l fun v l => J.int .i64 v fun x4 => J.cons l fun x5 l => J.cons l fun v l => J.int .i64 v fun x6 => J.nil l (F x0 x1 x2 x3 x4 x5 x6 h)
def s18l3_G (F : s18l3_T) (x0 : Int) (x1 : ByteArray) (x2 x3 : AVal) (x4 : Int) (x5 : AVal) (x6 : Int) (h : Heap) : Prop := gJ [.int .i64, .str, .any, .any, .int .i64, .any, .int .i64] [(.int .i64 x0), (.str x1), x2, x3, (.int .i64 x4), x5, (.int .i64 x6)] h (s18l3_R F)
def s18l3_E (F : Nat → s18l3_T) (x0 : Int) (x1 : ByteArray) (x2 x3 : AVal) (x4 : Int) (x5 : AVal) (x6 : Int) (h : Heap) : Prop := gJ [.int .i64, .str, .any, .any, .int .i64, .any, .int .i64] [(.int .i64 x0), (.str x1), x2, x3, (.int .i64 x4), x5, (.int .i64 x6)] h (fun l h => ∃ n, s18l3_R (F n) l h)
theorem s18l3_go {F : s18l3_T} {x0 : Int} {x1 : ByteArray} {x2 x3 : AVal} {x4 : Int} {x5 : AVal} {x6 : Int} {h : Heap} (H : F x0 x1 x2 x3 x4 x5 x6 h) : s18l3_G F x0 x1 x2 x3 x4 x5 x6 h := gJ_plain rfl H
theorem s18l3_in {F : Nat → s18l3_T} {x0 : Int} {x1 : ByteArray} {x2 x3 : AVal} {x4 : Int} {x5 : AVal} {x6 : Int} {h : Heap} (n : Nat) (H : F n x0 x1 x2 x3 x4 x5 x6 h) : s18l3_E F x0 x1 x2 x3 x4 x5 x6 h := gJ_plain rfl ⟨n, H⟩

def s18c4 (Ψ : AVal → Heap → Prop) (L2 : s18l2_T) (n6 : Int) (atom4 : ByteArray) (t4_3 m2 : AVal) (w2 : Int) (up1 val : AVal) (h : Heap) : Prop :=
  addOff m2 0 fun p =>
  ld1 h p fun v8 =>
  chk (sc up1) (
    appC 1 24 h v8 (.lsl 1 [up1]) fun v9 h_7 =>
    addOff m2 0 fun p1 =>
    chk (sc v9) (
      st true h_7 p1 [v9] fun h_8 =>
      addOff m2 1 fun p2 =>
      ld1 h_8 p2 fun v10 =>
      chk (sc val) (
        appC 1 24 h_8 v10 (.lsl 1 [val]) fun v11 h_9 =>
        addOff m2 1 fun p3 =>
        chk (sc v11) (
          st true h_9 p3 [v11] fun h_10 =>
          rg (w2 + 1) (
            L2 n6 atom4 t4_3 m2 (w2 + 1) h_10)))))

def s18l3 (Ψ : AVal → Heap → Prop) (L2 : s18l2_T) : Nat → s18l3_T
  | 0, _, _, _, _, _, _, _, _ => False
  | n5 + 1, n4, atom3, t4_2, m1, w1, up, v6, h =>
    rg (w1 - 2) (
      ifT (decide (v6 ≤ (w1 - 2))) (
        appC 1 8 h up (.lsl 1 [(.int .i64 v6)]) fun v7 h_6 =>
        rg (v6 + 1) (
          s18l3_G (s18l3 Ψ L2 n5) n4 atom3 t4_2 m1 w1 v7 (v6 + 1) h_6)) (
        ifT (w1 == 0) (
          s18c4 Ψ L2 n4 atom3 t4_2 m1 w1 up (.lsl 1 [(.str atom3)]) h) (
          s18c4 Ψ L2 n4 atom3 t4_2 m1 w1 up .nilsl h)))

def s18l2 (Ψ : AVal → Heap → Prop) : Nat → s18l2_T
  | 0, _, _, _, _, _, _ => False
  | n3 + 1, n2, atom2, t4_1, m, w, h =>
    ifT (decide (w < n2)) (
      rg (w - 3) (
        s18l3_E (s18l3 Ψ (s18l2_G (s18l2 Ψ n3))) n2 atom2 t4_1 m w .nilsl (max 0 (w - 3)) h)) (
      ldN 2 h m fun l_6 =>
      tCons l_6 fun v12 l_7 =>
      tCons l_7 fun v13 l_8 =>
      tNil l_8 (
        st false h t4_1 [v12, v13] fun h_11 =>
        ldN 2 h_11 t4_1 fun l_9 =>
        tCons l_9 fun v14 l_10 =>
        tCons l_10 fun v15 l_11 =>
        tNil l_11 (
          retG (.tuple [(.agg [v14, v15]), (.int .i64 0)]) h_11 Ψ)))

def s18c1 (Ψ : AVal → Heap → Prop) (n1 : Int) (atom1 : ByteArray) (t4 : AVal) (t20 : Bool) (h : Heap) : Prop :=
  ifT t20 (
    st false h t4 [.nilsl, .nilsl] fun h_3 =>
    ldN 2 h_3 t4 fun l_3 =>
    tCons l_3 fun v4 l_4 =>
    tCons l_4 fun v5 l_5 =>
    tNil l_5 (
      retG (.tuple [(.agg [v4, v5]), (.int .i64 2)]) h_3 Ψ)) (
    Sym.newRow 2 [(.agg [.nilsl, .nilsl])] h fun r1 h_4 =>
    st false h_4 (.ptr r1 0 0) [.nilsl, .nilsl] fun h_5 =>
    s18l2_E (s18l2 Ψ) n1 atom1 t4 (.ptr r1 0 0) 0 h_5)

def s18 (Ψ : AVal → Heap → Prop) (n : Int) (atom : ByteArray) (h : Heap) : Prop :=
  Sym.newRow 2 [(.agg [.nilsl, .nilsl])] h fun r h_ =>
  callG prog 38 [(.str atom)] h_ fun v h_1 =>
  tBool v fun v1 =>
  ifT (!v1) (
    st false h_1 (.ptr r 0 0) [.nilsl, .nilsl] fun h_2 =>
    ldN 2 h_2 (.ptr r 0 0) fun l_ =>
    tCons l_ fun v2 l_1 =>
    tCons l_1 fun v3 l_2 =>
    tNil l_2 (
      retG (.tuple [(.agg [v2, v3]), (.int .i64 32)]) h_2 Ψ)) (
    ifT (decide (n < 1)) (
      s18c1 Ψ n atom (.ptr r 0 0) true h_1) (
      s18c1 Ψ n atom (.ptr r 0 0) (decide (512 < n)) h_1))

def s18_A (Ψ : AVal → Heap → Prop) : Ann :=
  .seq (rA 2)
  (.seq (.seq (rA 3)
  (.cond (.seq (rA 3)
  (.leaf))
  (.leaf)))
  (.seq (.cut [(0, .int .i64), (1, .str), (4, .any), (20, .bool)] (fun l h => J.cons l fun v l => J.int .i64 v fun x0 => J.cons l fun v l => J.str v fun x1 => J.cons l fun x2 l => J.cons l fun v l => J.bool v fun x3 => J.nil l (s18c1 Ψ x0 x1 x2 x3 h)) (.reg [⟨none, [(0, false), (1, false), (2, false)]⟩, ⟨some (17, false), [(3, false), (4, false)]⟩, ⟨none, [(5, false)]⟩])
  (.cond (.seq (rA 3)
  (.leaf))
  (.leaf)))
  (.seq (rA 3)
  (.seq (.seq (rA 1)
  (.block (.loop [(0, .int .i64), (1, .str), (4, .any), (6, .any), (7, .int .i64)] (fun n l h => s18l2_R (s18l2 Ψ n) l h) (fun L2 =>
  .seq (.seq (rA 3)
  (.cond (.leaf)
  (.leaf)))
  (.seq (.block (.seq (rA 1)
  (.seq (.seq (rA 4)
  (.block (.loop [(0, .int .i64), (1, .str), (4, .any), (6, .any), (7, .int .i64), (8, .any), (9, .int .i64)] (fun n l h => s18l3_R (s18l3 Ψ (fun y0 y1 y2 y3 y4 h => L2 [(.int .i64 y0), (.str y1), y2, y3, (.int .i64 y4)] h) n) l h) (fun L3 =>
  .seq (.seq (rA 4)
  (.cond (.leaf)
  (.leaf)))
  (.seq (.block (.reg [⟨none, [(0, false), (1, false), (2, true), (3, false), (4, false)]⟩]))
  (rA 3))))))
  (.seq (rA 1)
  (.cut [(0, .int .i64), (1, .str), (4, .any), (6, .any), (7, .int .i64), (8, .any), (10, .any)] (fun l h => J.cons l fun v l => J.int .i64 v fun x0 => J.cons l fun v l => J.str v fun x1 => J.cons l fun x2 l => J.cons l fun x3 l => J.cons l fun v l => J.int .i64 v fun x4 => J.cons l fun x5 l => J.cons l fun x6 l => J.nil l (s18c4 Ψ (fun y0 y1 y2 y3 y4 h => L2 [(.int .i64 y0), (.str y1), y2, y3, (.int .i64 y4)] h) x0 x1 x2 x3 x4 x5 x6 h)) (.seq (rA 2)
  (.cond (.reg [⟨none, [(0, false), (1, true), (2, false)]⟩])
  (.leaf)))
  (.seq (.reg [⟨none, [(0, false), (1, false), (2, false), (3, true), (4, false), (5, false), (6, false)]⟩])
  (.reg [⟨none, [(0, false), (1, false), (2, false), (3, true), (4, false), (5, false), (6, false)]⟩])))))))
  (rA 3))))))
  (.seq (rA 3)
  (.leaf))))))

theorem s18_ok {Ψ : AVal → Heap → Prop} {n : Int} {atom : ByteArray} {h : Heap} (H : s18 Ψ n atom h) : ACalls prog 18 [(.int .i64 n), (.str atom)] h Ψ :=
  calls_of_evF func18 (by kernel_rfl) (by kernel_rfl) (by kernel_rfl)
    (Eq.mpr (by as_aux_lemma => kernel_rfl : oblF prog f18 (s18_A Ψ) Ψ = (True ∧ (True ∧ (True ∧ True) ∧ True) ∧ ((True) ∧ (∀ (h : Heap) (x0 : Int) (x1 : ByteArray) (x2 : AVal) (x3 : Bool), OI (s18c1 Ψ x0 x1 x2 x3 h)) ∧ ((True ∧ True) ∧ True)) ∧ True ∧ (True ∧ (∀ (h : Heap) (x0 : Int) (x1 : ByteArray) (x2 x3 : AVal) (x4 : Int), ON (s18l2 Ψ 0 x0 x1 x2 x3 x4 h)) ∧ ∀ n2 : Nat, (∀ (h : Heap) (x0 : Int) (x1 : ByteArray) (x2 x3 : AVal) (x4 : Int), OI (s18l2 Ψ (n2 + 1) x0 x1 x2 x3 x4 h)) ∧ ((True ∧ True ∧ True) ∧ (True ∧ (True ∧ (∀ (h : Heap) (x0 : Int) (x1 : ByteArray) (x2 x3 : AVal) (x4 : Int) (x5 : AVal) (x6 : Int), ON (s18l3 Ψ (s18l2_G (s18l2 Ψ n2)) 0 x0 x1 x2 x3 x4 x5 x6 h)) ∧ ∀ n3 : Nat, (∀ (h : Heap) (x0 : Int) (x1 : ByteArray) (x2 x3 : AVal) (x4 : Int) (x5 : AVal) (x6 : Int), OI (s18l3 Ψ (s18l2_G (s18l2 Ψ n2)) (n3 + 1) x0 x1 x2 x3 x4 x5 x6 h)) ∧ ((True ∧ True ∧ True) ∧ True ∧ True)) ∧ True ∧ (True ∧ True ∧ True) ∧ (∀ (h : Heap) (x0 : Int) (x1 : ByteArray) (x2 x3 : AVal) (x4 : Int) (x5 x6 : AVal), OI (s18c4 Ψ (s18l2_G (s18l2 Ψ n2)) x0 x1 x2 x3 x4 x5 x6 h)) ∧ (True ∧ True)) ∧ True)) ∧ True ∧ True)) ⟨trivial, ⟨⟨trivial, ⟨⟨trivial, trivial⟩, trivial⟩⟩, ⟨⟨trivial, fun _ _ _ _ _ H => H, ⟨⟨trivial, trivial⟩, trivial⟩⟩, ⟨trivial, ⟨⟨trivial, ⟨fun _ _ _ _ _ _ H => H, fun _ => ⟨fun _ _ _ _ _ _ H => H, ⟨⟨trivial, ⟨trivial, trivial⟩⟩, ⟨⟨trivial, ⟨⟨trivial, ⟨fun _ _ _ _ _ _ _ _ H => H, fun _ => ⟨fun _ _ _ _ _ _ _ _ H => H, ⟨⟨trivial, ⟨trivial, trivial⟩⟩, ⟨trivial, trivial⟩⟩⟩⟩⟩, ⟨trivial, ⟨⟨trivial, ⟨trivial, trivial⟩⟩, fun _ _ _ _ _ _ _ _ H => H, ⟨trivial, trivial⟩⟩⟩⟩⟩, trivial⟩⟩⟩⟩⟩, ⟨trivial, trivial⟩⟩⟩⟩⟩⟩)
    (Eq.mpr (by as_aux_lemma => kernel_rfl : evF prog f18 (s18_A Ψ) Ψ [(.int .i64 n), (.str atom)] h = s18 Ψ n atom h) H)

/- 19 dictum/dictumref17.Same -/
abbrev s19l2_T := AVal → AVal → Int → Heap → Prop
def s19l2_R (F : s19l2_T) (l : List AVal) (h : Heap) : Prop := J.cons l fun x0 l => J.cons l fun x1 l => J.cons l fun v l => J.int .i64 v fun x2 => J.nil l (F x0 x1 x2 h)
def s19l2_G (F : s19l2_T) (x0 x1 : AVal) (x2 : Int) (h : Heap) : Prop := gJ [.any, .any, .int .i64] [x0, x1, (.int .i64 x2)] h (s19l2_R F)
def s19l2_E (F : Nat → s19l2_T) (x0 x1 : AVal) (x2 : Int) (h : Heap) : Prop := gJ [.any, .any, .int .i64] [x0, x1, (.int .i64 x2)] h (fun l h => ∃ n, s19l2_R (F n) l h)
theorem s19l2_go {F : s19l2_T} {x0 x1 : AVal} {x2 : Int} {h : Heap} (H : F x0 x1 x2 h) : s19l2_G F x0 x1 x2 h := gJ_plain rfl H
theorem s19l2_in {F : Nat → s19l2_T} {x0 x1 : AVal} {x2 : Int} {h : Heap} (n : Nat) (H : F n x0 x1 x2 h) : s19l2_E F x0 x1 x2 h := gJ_plain rfl ⟨n, H⟩

abbrev s19l3_T := AVal → AVal → Int → Heap → Prop
def s19l3_R (F : s19l3_T) (l : List AVal) (h : Heap) : Prop := J.cons l fun x0 l => J.cons l fun x1 l => J.cons l fun v l => J.int .i64 v fun x2 => J.nil l (F x0 x1 x2 h)
def s19l3_G (F : s19l3_T) (x0 x1 : AVal) (x2 : Int) (h : Heap) : Prop := gJ [.any, .any, .int .i64] [x0, x1, (.int .i64 x2)] h (s19l3_R F)
def s19l3_E (F : Nat → s19l3_T) (x0 x1 : AVal) (x2 : Int) (h : Heap) : Prop := gJ [.any, .any, .int .i64] [x0, x1, (.int .i64 x2)] h (fun l h => ∃ n, s19l3_R (F n) l h)
theorem s19l3_go {F : s19l3_T} {x0 x1 : AVal} {x2 : Int} {h : Heap} (H : F x0 x1 x2 h) : s19l3_G F x0 x1 x2 h := gJ_plain rfl H
theorem s19l3_in {F : Nat → s19l3_T} {x0 x1 : AVal} {x2 : Int} {h : Heap} (n : Nat) (H : F n x0 x1 x2 h) : s19l3_E F x0 x1 x2 h := gJ_plain rfl ⟨n, H⟩

def s19l3 (Ψ : AVal → Heap → Prop) : Nat → s19l3_T
  | 0, _, _, _, _ => False
  | n2 + 1, a2, b2, i1, h =>
    addOff a2 1 fun p5 =>
    ld1 h p5 fun v7 =>
    lenN v7 fun n3 =>
    ifT (decide (i1 < n3)) (
      addOff a2 1 fun p6 =>
      ld1 h p6 fun v8 =>
      ixS 1 v8 i1 fun p7 =>
      ld1 h p7 fun v9 =>
      addOff b2 1 fun p8 =>
      ld1 h p8 fun v10 =>
      ixS 1 v10 i1 fun p9 =>
      ld1 h p9 fun v11 =>
      callG prog 40 [v9, v11] h fun v12 h_1 =>
      tBool v12 fun v13 =>
      ifT (!v13) (
        retG (.bool false) h_1 Ψ) (
        rg (i1 + 1) (
          s19l3_G (s19l3 Ψ n2) a2 b2 (i1 + 1) h_1))) (
      retG (.bool true) h Ψ)

def s19l2 (Ψ : AVal → Heap → Prop) : Nat → s19l2_T
  | 0, _, _, _, _ => False
  | n + 1, a1, b1, i, h =>
    addOff a1 0 fun p =>
    ld1 h p fun v =>
    lenN v fun n1 =>
    ifT (decide (i < n1)) (
      addOff a1 0 fun p1 =>
      ld1 h p1 fun v1 =>
      ixS 1 v1 i fun p2 =>
      ld1 h p2 fun v2 =>
      addOff b1 0 fun p3 =>
      ld1 h p3 fun v3 =>
      ixS 1 v3 i fun p4 =>
      ld1 h p4 fun v4 =>
      callG prog 39 [v2, v4] h fun v5 h_ =>
      tBool v5 fun v6 =>
      ifT (!v6) (
        retG (.bool false) h_ Ψ) (
        rg (i + 1) (
          s19l2_G (s19l2 Ψ n) a1 b1 (i + 1) h_))) (
      s19l3_E (s19l3 Ψ) a1 b1 0 h)

def s19c1 (Ψ : AVal → Heap → Prop) (a b : AVal) (t22 : Bool) (h : Heap) : Prop :=
  ifT t22 (
    retG (.bool false) h Ψ) (
    s19l2_E (s19l2 Ψ) a b 0 h)

def s19 (Ψ : AVal → Heap → Prop) (a_Up : AVal) (a_Val : AVal) (b_Up : AVal) (b_Val : AVal) (h : Heap) : Prop :=
  lenN a_Up fun n6 =>
  lenN b_Up fun n7 =>
  ifT (n6 != n7) (
    s19c1 Ψ (.lptr [a_Up, a_Val]) (.lptr [b_Up, b_Val]) true h) (
    lenN a_Val fun n8 =>
    lenN b_Val fun n9 =>
    s19c1 Ψ (.lptr [a_Up, a_Val]) (.lptr [b_Up, b_Val]) (n8 != n9) h)

def s19_A (Ψ : AVal → Heap → Prop) : Ann :=
  .seq (.reg [⟨none, [(0, true), (1, true), (2, false)]⟩])
  (.seq (.cut [(2, .any), (3, .any), (22, .bool)] (fun l h => J.cons l fun x0 l => J.cons l fun x1 l => J.cons l fun v l => J.bool v fun x2 => J.nil l (s19c1 Ψ x0 x1 x2 h)) (.reg [⟨none, [(0, false), (1, false), (2, false), (3, false), (4, false), (5, false), (6, false), (7, false)]⟩, ⟨some (14, false), [(8, false), (9, false), (10, false), (11, false), (12, false), (13, false), (14, false)]⟩, ⟨none, [(15, false)]⟩])
  (.cond (.seq (rA 1)
  (.leaf))
  (.leaf)))
  (.seq (.seq (rA 1)
  (.block (.loop [(2, .any), (3, .any), (5, .int .i64)] (fun n l h => s19l2_R (s19l2 Ψ n) l h) (fun L2 =>
  .seq (.seq (rA 5)
  (.cond (.leaf)
  (.leaf)))
  (.seq (.block (.seq (.draw [(0, false), (1, false), (2, false), (3, false), (4, false), (5, false), (6, false), (7, false), (8, false), (9, false), (10, false), (11, false)] [0, 1, 0, 7, 15, 0, 32, 0, 224, 480, 1023, 2047])
  (.cond (.seq (rA 1)
  (.leaf))
  (.leaf))))
  (rA 3))))))
  (.seq (.seq (rA 1)
  (.block (.loop [(2, .any), (3, .any), (6, .int .i64)] (fun n l h => s19l3_R (s19l3 Ψ n) l h) (fun L3 =>
  .seq (.seq (rA 5)
  (.cond (.leaf)
  (.leaf)))
  (.seq (.block (.seq (.draw [(0, false), (1, false), (2, false), (3, false), (4, false), (5, false), (6, false), (7, false), (8, false), (9, false), (10, false), (11, false)] [0, 1, 0, 7, 15, 0, 32, 0, 224, 480, 1023, 2047])
  (.cond (.seq (rA 1)
  (.leaf))
  (.leaf))))
  (rA 3))))))
  (.seq (rA 1)
  (.leaf)))))

theorem s19_ok {Ψ : AVal → Heap → Prop} {a_Up : AVal} {a_Val : AVal} {b_Up : AVal} {b_Val : AVal} {h : Heap} (H : s19 Ψ a_Up a_Val b_Up b_Val h) : ACalls prog 19 [(.agg [a_Up, a_Val]), (.agg [b_Up, b_Val])] h Ψ :=
  calls_of_evF func19 (by kernel_rfl) (by kernel_rfl) (by kernel_rfl)
    (Eq.mpr (by as_aux_lemma => kernel_rfl : oblF prog f19 (s19_A Ψ) Ψ = (True ∧ ((True) ∧ (∀ (h : Heap) (x0 x1 : AVal) (x2 : Bool), OI (s19c1 Ψ x0 x1 x2 h)) ∧ ((True ∧ True) ∧ True)) ∧ (True ∧ (∀ (h : Heap) (x0 x1 : AVal) (x2 : Int), ON (s19l2 Ψ 0 x0 x1 x2 h)) ∧ ∀ n2 : Nat, (∀ (h : Heap) (x0 x1 : AVal) (x2 : Int), OI (s19l2 Ψ (n2 + 1) x0 x1 x2 h)) ∧ ((True ∧ True ∧ True) ∧ (True ∧ (True ∧ True) ∧ True) ∧ True)) ∧ (True ∧ (∀ (h : Heap) (x0 x1 : AVal) (x2 : Int), ON (s19l3 Ψ 0 x0 x1 x2 h)) ∧ ∀ n3 : Nat, (∀ (h : Heap) (x0 x1 : AVal) (x2 : Int), OI (s19l3 Ψ (n3 + 1) x0 x1 x2 h)) ∧ ((True ∧ True ∧ True) ∧ (True ∧ (True ∧ True) ∧ True) ∧ True)) ∧ True ∧ True)) ⟨trivial, ⟨⟨trivial, fun _ _ _ _ H => H, ⟨⟨trivial, trivial⟩, trivial⟩⟩, ⟨⟨trivial, ⟨fun _ _ _ _ H => H, fun _ => ⟨fun _ _ _ _ H => H, ⟨⟨trivial, ⟨trivial, trivial⟩⟩, ⟨⟨trivial, ⟨⟨trivial, trivial⟩, trivial⟩⟩, trivial⟩⟩⟩⟩⟩, ⟨⟨trivial, ⟨fun _ _ _ _ H => H, fun _ => ⟨fun _ _ _ _ H => H, ⟨⟨trivial, ⟨trivial, trivial⟩⟩, ⟨⟨trivial, ⟨⟨trivial, trivial⟩, trivial⟩⟩, trivial⟩⟩⟩⟩⟩, ⟨trivial, trivial⟩⟩⟩⟩⟩)
    (Eq.mpr (by as_aux_lemma => kernel_rfl : evF prog f19 (s19_A Ψ) Ψ [(.agg [a_Up, a_Val]), (.agg [b_Up, b_Val])] h = s19 Ψ a_Up a_Val b_Up b_Val h) H)

/- 20 dictum/dictumlaw26.nobody -/
def s20 (Ψ : AVal → Heap → Prop) (t : AVal) (id_ : Int) (k : Int) (h : Heap) : Prop :=
  callG prog 34 [t, (.str (ByteArray.mk #[112])), (.int .i64 k)] h fun v h_ =>
  tTup v fun l_ =>
  tCons l_ fun v1 l_1 =>
  tInt .i64 v1 fun v2 =>
  tCons l_1 fun v3 l_2 =>
  tInt .i64 v3 fun v4 =>
  tNil l_2 (
    callG prog 35 [t, (.int .i64 id_)] h_ fun v5 h_1 =>
    tTup v5 fun l_3 =>
    tCons l_3 fun v6 l_4 =>
    tInt .i64 v6 fun v7 =>
    tCons l_4 fun v8 l_5 =>
    tInt .i64 v8 fun v9 =>
    tNil l_5 (
      callG prog 41 [t, (.int .i64 id_), (.int .i64 id_)] h_1 fun v10 h_2 =>
      tTup v10 fun l_6 =>
      tCons l_6 fun v11 l_7 =>
      tBool v11 fun v12 =>
      tCons l_7 fun v13 l_8 =>
      tInt .i64 v13 fun v14 =>
      tNil l_8 (
        ifT (v2 == 0) (
          ifT (v4 == 1) (
            ifT (v7 == 0) (
              ifT (v9 == 1) (
                ifT (!v12) (
                  retG (.bool (v14 == 1)) h_2 Ψ) (
                  retG (.bool false) h_2 Ψ)) (
                retG (.bool false) h_2 Ψ)) (
              retG (.bool false) h_2 Ψ)) (
            retG (.bool false) h_2 Ψ)) (
          retG (.bool false) h_2 Ψ))))

def s20_A (Ψ : AVal → Heap → Prop) : Ann :=
  .seq (rA 1)
  (.seq (rA 8)
  (.seq (rA 8)
  (.seq (rA 9)
  (.seq (rA 1)
  (.seq (.reg [⟨none, [(0, false), (1, false), (2, false)]⟩, ⟨some (35, true), [(3, false), (4, false), (5, false)]⟩, ⟨none, [(6, false), (7, false)]⟩, ⟨some (40, true), [(8, false), (9, false)]⟩, ⟨none, [(10, false), (11, false)]⟩, ⟨some (44, true), [(12, false), (13, false), (14, false)]⟩, ⟨none, [(15, false), (16, false)]⟩, ⟨some (49, true), [(17, false), (18, false)]⟩, ⟨none, [(19, false), (20, false)]⟩, ⟨some (53, true), [(21, false), (22, false), (23, false)]⟩, ⟨none, [(24, false), (25, false)]⟩])
  (.leaf))))))

theorem s20_ok {Ψ : AVal → Heap → Prop} {t : AVal} {id_ : Int} {k : Int} {h : Heap} (H : s20 Ψ t id_ k h) : ACalls prog 20 [t, (.int .i64 id_), (.int .i64 k)] h Ψ :=
  calls_of_evF func20 (by kernel_rfl) (by kernel_rfl) (by kernel_rfl)
    (Eq.mpr (by as_aux_lemma => kernel_rfl : oblF prog f20 (s20_A Ψ) Ψ = (True ∧ True ∧ True ∧ True ∧ True ∧ True ∧ True)) ⟨trivial, ⟨trivial, ⟨trivial, ⟨trivial, ⟨trivial, ⟨trivial, trivial⟩⟩⟩⟩⟩⟩)
    (Eq.mpr (by as_aux_lemma => kernel_rfl : evF prog f20 (s20_A Ψ) Ψ [t, (.int .i64 id_), (.int .i64 k)] h = s20 Ψ t id_ k h) H)

/- 21 dictum/nishimura.of -/
def s21c1 (Ψ : AVal → Heap → Prop) (k1 : Int) (t2 : AVal) (t8 : Bool) (h : Heap) : Prop :=
  ifT t8 (
    st false h t2 [(.bool false), (.int .i64 0), (.bool false)] fun h_2 =>
    ldN 3 h_2 t2 fun l_4 =>
    tCons l_4 fun v6 l_5 =>
    tBool v6 fun v7 =>
    tCons l_5 fun v8 l_6 =>
    tInt .i64 v8 fun v9 =>
    tCons l_6 fun v10 l_7 =>
    tBool v10 fun v11 =>
    tNil l_7 (
      retG (.tuple [(.agg [(.bool v7), (.int .i64 v9), (.bool v11)]), (.bool false)]) h_2 Ψ)) (
    ifT (k1 == 0) (
      st false h t2 [(.bool false), (.int .i64 0), (.bool false)] fun h_3 =>
      ldN 3 h_3 t2 fun l_8 =>
      tCons l_8 fun v12 l_9 =>
      tBool v12 fun v13 =>
      tCons l_9 fun v14 l_10 =>
      tInt .i64 v14 fun v15 =>
      tCons l_10 fun v16 l_11 =>
      tBool v16 fun v17 =>
      tNil l_11 (
        retG (.tuple [(.agg [(.bool v13), (.int .i64 v15), (.bool v17)]), (.bool true)]) h_3 Ψ)) (
      2 ≠ (0 : Int) ∧
      ifT ((Int.tmod k1 2) == 1) (
        rg (k1 + 1) (
          2 ≠ (0 : Int) ∧
          rg (Int.tdiv (k1 + 1) 2) (
            st false h t2 [(.bool false), (.int .i64 (Int.tdiv (k1 + 1) 2)), (.bool false)] fun h_4 =>
            ldN 3 h_4 t2 fun l_12 =>
            tCons l_12 fun v18 l_13 =>
            tBool v18 fun v19 =>
            tCons l_13 fun v20 l_14 =>
            tInt .i64 v20 fun v21 =>
            tCons l_14 fun v22 l_15 =>
            tBool v22 fun v23 =>
            tNil l_15 (
              retG (.tuple [(.agg [(.bool v19), (.int .i64 v21), (.bool v23)]), (.bool true)]) h_4 Ψ)))) (
        2 ≠ (0 : Int) ∧
        rg (Int.tdiv k1 2) (
          rg ((Int.tdiv k1 2) - 1) (
            st false h t2 [(.bool false), (.int .i64 ((Int.tdiv k1 2) - 1)), (.bool true)] fun h_5 =>
            ldN 3 h_5 t2 fun l_16 =>
            tCons l_16 fun v24 l_17 =>
            tBool v24 fun v25 =>
            tCons l_17 fun v26 l_18 =>
            tInt .i64 v26 fun v27 =>
            tCons l_18 fun v28 l_19 =>
            tBool v28 fun v29 =>
            tNil l_19 (
              retG (.tuple [(.agg [(.bool v25), (.int .i64 v27), (.bool v29)]), (.bool true)]) h_5 Ψ))))))

def s21 (Ψ : AVal → Heap → Prop) (k : Int) (h : Heap) : Prop :=
  Sym.newRow 3 [(.agg [(.bool false), (.int .i64 0), (.bool false)])] h fun r h_ =>
  ifT (k == (-1)) (
    st false h_ (.ptr r 0 0) [(.bool true), (.int .i64 0), (.bool false)] fun h_1 =>
    ldN 3 h_1 (.ptr r 0 0) fun l_ =>
    tCons l_ fun v l_1 =>
    tBool v fun v1 =>
    tCons l_1 fun v2 l_2 =>
    tInt .i64 v2 fun v3 =>
    tCons l_2 fun v4 l_3 =>
    tBool v4 fun v5 =>
    tNil l_3 (
      retG (.tuple [(.agg [(.bool v1), (.int .i64 v3), (.bool v5)]), (.bool true)]) h_1 Ψ)) (
    ifT (decide (k < 0)) (
      s21c1 Ψ k (.ptr r 0 0) true h_) (
      s21c1 Ψ k (.ptr r 0 0) (decide (4096 < k)) h_))

def s21_A (Ψ : AVal → Heap → Prop) : Ann :=
  .seq (rA 2)
  (.seq (.block (.seq (rA 3)
  (.cond (.seq (rA 3)
  (.leaf))
  (.cut [(0, .int .i64), (2, .any), (8, .bool)] (fun l h => J.cons l fun v l => J.int .i64 v fun x0 => J.cons l fun x1 l => J.cons l fun v l => J.bool v fun x2 => J.nil l (s21c1 Ψ x0 x1 x2 h)) (.reg [⟨none, [(0, false), (1, false), (2, false)]⟩, ⟨some (11, false), [(3, false), (4, false)]⟩, ⟨none, [(5, false), (6, false)]⟩])
  (.cond (.seq (rA 3)
  (.leaf))
  (.seq (rA 3)
  (.cond (.seq (rA 3)
  (.leaf))
  (.seq (rA 4)
  (.cond (.seq (rA 6)
  (.leaf))
  (.leaf))))))))))
  (.seq (rA 6)
  (.leaf)))

theorem s21_ok {Ψ : AVal → Heap → Prop} {k : Int} {h : Heap} (H : s21 Ψ k h) : ACalls prog 21 [(.int .i64 k)] h Ψ :=
  calls_of_evF func21 (by kernel_rfl) (by kernel_rfl) (by kernel_rfl)
    (Eq.mpr (by as_aux_lemma => kernel_rfl : oblF prog f21 (s21_A Ψ) Ψ = (True ∧ (True ∧ (True ∧ True) ∧ (True) ∧ (∀ (h : Heap) (x0 : Int) (x1 : AVal) (x2 : Bool), OI (s21c1 Ψ x0 x1 x2 h)) ∧ ((True ∧ True) ∧ True ∧ (True ∧ True) ∧ True ∧ (True ∧ True) ∧ True)) ∧ True ∧ True)) ⟨trivial, ⟨⟨trivial, ⟨⟨trivial, trivial⟩, ⟨trivial, fun _ _ _ _ H => H, ⟨⟨trivial, trivial⟩, ⟨trivial, ⟨⟨trivial, trivial⟩, ⟨trivial, ⟨⟨trivial, trivial⟩, trivial⟩⟩⟩⟩⟩⟩⟩⟩, ⟨trivial, trivial⟩⟩⟩)
    (Eq.mpr (by as_aux_lemma => kernel_rfl : evF prog f21 (s21_A Ψ) Ψ [(.int .i64 k)] h = s21 Ψ k h) H)

/- 22 dictum/nishimura.below -/
def s22 (Ψ : AVal → Heap → Prop) (a_all : Bool) (a_low : Int) (a_gap : Bool) (b_all : Bool) (b_low : Int) (b_gap : Bool) (h : Heap) : Prop :=
  callG prog 31 [(.agg [(.bool a_all), (.int .i64 a_low), (.bool a_gap)]), (.agg [(.bool b_all), (.int .i64 b_low), (.bool b_gap)])] h fun v h_ =>
  tAgg v fun l_ =>
  tCons l_ fun v1 l_1 =>
  tBool v1 fun v2 =>
  tCons l_1 fun v3 l_2 =>
  tInt .i64 v3 fun v4 =>
  tCons l_2 fun v5 l_3 =>
  tBool v5 fun v6 =>
  tNil l_3 (
    retG (.bool v2) h_ Ψ)

def s22_A (Ψ : AVal → Heap → Prop) : Ann :=
  .seq (.reg [⟨none, [(0, true), (1, true), (2, false)]⟩])
  (.seq (rA 5)
  (.leaf))

theorem s22_ok {Ψ : AVal → Heap → Prop} {a_all : Bool} {a_low : Int} {a_gap : Bool} {b_all : Bool} {b_low : Int} {b_gap : Bool} {h : Heap} (H : s22 Ψ a_all a_low a_gap b_all b_low b_gap h) : ACalls prog 22 [(.agg [(.bool a_all), (.int .i64 a_low), (.bool a_gap)]), (.agg [(.bool b_all), (.int .i64 b_low), (.bool b_gap)])] h Ψ :=
  calls_of_evF func22 (by kernel_rfl) (by kernel_rfl) (by kernel_rfl)
    (Eq.mpr (by as_aux_lemma => kernel_rfl : oblF prog f22 (s22_A Ψ) Ψ = (True ∧ True ∧ True)) ⟨trivial, ⟨trivial, trivial⟩⟩)
    (Eq.mpr (by as_aux_lemma => kernel_rfl : evF prog f22 (s22_A Ψ) Ψ [(.agg [(.bool a_all), (.int .i64 a_low), (.bool a_gap)]), (.agg [(.bool b_all), (.int .i64 b_low), (.bool b_gap)])] h = s22 Ψ a_all a_low a_gap b_all b_low b_gap h) H)

/- 25 dictum/nishimura.two -/
def s25c1 (Ψ : AVal → Heap → Prop) (how1 x y : AVal) (t28 : Bool) (h : Heap) : Prop :=
  ifT t28 (
    retG (.tuple [(.int .i64 0), (.int .i64 2)]) h Ψ) (
    ldN 3 h x fun l_14 =>
    tCons l_14 fun v20 l_15 =>
    tBool v20 fun v21 =>
    tCons l_15 fun v22 l_16 =>
    tInt .i64 v22 fun v23 =>
    tCons l_16 fun v24 l_17 =>
    tBool v24 fun v25 =>
    tNil l_17 (
      ldN 3 h y fun l_18 =>
      tCons l_18 fun v26 l_19 =>
      tBool v26 fun v27 =>
      tCons l_19 fun v28 l_20 =>
      tInt .i64 v28 fun v29 =>
      tCons l_20 fun v30 l_21 =>
      tBool v30 fun v31 =>
      tNil l_21 (
        callV prog how1 [(.agg [(.bool v21), (.int .i64 v23), (.bool v25)]), (.agg [(.bool v27), (.int .i64 v29), (.bool v31)])] h fun v32 h_6 =>
        tAgg v32 fun l_22 =>
        tCons l_22 fun v33 l_23 =>
        tBool v33 fun v34 =>
        tCons l_23 fun v35 l_24 =>
        tInt .i64 v35 fun v36 =>
        tCons l_24 fun v37 l_25 =>
        tBool v37 fun v38 =>
        tNil l_25 (
          callG prog 44 [(.agg [(.bool v34), (.int .i64 v36), (.bool v38)])] h_6 fun v39 h_7 =>
          tInt .i64 v39 fun v40 =>
          ifT (decide (4096 < v40)) (
            retG (.tuple [(.int .i64 0), (.int .i64 2)]) h_7 Ψ) (
            retG (.tuple [(.int .i64 v40), (.int .i64 0)]) h_7 Ψ)))))

def s25 (Ψ : AVal → Heap → Prop) (a : Int) (b : Int) (how : AVal) (h : Heap) : Prop :=
  callG prog 21 [(.int .i64 a)] h fun v h_ =>
  tTup v fun l_ =>
  tCons l_ fun v1 l_1 =>
  tCons l_1 fun v2 l_2 =>
  tBool v2 fun v3 =>
  tNil l_2 (
    tAgg v1 fun l_3 =>
    tCons l_3 fun v4 l_4 =>
    tBool v4 fun v5 =>
    tCons l_4 fun v6 l_5 =>
    tInt .i64 v6 fun v7 =>
    tCons l_5 fun v8 l_6 =>
    tBool v8 fun v9 =>
    tNil l_6 (
      Sym.newRow 3 [(.agg [(.bool false), (.int .i64 0), (.bool false)])] h_ fun r h_1 =>
      st false h_1 (.ptr r 0 0) [(.bool v5), (.int .i64 v7), (.bool v9)] fun h_2 =>
      callG prog 21 [(.int .i64 b)] h_2 fun v10 h_3 =>
      tTup v10 fun l_7 =>
      tCons l_7 fun v11 l_8 =>
      tCons l_8 fun v12 l_9 =>
      tBool v12 fun v13 =>
      tNil l_9 (
        tAgg v11 fun l_10 =>
        tCons l_10 fun v14 l_11 =>
        tBool v14 fun v15 =>
        tCons l_11 fun v16 l_12 =>
        tInt .i64 v16 fun v17 =>
        tCons l_12 fun v18 l_13 =>
        tBool v18 fun v19 =>
        tNil l_13 (
          Sym.newRow 3 [(.agg [(.bool false), (.int .i64 0), (.bool false)])] h_3 fun r1 h_4 =>
          st false h_4 (.ptr r1 0 0) [(.bool v15), (.int .i64 v17), (.bool v19)] fun h_5 =>
          ifT (!v3) (
            s25c1 Ψ how (.ptr r 0 0) (.ptr r1 0 0) true h_5) (
            s25c1 Ψ how (.ptr r 0 0) (.ptr r1 0 0) (!v13) h_5)))))

def s25_A (Ψ : AVal → Heap → Prop) : Ann :=
  .seq (rA 2)
  (.seq (rA 8)
  (.seq (rA 8)
  (.seq (.cut [(2, .any), (8, .any), (10, .any), (28, .bool)] (fun l h => J.cons l fun x0 l => J.cons l fun x1 l => J.cons l fun x2 l => J.cons l fun v l => J.bool v fun x3 => J.nil l (s25c1 Ψ x0 x1 x2 x3 h)) (.reg [⟨none, [(0, false), (1, false), (2, false)]⟩, ⟨some (25, false), [(3, false), (4, false)]⟩, ⟨none, [(5, false)]⟩])
  (.cond (.seq (rA 2)
  (.leaf))
  (.leaf)))
  (.seq (rA 6)
  (.seq (.seq (rA 2)
  (.cond (.seq (rA 2)
  (.leaf))
  (.leaf)))
  (.seq (rA 3)
  (.leaf)))))))

theorem s25_ok {Ψ : AVal → Heap → Prop} {a : Int} {b : Int} {how : AVal} {h : Heap} (H : s25 Ψ a b how h) : ACalls prog 25 [(.int .i64 a), (.int .i64 b), how] h Ψ :=
  calls_of_evF func25 (by kernel_rfl) (by kernel_rfl) (by kernel_rfl)
    (Eq.mpr (by as_aux_lemma => kernel_rfl : oblF prog f25 (s25_A Ψ) Ψ = (True ∧ True ∧ True ∧ ((True) ∧ (∀ (h : Heap) (x0 x1 x2 : AVal) (x3 : Bool), OI (s25c1 Ψ x0 x1 x2 x3 h)) ∧ ((True ∧ True) ∧ True)) ∧ True ∧ (True ∧ (True ∧ True) ∧ True) ∧ True ∧ True)) ⟨trivial, ⟨trivial, ⟨trivial, ⟨⟨trivial, fun _ _ _ _ _ H => H, ⟨⟨trivial, trivial⟩, trivial⟩⟩, ⟨trivial, ⟨⟨trivial, ⟨⟨trivial, trivial⟩, trivial⟩⟩, ⟨trivial, trivial⟩⟩⟩⟩⟩⟩⟩)
    (Eq.mpr (by as_aux_lemma => kernel_rfl : evF prog f25 (s25_A Ψ) Ψ [(.int .i64 a), (.int .i64 b), how] h = s25 Ψ a b how h) H)

/- 26 dictum/nishimura.meet -/
def s26 (Ψ : AVal → Heap → Prop) (a_all : Bool) (a_low : Int) (a_gap : Bool) (b_all : Bool) (b_low : Int) (b_gap : Bool) (h : Heap) : Prop :=
  Sym.newRow 3 [(.agg [(.bool false), (.int .i64 0), (.bool false)])] h fun r h_ =>
  callG prog 46 [(.agg [(.bool a_all), (.int .i64 a_low), (.bool a_gap)]), (.agg [(.bool b_all), (.int .i64 b_low), (.bool b_gap)])] h_ fun v h_1 =>
  tInt .i64 v fun v1 =>
  callG prog 45 [(.int .i64 v1), (.func (.func 47) [] [(.lptr [(.bool a_all), (.int .i64 a_low), (.bool a_gap)]), (.lptr [(.bool b_all), (.int .i64 b_low), (.bool b_gap)])])] h_1 fun v2 h_2 =>
  tAgg v2 fun l_ =>
  tCons l_ fun v3 l_1 =>
  tBool v3 fun v4 =>
  tCons l_1 fun v5 l_2 =>
  tInt .i64 v5 fun v6 =>
  tCons l_2 fun v7 l_3 =>
  tBool v7 fun v8 =>
  tNil l_3 (
    st false h_2 (.ptr r 0 0) [(.bool v4), (.int .i64 v6), (.bool v8)] fun h_3 =>
    ldN 3 h_3 (.ptr r 0 0) fun l_4 =>
    tCons l_4 fun v9 l_5 =>
    tBool v9 fun v10 =>
    tCons l_5 fun v11 l_6 =>
    tInt .i64 v11 fun v12 =>
    tCons l_6 fun v13 l_7 =>
    tBool v13 fun v14 =>
    tNil l_7 (
      retG (.agg [(.bool v10), (.int .i64 v12), (.bool v14)]) h_3 Ψ))

def s26_A (Ψ : AVal → Heap → Prop) : Ann :=
  .seq (.reg [⟨none, [(0, true), (1, true), (2, false)]⟩])
  (.seq (rA 6)
  (.leaf))

theorem s26_ok {Ψ : AVal → Heap → Prop} {a_all : Bool} {a_low : Int} {a_gap : Bool} {b_all : Bool} {b_low : Int} {b_gap : Bool} {h : Heap} (H : s26 Ψ a_all a_low a_gap b_all b_low b_gap h) : ACalls prog 26 [(.agg [(.bool a_all), (.int .i64 a_low), (.bool a_gap)]), (.agg [(.bool b_all), (.int .i64 b_low), (.bool b_gap)])] h Ψ :=
  calls_of_evF func26 (by kernel_rfl) (by kernel_rfl) (by kernel_rfl)
    (Eq.mpr (by as_aux_lemma => kernel_rfl : oblF prog f26 (s26_A Ψ) Ψ = (True ∧ True ∧ True)) ⟨trivial, ⟨trivial, trivial⟩⟩)
    (Eq.mpr (by as_aux_lemma => kernel_rfl : evF prog f26 (s26_A Ψ) Ψ [(.agg [(.bool a_all), (.int .i64 a_low), (.bool a_gap)]), (.agg [(.bool b_all), (.int .i64 b_low), (.bool b_gap)])] h = s26 Ψ a_all a_low a_gap b_all b_low b_gap h) H)

/- 29 dictum/nishimura.join -/
def s29 (Ψ : AVal → Heap → Prop) (a_all : Bool) (a_low : Int) (a_gap : Bool) (b_all : Bool) (b_low : Int) (b_gap : Bool) (h : Heap) : Prop :=
  Sym.newRow 3 [(.agg [(.bool false), (.int .i64 0), (.bool false)])] h fun r h_ =>
  callG prog 46 [(.agg [(.bool a_all), (.int .i64 a_low), (.bool a_gap)]), (.agg [(.bool b_all), (.int .i64 b_low), (.bool b_gap)])] h_ fun v h_1 =>
  tInt .i64 v fun v1 =>
  callG prog 45 [(.int .i64 v1), (.func (.func 50) [] [(.lptr [(.bool a_all), (.int .i64 a_low), (.bool a_gap)]), (.lptr [(.bool b_all), (.int .i64 b_low), (.bool b_gap)])])] h_1 fun v2 h_2 =>
  tAgg v2 fun l_ =>
  tCons l_ fun v3 l_1 =>
  tBool v3 fun v4 =>
  tCons l_1 fun v5 l_2 =>
  tInt .i64 v5 fun v6 =>
  tCons l_2 fun v7 l_3 =>
  tBool v7 fun v8 =>
  tNil l_3 (
    st false h_2 (.ptr r 0 0) [(.bool v4), (.int .i64 v6), (.bool v8)] fun h_3 =>
    ldN 3 h_3 (.ptr r 0 0) fun l_4 =>
    tCons l_4 fun v9 l_5 =>
    tBool v9 fun v10 =>
    tCons l_5 fun v11 l_6 =>
    tInt .i64 v11 fun v12 =>
    tCons l_6 fun v13 l_7 =>
    tBool v13 fun v14 =>
    tNil l_7 (
      retG (.agg [(.bool v10), (.int .i64 v12), (.bool v14)]) h_3 Ψ))

def s29_A (Ψ : AVal → Heap → Prop) : Ann :=
  .seq (.reg [⟨none, [(0, true), (1, true), (2, false)]⟩])
  (.seq (rA 6)
  (.leaf))

theorem s29_ok {Ψ : AVal → Heap → Prop} {a_all : Bool} {a_low : Int} {a_gap : Bool} {b_all : Bool} {b_low : Int} {b_gap : Bool} {h : Heap} (H : s29 Ψ a_all a_low a_gap b_all b_low b_gap h) : ACalls prog 29 [(.agg [(.bool a_all), (.int .i64 a_low), (.bool a_gap)]), (.agg [(.bool b_all), (.int .i64 b_low), (.bool b_gap)])] h Ψ :=
  calls_of_evF func29 (by kernel_rfl) (by kernel_rfl) (by kernel_rfl)
    (Eq.mpr (by as_aux_lemma => kernel_rfl : oblF prog f29 (s29_A Ψ) Ψ = (True ∧ True ∧ True)) ⟨trivial, ⟨trivial, trivial⟩⟩)
    (Eq.mpr (by as_aux_lemma => kernel_rfl : evF prog f29 (s29_A Ψ) Ψ [(.agg [(.bool a_all), (.int .i64 a_low), (.bool a_gap)]), (.agg [(.bool b_all), (.int .i64 b_low), (.bool b_gap)])] h = s29 Ψ a_all a_low a_gap b_all b_low b_gap h) H)

/- 31 dictum/nishimura.imp -/
abbrev s31l1_T := AVal → AVal → Int → Int → Heap → Prop
def s31l1_R (F : s31l1_T) (l : List AVal) (h : Heap) : Prop := J.cons l fun x0 l => J.cons l fun x1 l => J.cons l fun v l => J.int .i64 v fun x2 => J.cons l fun v l => J.int .i64 v fun x3 => J.nil l (F x0 x1 x2 x3 h)
def s31l1_G (F : s31l1_T) (x0 x1 : AVal) (x2 x3 : Int) (h : Heap) : Prop := gJ [.any, .any, .int .i64, .int .i64] [x0, x1, (.int .i64 x2), (.int .i64 x3)] h (s31l1_R F)
def s31l1_E (F : Nat → s31l1_T) (x0 x1 : AVal) (x2 x3 : Int) (h : Heap) : Prop := gJ [.any, .any, .int .i64, .int .i64] [x0, x1, (.int .i64 x2), (.int .i64 x3)] h (fun l h => ∃ n, s31l1_R (F n) l h)
theorem s31l1_go {F : s31l1_T} {x0 x1 : AVal} {x2 x3 : Int} {h : Heap} (H : F x0 x1 x2 x3 h) : s31l1_G F x0 x1 x2 x3 h := gJ_plain rfl H
theorem s31l1_in {F : Nat → s31l1_T} {x0 x1 : AVal} {x2 x3 : Int} {h : Heap} (n : Nat) (H : F n x0 x1 x2 x3 h) : s31l1_E F x0 x1 x2 x3 h := gJ_plain rfl ⟨n, H⟩

def s31l1 (Ψ : AVal → Heap → Prop) : Nat → s31l1_T
  | 0, _, _, _, _, _ => False
  | n + 1, t4, bars, t10, t11, h =>
    ifT (decide (t11 < t10)) (
      callV prog bars [(.int .i64 t11)] h fun v2 h_2 =>
      tBool v2 fun v3 =>
      ifT v3 (
        rg (t11 + 1) (
          callV prog bars [(.int .i64 (t11 + 1))] h_2 fun v4 h_3 =>
          tBool v4 fun v5 =>
          st false h_3 t4 [(.bool false), (.int .i64 t11), (.bool (!v5))] fun h_4 =>
          ldN 3 h_4 t4 fun l_ =>
          tCons l_ fun v6 l_1 =>
          tBool v6 fun v7 =>
          tCons l_1 fun v8 l_2 =>
          tInt .i64 v8 fun v9 =>
          tCons l_2 fun v10 l_3 =>
          tBool v10 fun v11 =>
          tNil l_3 (
            retG (.agg [(.bool v7), (.int .i64 v9), (.bool v11)]) h_4 Ψ))) (
        rg (t11 + 1) (
          s31l1_G (s31l1 Ψ n) t4 bars t10 (t11 + 1) h_2))) (
      st false h t4 [(.bool true), (.int .i64 0), (.bool false)] fun h_5 =>
      ldN 3 h_5 t4 fun l_4 =>
      tCons l_4 fun v12 l_5 =>
      tBool v12 fun v13 =>
      tCons l_5 fun v14 l_6 =>
      tInt .i64 v14 fun v15 =>
      tCons l_6 fun v16 l_7 =>
      tBool v16 fun v17 =>
      tNil l_7 (
        retG (.agg [(.bool v13), (.int .i64 v15), (.bool v17)]) h_5 Ψ))

def s31 (Ψ : AVal → Heap → Prop) (a_all : Bool) (a_low : Int) (a_gap : Bool) (b_all : Bool) (b_low : Int) (b_gap : Bool) (h : Heap) : Prop :=
  Sym.newRow 3 [(.agg [(.bool false), (.int .i64 0), (.bool false)])] h fun r h_ =>
  callG prog 46 [(.agg [(.bool a_all), (.int .i64 a_low), (.bool a_gap)]), (.agg [(.bool b_all), (.int .i64 b_low), (.bool b_gap)])] h_ fun v h_1 =>
  tInt .i64 v fun v1 =>
  s31l1_E (s31l1 Ψ) (.ptr r 0 0) (.func (.func 51) [] [(.lptr [(.bool a_all), (.int .i64 a_low), (.bool a_gap)]), (.lptr [(.bool b_all), (.int .i64 b_low), (.bool b_gap)])]) v1 0 h_1

def s31_A (Ψ : AVal → Heap → Prop) : Ann :=
  .seq (.reg [⟨none, [(0, true), (1, true), (2, false)]⟩])
  (.seq (rA 2)
  (.seq (.seq (rA 4)
  (.block (.loop [(4, .any), (5, .any), (10, .int .i64), (11, .int .i64)] (fun n l h => s31l1_R (s31l1 Ψ n) l h) (fun L1 =>
  .seq (rA 1)
  (.seq (.cond (.leaf)
  (.leaf))
  (.seq (.block (.seq (rA 2)
  (.seq (rA 3)
  (.cond (.seq (rA 8)
  (.leaf))
  (.leaf)))))
  (rA 2)))))))
  (.seq (rA 2)
  (.leaf))))

theorem s31_ok {Ψ : AVal → Heap → Prop} {a_all : Bool} {a_low : Int} {a_gap : Bool} {b_all : Bool} {b_low : Int} {b_gap : Bool} {h : Heap} (H : s31 Ψ a_all a_low a_gap b_all b_low b_gap h) : ACalls prog 31 [(.agg [(.bool a_all), (.int .i64 a_low), (.bool a_gap)]), (.agg [(.bool b_all), (.int .i64 b_low), (.bool b_gap)])] h Ψ :=
  calls_of_evF func31 (by kernel_rfl) (by kernel_rfl) (by kernel_rfl)
    (Eq.mpr (by as_aux_lemma => kernel_rfl : oblF prog f31 (s31_A Ψ) Ψ = (True ∧ True ∧ (True ∧ (∀ (h : Heap) (x0 x1 : AVal) (x2 x3 : Int), ON (s31l1 Ψ 0 x0 x1 x2 x3 h)) ∧ ∀ n1 : Nat, (∀ (h : Heap) (x0 x1 : AVal) (x2 x3 : Int), OI (s31l1 Ψ (n1 + 1) x0 x1 x2 x3 h)) ∧ (True ∧ (True ∧ True) ∧ (True ∧ True ∧ (True ∧ True) ∧ True) ∧ True)) ∧ True ∧ True)) ⟨trivial, ⟨trivial, ⟨⟨trivial, ⟨fun _ _ _ _ _ H => H, fun _ => ⟨fun _ _ _ _ _ H => H, ⟨trivial, ⟨⟨trivial, trivial⟩, ⟨⟨trivial, ⟨trivial, ⟨⟨trivial, trivial⟩, trivial⟩⟩⟩, trivial⟩⟩⟩⟩⟩⟩, ⟨trivial, trivial⟩⟩⟩⟩)
    (Eq.mpr (by as_aux_lemma => kernel_rfl : evF prog f31 (s31_A Ψ) Ψ [(.agg [(.bool a_all), (.int .i64 a_low), (.bool a_gap)]), (.agg [(.bool b_all), (.int .i64 b_low), (.bool b_gap)])] h = s31 Ψ a_all a_low a_gap b_all b_low b_gap h) H)

/- 34 dictum/nishimura.Ladder -/
def s34c1 (Ψ : AVal → Heap → Prop) (t1 : AVal) (atom1 : ByteArray) (k1 : Int) (t19 : Bool) (h : Heap) : Prop :=
  ifT t19 (
    retG (.tuple [(.int .i64 0), (.int .i64 2)]) h Ψ) (
    callG prog 53 [t1] h fun v3 h_2 =>
    tInt .i64 v3 fun v4 =>
    callG prog 54 [t1, (.str atom1), (.int .i64 k1)] h_2 fun v5 h_3 =>
    tTup v5 fun l_ =>
    tCons l_ fun v6 l_1 =>
    tInt .i64 v6 fun v7 =>
    tCons l_1 fun v8 l_2 =>
    tInt .i64 v8 fun v9 =>
    tNil l_2 (
      ifT (v9 != 0) (
        callG prog 55 [t1, (.int .i64 v4)] h_3 fun v10 h_4 =>
        tInt .i64 v10 fun v11 =>
        retG (.tuple [(.int .i64 0), (.int .i64 v9)]) h_4 Ψ) (
        retG (.tuple [(.int .i64 v7), (.int .i64 0)]) h_3 Ψ)))

def s34 (Ψ : AVal → Heap → Prop) (t : AVal) (atom : ByteArray) (k : Int) (h : Heap) : Prop :=
  callG prog 52 [t] h fun v h_ =>
  nilP v fun b =>
  ifT b (
    retG (.tuple [(.int .i64 0), (.int .i64 1)]) h_ Ψ) (
    callG prog 37 [(.str atom)] h_ fun v1 h_1 =>
    tBool v1 fun v2 =>
    ifT (!v2) (
      retG (.tuple [(.int .i64 0), (.int .i64 32)]) h_1 Ψ) (
      ifT (decide (k < (-1))) (
        s34c1 Ψ t atom k true h_1) (
        s34c1 Ψ t atom k (decide (4096 < k)) h_1)))

def s34_A (Ψ : AVal → Heap → Prop) : Ann :=
  .seq (rA 2)
  (.seq (.block (.seq (rA 4)
  (.cond (.seq (rA 2)
  (.leaf))
  (.seq (rA 4)
  (.cond (.seq (rA 2)
  (.leaf))
  (.cut [(0, .any), (1, .str), (2, .int .i64), (19, .bool)] (fun l h => J.cons l fun x0 l => J.cons l fun v l => J.str v fun x1 => J.cons l fun v l => J.int .i64 v fun x2 => J.cons l fun v l => J.bool v fun x3 => J.nil l (s34c1 Ψ x0 x1 x2 x3 h)) (.reg [⟨none, [(0, false), (1, false), (2, false)]⟩, ⟨some (22, false), [(3, false), (4, false)]⟩, ⟨none, [(5, false), (6, false)]⟩])
  (.cond (.seq (rA 2)
  (.leaf))
  (.leaf))))))))
  (.seq (rA 3)
  (.seq (rA 9)
  (.seq (.seq (rA 2)
  (.cond (.seq (rA 3)
  (.seq (rA 3)
  (.leaf)))
  (.leaf)))
  (.seq (rA 3)
  (.leaf))))))

theorem s34_ok {Ψ : AVal → Heap → Prop} {t : AVal} {atom : ByteArray} {k : Int} {h : Heap} (H : s34 Ψ t atom k h) : ACalls prog 34 [t, (.str atom), (.int .i64 k)] h Ψ :=
  calls_of_evF func34 (by kernel_rfl) (by kernel_rfl) (by kernel_rfl)
    (Eq.mpr (by as_aux_lemma => kernel_rfl : oblF prog f34 (s34_A Ψ) Ψ = (True ∧ (True ∧ (True ∧ True) ∧ True ∧ (True ∧ True) ∧ (True) ∧ (∀ (h : Heap) (x0 : AVal) (x1 : ByteArray) (x2 : Int) (x3 : Bool), OI (s34c1 Ψ x0 x1 x2 x3 h)) ∧ ((True ∧ True) ∧ True)) ∧ True ∧ True ∧ (True ∧ (True ∧ True ∧ True) ∧ True) ∧ True ∧ True)) ⟨trivial, ⟨⟨trivial, ⟨⟨trivial, trivial⟩, ⟨trivial, ⟨⟨trivial, trivial⟩, ⟨trivial, fun _ _ _ _ _ H => H, ⟨⟨trivial, trivial⟩, trivial⟩⟩⟩⟩⟩⟩, ⟨trivial, ⟨trivial, ⟨⟨trivial, ⟨⟨trivial, ⟨trivial, trivial⟩⟩, trivial⟩⟩, ⟨trivial, trivial⟩⟩⟩⟩⟩⟩)
    (Eq.mpr (by as_aux_lemma => kernel_rfl : evF prog f34 (s34_A Ψ) Ψ [t, (.str atom), (.int .i64 k)] h = s34 Ψ t atom k h) H)

/- 35 dictum/nishimura.Rung -/
abbrev s35l1_T := AVal → Int → AVal → AVal → Int → Int → Heap → Prop
def s35l1_R (F : s35l1_T) (l : List AVal) (h : Heap) : Prop := J.cons l fun x0 l => J.cons l fun v l => J.int .i64 v fun x1 => J.cons l fun x2 l => J.cons l fun x3 l => J.cons l fun v l => J.int .i64 v fun x4 => J.cons l fun v l => J.int .i64 v fun x5 => J.nil l (F x0 x1 x2 x3 x4 x5 h)
def s35l1_G (F : s35l1_T) (x0 : AVal) (x1 : Int) (x2 x3 : AVal) (x4 x5 : Int) (h : Heap) : Prop := gJ [.any, .int .i64, .any, .any, .int .i64, .int .i64] [x0, (.int .i64 x1), x2, x3, (.int .i64 x4), (.int .i64 x5)] h (s35l1_R F)
def s35l1_E (F : Nat → s35l1_T) (x0 : AVal) (x1 : Int) (x2 x3 : AVal) (x4 x5 : Int) (h : Heap) : Prop := gJ [.any, .int .i64, .any, .any, .int .i64, .int .i64] [x0, (.int .i64 x1), x2, x3, (.int .i64 x4), (.int .i64 x5)] h (fun l h => ∃ n, s35l1_R (F n) l h)
theorem s35l1_go {F : s35l1_T} {x0 : AVal} {x1 : Int} {x2 x3 : AVal} {x4 x5 : Int} {h : Heap} (H : F x0 x1 x2 x3 x4 x5 h) : s35l1_G F x0 x1 x2 x3 x4 x5 h := gJ_plain rfl H
theorem s35l1_in {F : Nat → s35l1_T} {x0 : AVal} {x1 : Int} {x2 x3 : AVal} {x4 x5 : Int} {h : Heap} (n : Nat) (H : F n x0 x1 x2 x3 x4 x5 h) : s35l1_E F x0 x1 x2 x3 x4 x5 h := gJ_plain rfl ⟨n, H⟩

def s35c2 (Ψ : AVal → Heap → Prop) (L1 : s35l1_T) (t2 : AVal) (id_2 : Int) (known1 t34_1 : AVal) (t35_1 t36_1 : Int) (h : Heap) : Prop :=
  rg (t36_1 + 1) (
    L1 t2 id_2 known1 t34_1 t35_1 (t36_1 + 1) h)

def s35l1 (Ψ : AVal → Heap → Prop) : Nat → s35l1_T
  | 0, _, _, _, _, _, _, _ => False
  | n2 + 1, t1, id_1, known, t34, t35, t36, h =>
    ifT (decide (t36 < t35)) (
      ixS 1 t34 t36 fun p =>
      ld1 h p fun v8 =>
      tInt .i64 v8 fun v9 =>
      callG prog 36 [t1, (.int .i64 v9)] h fun v10 h_3 =>
      tTup v10 fun l_6 =>
      tCons l_6 fun v11 l_7 =>
      tCons l_7 fun v12 l_8 =>
      tBool v12 fun v13 =>
      tNil l_8 (
        tAgg v11 fun l_9 =>
        tCons l_9 fun v14 l_10 =>
        tInt .i64 v14 fun v15 =>
        tCons l_10 fun v16 l_11 =>
        tStr v16 fun v17 =>
        tCons l_11 fun v18 l_12 =>
        tInt .i64 v18 fun v19 =>
        tCons l_12 fun v20 l_13 =>
        tInt .i64 v20 fun v21 =>
        tNil l_13 (
          Sym.newRow 4 [(.agg [(.int .i64 0), (.str (ByteArray.mk #[])), (.int .i64 0), (.int .i64 0)])] h_3 fun r1 h_4 =>
          st false h_4 (.ptr r1 0 0) [(.int .i64 v15), (.str v17), (.int .i64 v19), (.int .i64 v21)] fun h_5 =>
          ld1 h_5 (.ptr r1 0 0) fun v22 =>
          tInt .i64 v22 fun v23 =>
          ifT (v23 == 1) (
            mapPut h_5 known (.int .i64 v9) (.agg [(.bool false), (.int .i64 1), (.bool false)]) fun h_6 =>
            s35c2 Ψ (s35l1_G (s35l1 Ψ n2)) t1 id_1 known t34 t35 t36 h_6) (
            ifT (v23 == 3) (
              ld1 h_5 (.ptr r1 0 2) fun v24 =>
              tInt .i64 v24 fun v25 =>
              mapGet (.agg [(.bool false), (.int .i64 0), (.bool false)]) h_5 known (.int .i64 v25) fun v26 b =>
              tAgg v26 fun l_14 =>
              tCons l_14 fun v27 l_15 =>
              tBool v27 fun v28 =>
              tCons l_15 fun v29 l_16 =>
              tInt .i64 v29 fun v30 =>
              tCons l_16 fun v31 l_17 =>
              tBool v31 fun v32 =>
              tNil l_17 (
                ld1 h_5 (.ptr r1 0 3) fun v33 =>
                tInt .i64 v33 fun v34 =>
                mapGet (.agg [(.bool false), (.int .i64 0), (.bool false)]) h_5 known (.int .i64 v34) fun v35 b1 =>
                tAgg v35 fun l_18 =>
                tCons l_18 fun v36 l_19 =>
                tBool v36 fun v37 =>
                tCons l_19 fun v38 l_20 =>
                tInt .i64 v38 fun v39 =>
                tCons l_20 fun v40 l_21 =>
                tBool v40 fun v41 =>
                tNil l_21 (
                  callG prog 26 [(.agg [(.bool v28), (.int .i64 v30), (.bool v32)]), (.agg [(.bool v37), (.int .i64 v39), (.bool v41)])] h_5 fun v42 h_7 =>
                  tAgg v42 fun l_22 =>
                  tCons l_22 fun v43 l_23 =>
                  tBool v43 fun v44 =>
                  tCons l_23 fun v45 l_24 =>
                  tInt .i64 v45 fun v46 =>
                  tCons l_24 fun v47 l_25 =>
                  tBool v47 fun v48 =>
                  tNil l_25 (
                    mapPut h_7 known (.int .i64 v9) (.agg [(.bool v44), (.int .i64 v46), (.bool v48)]) fun h_8 =>
                    s35c2 Ψ (s35l1_G (s35l1 Ψ n2)) t1 id_1 known t34 t35 t36 h_8)))) (
              ifT (v23 == 4) (
                ld1 h_5 (.ptr r1 0 2) fun v49 =>
                tInt .i64 v49 fun v50 =>
                mapGet (.agg [(.bool false), (.int .i64 0), (.bool false)]) h_5 known (.int .i64 v50) fun v51 b2 =>
                tAgg v51 fun l_26 =>
                tCons l_26 fun v52 l_27 =>
                tBool v52 fun v53 =>
                tCons l_27 fun v54 l_28 =>
                tInt .i64 v54 fun v55 =>
                tCons l_28 fun v56 l_29 =>
                tBool v56 fun v57 =>
                tNil l_29 (
                  ld1 h_5 (.ptr r1 0 3) fun v58 =>
                  tInt .i64 v58 fun v59 =>
                  mapGet (.agg [(.bool false), (.int .i64 0), (.bool false)]) h_5 known (.int .i64 v59) fun v60 b3 =>
                  tAgg v60 fun l_30 =>
                  tCons l_30 fun v61 l_31 =>
                  tBool v61 fun v62 =>
                  tCons l_31 fun v63 l_32 =>
                  tInt .i64 v63 fun v64 =>
                  tCons l_32 fun v65 l_33 =>
                  tBool v65 fun v66 =>
                  tNil l_33 (
                    callG prog 29 [(.agg [(.bool v53), (.int .i64 v55), (.bool v57)]), (.agg [(.bool v62), (.int .i64 v64), (.bool v66)])] h_5 fun v67 h_9 =>
                    tAgg v67 fun l_34 =>
                    tCons l_34 fun v68 l_35 =>
                    tBool v68 fun v69 =>
                    tCons l_35 fun v70 l_36 =>
                    tInt .i64 v70 fun v71 =>
                    tCons l_36 fun v72 l_37 =>
                    tBool v72 fun v73 =>
                    tNil l_37 (
                      mapPut h_9 known (.int .i64 v9) (.agg [(.bool v69), (.int .i64 v71), (.bool v73)]) fun h_10 =>
                      s35c2 Ψ (s35l1_G (s35l1 Ψ n2)) t1 id_1 known t34 t35 t36 h_10)))) (
                ifT (v23 == 5) (
                  ld1 h_5 (.ptr r1 0 2) fun v74 =>
                  tInt .i64 v74 fun v75 =>
                  mapGet (.agg [(.bool false), (.int .i64 0), (.bool false)]) h_5 known (.int .i64 v75) fun v76 b4 =>
                  tAgg v76 fun l_38 =>
                  tCons l_38 fun v77 l_39 =>
                  tBool v77 fun v78 =>
                  tCons l_39 fun v79 l_40 =>
                  tInt .i64 v79 fun v80 =>
                  tCons l_40 fun v81 l_41 =>
                  tBool v81 fun v82 =>
                  tNil l_41 (
                    ld1 h_5 (.ptr r1 0 3) fun v83 =>
                    tInt .i64 v83 fun v84 =>
                    mapGet (.agg [(.bool false), (.int .i64 0), (.bool false)]) h_5 known (.int .i64 v84) fun v85 b5 =>
                    tAgg v85 fun l_42 =>
                    tCons l_42 fun v86 l_43 =>
                    tBool v86 fun v87 =>
                    tCons l_43 fun v88 l_44 =>
                    tInt .i64 v88 fun v89 =>
                    tCons l_44 fun v90 l_45 =>
                    tBool v90 fun v91 =>
                    tNil l_45 (
                      callG prog 31 [(.agg [(.bool v78), (.int .i64 v80), (.bool v82)]), (.agg [(.bool v87), (.int .i64 v89), (.bool v91)])] h_5 fun v92 h_11 =>
                      tAgg v92 fun l_46 =>
                      tCons l_46 fun v93 l_47 =>
                      tBool v93 fun v94 =>
                      tCons l_47 fun v95 l_48 =>
                      tInt .i64 v95 fun v96 =>
                      tCons l_48 fun v97 l_49 =>
                      tBool v97 fun v98 =>
                      tNil l_49 (
                        mapPut h_11 known (.int .i64 v9) (.agg [(.bool v94), (.int .i64 v96), (.bool v98)]) fun h_12 =>
                        s35c2 Ψ (s35l1_G (s35l1 Ψ n2)) t1 id_1 known t34 t35 t36 h_12)))) (
                  s35c2 Ψ (s35l1_G (s35l1 Ψ n2)) t1 id_1 known t34 t35 t36 h_5))))))) (
      mapGet (.agg [(.bool false), (.int .i64 0), (.bool false)]) h known (.int .i64 id_1) fun v99 b6 =>
      tAgg v99 fun l_50 =>
      tCons l_50 fun v100 l_51 =>
      tBool v100 fun v101 =>
      tCons l_51 fun v102 l_52 =>
      tInt .i64 v102 fun v103 =>
      tCons l_52 fun v104 l_53 =>
      tBool v104 fun v105 =>
      tNil l_53 (
        callG prog 44 [(.agg [(.bool v101), (.int .i64 v103), (.bool v105)])] h fun v106 h_13 =>
        tInt .i64 v106 fun v107 =>
        retG (.tuple [(.int .i64 v107), (.int .i64 0)]) h_13 Ψ))

def s35 (Ψ : AVal → Heap → Prop) (t : AVal) (id_ : Int) (h : Heap) : Prop :=
  callG prog 56 [t, (.int .i64 id_)] h fun v h_ =>
  tTup v fun l_ =>
  tCons l_ fun v1 l_1 =>
  tCons l_1 fun v2 l_2 =>
  tInt .i64 v2 fun v3 =>
  tNil l_2 (
    ifT (v3 != 0) (
      retG (.tuple [(.int .i64 0), (.int .i64 v3)]) h_ Ψ) (
      lenN v1 fun n =>
      ifT (decide (1 < n)) (
        retG (.tuple [(.int .i64 0), (.int .i64 220)]) h_ Ψ) (
        newMap h_ fun r h_1 =>
        callG prog 57 [t, (.int .i64 id_)] h_1 fun v4 h_2 =>
        tTup v4 fun l_3 =>
        tCons l_3 fun v5 l_4 =>
        tCons l_4 fun v6 l_5 =>
        tInt .i64 v6 fun v7 =>
        tNil l_5 (
          lenN v5 fun n1 =>
          s35l1_E (s35l1 Ψ) t id_ (.mapr r) v5 n1 0 h_2))))

def s35_A (Ψ : AVal → Heap → Prop) : Ann :=
  .seq (rA 2)
  (.seq (rA 8)
  (.seq (.seq (rA 2)
  (.cond (.seq (rA 3)
  (.leaf))
  (.leaf)))
  (.seq (.seq (rA 3)
  (.cond (.seq (rA 2)
  (.leaf))
  (.leaf)))
  (.seq (rA 2)
  (.seq (rA 8)
  (.seq (.seq (rA 3)
  (.block (.loop [(0, .any), (1, .int .i64), (8, .any), (34, .any), (35, .int .i64), (36, .int .i64)] (fun n l h => s35l1_R (s35l1 Ψ n) l h) (fun L1 =>
  .seq (rA 1)
  (.seq (.cond (.leaf)
  (.leaf))
  (.cut [(0, .any), (1, .int .i64), (8, .any), (34, .any), (35, .int .i64), (36, .int .i64)] (fun l h => J.cons l fun x0 l => J.cons l fun v l => J.int .i64 v fun x1 => J.cons l fun x2 l => J.cons l fun x3 l => J.cons l fun v l => J.int .i64 v fun x4 => J.cons l fun v l => J.int .i64 v fun x5 => J.nil l (s35c2 Ψ (fun y0 y1 y2 y3 y4 y5 h => L1 [y0, (.int .i64 y1), y2, y3, (.int .i64 y4), (.int .i64 y5)] h) x0 x1 x2 x3 x4 x5 h)) (.block (.seq (rA 3)
  (.seq (rA 9)
  (.seq (rA 2)
  (.block (.seq (rA 2)
  (.cond (rA 4)
  (.seq (rA 2)
  (.cond (rA 12)
  (.seq (rA 2)
  (.cond (rA 12)
  (.seq (rA 2)
  (.cond (rA 12)
  (.leaf))))))))))))))
  (rA 2)))))))
  (.seq (rA 6)
  (.leaf))))))))

theorem s35_ok {Ψ : AVal → Heap → Prop} {t : AVal} {id_ : Int} {h : Heap} (H : s35 Ψ t id_ h) : ACalls prog 35 [t, (.int .i64 id_)] h Ψ :=
  calls_of_evF func35 (by kernel_rfl) (by kernel_rfl) (by kernel_rfl)
    (Eq.mpr (by as_aux_lemma => kernel_rfl : oblF prog f35 (s35_A Ψ) Ψ = (True ∧ True ∧ (True ∧ (True ∧ True) ∧ True) ∧ (True ∧ (True ∧ True) ∧ True) ∧ True ∧ True ∧ (True ∧ (∀ (h : Heap) (x0 : AVal) (x1 : Int) (x2 x3 : AVal) (x4 x5 : Int), ON (s35l1 Ψ 0 x0 x1 x2 x3 x4 x5 h)) ∧ ∀ n1 : Nat, (∀ (h : Heap) (x0 : AVal) (x1 : Int) (x2 x3 : AVal) (x4 x5 : Int), OI (s35l1 Ψ (n1 + 1) x0 x1 x2 x3 x4 x5 h)) ∧ (True ∧ (True ∧ True) ∧ (True ∧ True ∧ True ∧ True ∧ True ∧ True ∧ True ∧ True ∧ True ∧ True ∧ True ∧ True) ∧ (∀ (h : Heap) (x0 : AVal) (x1 : Int) (x2 x3 : AVal) (x4 x5 : Int), OI (s35c2 Ψ (s35l1_G (s35l1 Ψ n1)) x0 x1 x2 x3 x4 x5 h)) ∧ (True))) ∧ True ∧ True)) ⟨trivial, ⟨trivial, ⟨⟨trivial, ⟨⟨trivial, trivial⟩, trivial⟩⟩, ⟨⟨trivial, ⟨⟨trivial, trivial⟩, trivial⟩⟩, ⟨trivial, ⟨trivial, ⟨⟨trivial, ⟨fun _ _ _ _ _ _ _ H => H, fun _ => ⟨fun _ _ _ _ _ _ _ H => H, ⟨trivial, ⟨⟨trivial, trivial⟩, ⟨⟨trivial, ⟨trivial, ⟨trivial, ⟨trivial, ⟨trivial, ⟨trivial, ⟨trivial, ⟨trivial, ⟨trivial, ⟨trivial, ⟨trivial, trivial⟩⟩⟩⟩⟩⟩⟩⟩⟩⟩⟩, fun _ _ _ _ _ _ _ H => H, trivial⟩⟩⟩⟩⟩⟩, ⟨trivial, trivial⟩⟩⟩⟩⟩⟩⟩⟩)
    (Eq.mpr (by as_aux_lemma => kernel_rfl : evF prog f35 (s35_A Ψ) Ψ [t, (.int .i64 id_)] h = s35 Ψ t id_ h) H)

/- 37 dictum/formula.Word -/
abbrev s37l1_T := ByteArray → Int → Int → Heap → Prop
def s37l1_R (F : s37l1_T) (l : List AVal) (h : Heap) : Prop := J.cons l fun v l => J.str v fun x0 => J.cons l fun v l => J.int .i64 v fun x1 => J.cons l fun v l => J.int .i64 v fun x2 => J.nil l (F x0 x1 x2 h)
def s37l1_G (F : s37l1_T) (x0 : ByteArray) (x1 x2 : Int) (h : Heap) : Prop := gJ [.str, .int .i64, .int .i64] [(.str x0), (.int .i64 x1), (.int .i64 x2)] h (s37l1_R F)
def s37l1_E (F : Nat → s37l1_T) (x0 : ByteArray) (x1 x2 : Int) (h : Heap) : Prop := gJ [.str, .int .i64, .int .i64] [(.str x0), (.int .i64 x1), (.int .i64 x2)] h (fun l h => ∃ n, s37l1_R (F n) l h)
theorem s37l1_go {F : s37l1_T} {x0 : ByteArray} {x1 x2 : Int} {h : Heap} (H : F x0 x1 x2 h) : s37l1_G F x0 x1 x2 h := gJ_plain rfl H
theorem s37l1_in {F : Nat → s37l1_T} {x0 : ByteArray} {x1 x2 : Int} {h : Heap} (n : Nat) (H : F n x0 x1 x2 h) : s37l1_E F x0 x1 x2 h := gJ_plain rfl ⟨n, H⟩

def s37c3 (Ψ : AVal → Heap → Prop) (L1 : s37l1_T) (name3 : ByteArray) (t8_2 t9_2 : Int) (t44 : Bool) (h : Heap) : Prop :=
  ifT t44 (
    retG (.bool false) h Ψ) (
    rg (t9_2 + 1) (
      L1 name3 t8_2 (t9_2 + 1) h))

def s37c2 (Ψ : AVal → Heap → Prop) (L1 : s37l1_T) (name2 : ByteArray) (i c : Int) (letter : Bool) (t8_1 t9_1 : Int) (h : Heap) : Prop :=
  ifT (!letter) (
    ifT (i == 0) (
      s37c3 Ψ L1 name2 t8_1 t9_1 true h) (
      ifT (c != 95) (
        ifT (c != 39) (
          ifT (decide (c < 48)) (
            s37c3 Ψ L1 name2 t8_1 t9_1 true h) (
            s37c3 Ψ L1 name2 t8_1 t9_1 (decide (57 < c)) h)) (
          s37c3 Ψ L1 name2 t8_1 t9_1 false h)) (
        s37c3 Ψ L1 name2 t8_1 t9_1 false h))) (
    s37c3 Ψ L1 name2 t8_1 t9_1 false h)

def s37l1 (Ψ : AVal → Heap → Prop) : Nat → s37l1_T
  | 0, _, _, _, _ => False
  | n + 1, name1, t8, t9, h =>
    ifT (decide (t9 < t8)) (
      ((0 : Int) ≤ t9 ∧ t9 < (name1.size : Int)) ∧
      ifT (decide (97 ≤ (bitsI .or .u8 (btA name1 t9) 32))) (
        s37c2 Ψ (s37l1_G (s37l1 Ψ n)) name1 t9 (btA name1 t9) (decide ((bitsI .or .u8 (btA name1 t9) 32) ≤ 122)) t8 t9 h) (
        s37c2 Ψ (s37l1_G (s37l1 Ψ n)) name1 t9 (btA name1 t9) false t8 t9 h)) (
      ifT (!strEq name1 (ByteArray.mk #[])) (
        ifT (decide ((name1.size : Int) ≤ 31)) (
          callG prog 60 [(.str name1)] h fun v h_ =>
          tBool v fun v1 =>
          retG (.bool (!v1)) h_ Ψ) (
          retG (.bool false) h Ψ)) (
        retG (.bool false) h Ψ))

def s37 (Ψ : AVal → Heap → Prop) (name : ByteArray) (h : Heap) : Prop :=
  s37l1_E (s37l1 Ψ) name (name.size : Int) 0 h

def s37_A (Ψ : AVal → Heap → Prop) : Ann :=
  .seq (rA 1)
  (.seq (.seq (rA 3)
  (.block (.loop [(0, .str), (8, .int .i64), (9, .int .i64)] (fun n l h => s37l1_R (s37l1 Ψ n) l h) (fun L1 =>
  .seq (rA 1)
  (.seq (.cond (.leaf)
  (.leaf))
  (.seq (.block (.seq (rA 2)
  (.seq (rA 4)
  (.seq (rA 3)
  (.cut [(0, .str), (3, .int .i64), (4, .int .u8), (6, .bool), (8, .int .i64), (9, .int .i64)] (fun l h => J.cons l fun v l => J.str v fun x0 => J.cons l fun v l => J.int .i64 v fun x1 => J.cons l fun v l => J.int .u8 v fun x2 => J.cons l fun v l => J.bool v fun x3 => J.cons l fun v l => J.int .i64 v fun x4 => J.cons l fun v l => J.int .i64 v fun x5 => J.nil l (s37c2 Ψ (fun y0 y1 y2 h => L1 [(.str y0), (.int .i64 y1), (.int .i64 y2)] h) x0 x1 x2 x3 x4 x5 h)) (.reg [⟨none, [(0, false), (1, false), (2, false)]⟩, ⟨some (19, true), [(3, false), (4, false)]⟩, ⟨none, [(5, false), (6, false)]⟩])
  (.cut [(0, .str), (8, .int .i64), (9, .int .i64), (44, .bool)] (fun l h => J.cons l fun v l => J.str v fun x0 => J.cons l fun v l => J.int .i64 v fun x1 => J.cons l fun v l => J.int .i64 v fun x2 => J.cons l fun v l => J.bool v fun x3 => J.nil l (s37c3 Ψ (fun y0 y1 y2 h => L1 [(.str y0), (.int .i64 y1), (.int .i64 y2)] h) x0 x1 x2 x3 h)) (.reg [⟨none, [(0, false), (1, false), (2, false)]⟩, ⟨some (25, true), [(3, false), (4, false), (5, false)]⟩, ⟨some (28, false), [(6, false), (7, false), (8, false)]⟩, ⟨some (31, true), [(9, false), (10, false)]⟩, ⟨some (28, false), [(11, false), (12, false)]⟩, ⟨some (35, true), [(13, false), (14, false), (15, false)]⟩, ⟨some (38, false), [(16, false), (17, false)]⟩, ⟨some (35, true), [(18, false)]⟩, ⟨some (28, false), [(19, false)]⟩, ⟨some (25, true), [(20, false)]⟩, ⟨none, [(21, false)]⟩])
  (.cond (.seq (rA 1)
  (.leaf))
  (.leaf))))))))
  (rA 2)))))))
  (.seq (.reg [⟨none, [(0, false), (1, false), (2, false)]⟩, ⟨some (48, true), [(3, false), (4, false), (5, false)]⟩, ⟨none, [(6, false), (7, false)]⟩, ⟨some (53, true), [(8, false), (9, false), (10, false)]⟩, ⟨none, [(11, false), (12, false)]⟩])
  (.leaf)))

theorem s37_ok {Ψ : AVal → Heap → Prop} {name : ByteArray} {h : Heap} (H : s37 Ψ name h) : ACalls prog 37 [(.str name)] h Ψ :=
  calls_of_evF func37 (by kernel_rfl) (by kernel_rfl) (by kernel_rfl)
    (Eq.mpr (by as_aux_lemma => kernel_rfl : oblF prog f37 (s37_A Ψ) Ψ = (True ∧ (True ∧ (∀ (h : Heap) (x0 : ByteArray) (x1 x2 : Int), ON (s37l1 Ψ 0 x0 x1 x2 h)) ∧ ∀ n1 : Nat, (∀ (h : Heap) (x0 : ByteArray) (x1 x2 : Int), OI (s37l1 Ψ (n1 + 1) x0 x1 x2 h)) ∧ (True ∧ (True ∧ True) ∧ (True ∧ True ∧ True ∧ (True) ∧ (∀ (h : Heap) (x0 : ByteArray) (x1 x2 : Int) (x3 : Bool) (x4 x5 : Int), OI (s37c2 Ψ (s37l1_G (s37l1 Ψ n1)) x0 x1 x2 x3 x4 x5 h)) ∧ ((True) ∧ (∀ (h : Heap) (x0 : ByteArray) (x1 x2 : Int) (x3 : Bool), OI (s37c3 Ψ (s37l1_G (s37l1 Ψ n1)) x0 x1 x2 x3 h)) ∧ ((True ∧ True) ∧ True))) ∧ True)) ∧ True ∧ True)) ⟨trivial, ⟨⟨trivial, ⟨fun _ _ _ _ H => H, fun _ => ⟨fun _ _ _ _ H => H, ⟨trivial, ⟨⟨trivial, trivial⟩, ⟨⟨trivial, ⟨trivial, ⟨trivial, ⟨trivial, fun _ _ _ _ _ _ _ H => H, ⟨trivial, fun _ _ _ _ _ H => H, ⟨⟨trivial, trivial⟩, trivial⟩⟩⟩⟩⟩⟩, trivial⟩⟩⟩⟩⟩⟩, ⟨trivial, trivial⟩⟩⟩)
    (Eq.mpr (by as_aux_lemma => kernel_rfl : evF prog f37 (s37_A Ψ) Ψ [(.str name)] h = s37 Ψ name h) H)

/- 38 dictum/dictumref03.Word -/
abbrev s38l2_T := ByteArray → Int → Heap → Prop
def s38l2_R (F : s38l2_T) (l : List AVal) (h : Heap) : Prop := J.cons l fun v l => J.str v fun x0 => J.cons l fun v l => J.int .i64 v fun x1 => J.nil l (F x0 x1 h)
def s38l2_G (F : s38l2_T) (x0 : ByteArray) (x1 : Int) (h : Heap) : Prop := gJ [.str, .int .i64] [(.str x0), (.int .i64 x1)] h (s38l2_R F)
def s38l2_E (F : Nat → s38l2_T) (x0 : ByteArray) (x1 : Int) (h : Heap) : Prop := gJ [.str, .int .i64] [(.str x0), (.int .i64 x1)] h (fun l h => ∃ n, s38l2_R (F n) l h)
theorem s38l2_go {F : s38l2_T} {x0 : ByteArray} {x1 : Int} {h : Heap} (H : F x0 x1 h) : s38l2_G F x0 x1 h := gJ_plain rfl H
theorem s38l2_in {F : Nat → s38l2_T} {x0 : ByteArray} {x1 : Int} {h : Heap} (n : Nat) (H : F n x0 x1 h) : s38l2_E F x0 x1 h := gJ_plain rfl ⟨n, H⟩

def s38c3 (Ψ : AVal → Heap → Prop) (L2 : s38l2_T) (s3 : ByteArray) (i1 : Int) (t55 : Bool) (h : Heap) : Prop :=
  ifT t55 (
    retG (.bool false) h Ψ) (
    rg (i1 + 1) (
      L2 s3 (i1 + 1) h))

abbrev s38l4_T := ByteArray → AVal → Int → Heap → Prop
def s38l4_R (F : s38l4_T) (l : List AVal) (h : Heap) : Prop := J.cons l fun v l => J.str v fun x0 => J.cons l fun x1 l => J.cons l fun v l => J.int .i64 v fun x2 => J.nil l (F x0 x1 x2 h)
def s38l4_G (F : s38l4_T) (x0 : ByteArray) (x1 : AVal) (x2 : Int) (h : Heap) : Prop := gJ [.str, .any, .int .i64] [(.str x0), x1, (.int .i64 x2)] h (s38l4_R F)
def s38l4_E (F : Nat → s38l4_T) (x0 : ByteArray) (x1 : AVal) (x2 : Int) (h : Heap) : Prop := gJ [.str, .any, .int .i64] [(.str x0), x1, (.int .i64 x2)] h (fun l h => ∃ n, s38l4_R (F n) l h)
theorem s38l4_go {F : s38l4_T} {x0 : ByteArray} {x1 : AVal} {x2 : Int} {h : Heap} (H : F x0 x1 x2 h) : s38l4_G F x0 x1 x2 h := gJ_plain rfl H
theorem s38l4_in {F : Nat → s38l4_T} {x0 : ByteArray} {x1 : AVal} {x2 : Int} {h : Heap} (n : Nat) (H : F n x0 x1 x2 h) : s38l4_E F x0 x1 x2 h := gJ_plain rfl ⟨n, H⟩

def s38l4 (Ψ : AVal → Heap → Prop) : Nat → s38l4_T
  | 0, _, _, _, _ => False
  | n1 + 1, s4, l_, i2, h =>
    lenN l_ fun n2 =>
    ifT (decide (i2 < n2)) (
      ixS 1 l_ i2 fun p =>
      ld1 h p fun v3 =>
      tStr v3 fun v4 =>
      ifT (strEq v4 s4) (
        retG (.bool false) h Ψ) (
        rg (i2 + 1) (
          s38l4_G (s38l4 Ψ n1) s4 l_ (i2 + 1) h))) (
      retG (.bool true) h Ψ)

def s38l2 (Ψ : AVal → Heap → Prop) : Nat → s38l2_T
  | 0, _, _, _ => False
  | n + 1, s2, i, h =>
    ifT (decide (i < (s2.size : Int))) (
      ((0 : Int) ≤ i ∧ i < (s2.size : Int)) ∧
      callG prog 61 [(.int .u8 (btA s2 i))] h fun v h_ =>
      tBool v fun v1 =>
      ifT (!v1) (
        ((0 : Int) ≤ i ∧ i < (s2.size : Int)) ∧
        ifT (decide (48 ≤ (btA s2 i))) (
          ((0 : Int) ≤ i ∧ i < (s2.size : Int)) ∧
          ifT (!(decide ((btA s2 i) ≤ 57))) (
            ((0 : Int) ≤ i ∧ i < (s2.size : Int)) ∧
            ifT ((btA s2 i) != 95) (
              ((0 : Int) ≤ i ∧ i < (s2.size : Int)) ∧
              s38c3 Ψ (s38l2_G (s38l2 Ψ n)) s2 i ((btA s2 i) != 39) h_) (
              s38c3 Ψ (s38l2_G (s38l2 Ψ n)) s2 i false h_)) (
            s38c3 Ψ (s38l2_G (s38l2 Ψ n)) s2 i false h_)) (
          ((0 : Int) ≤ i ∧ i < (s2.size : Int)) ∧
          ifT ((btA s2 i) != 95) (
            ((0 : Int) ≤ i ∧ i < (s2.size : Int)) ∧
            s38c3 Ψ (s38l2_G (s38l2 Ψ n)) s2 i ((btA s2 i) != 39) h_) (
            s38c3 Ψ (s38l2_G (s38l2 Ψ n)) s2 i false h_))) (
        s38c3 Ψ (s38l2_G (s38l2 Ψ n)) s2 i false h_)) (
      callG prog 62 [] h fun v2 h_1 =>
      s38l4_E (s38l4 Ψ) s2 v2 0 h_1)

def s38c1 (Ψ : AVal → Heap → Prop) (s1 : ByteArray) (t19 : Bool) (h : Heap) : Prop :=
  ifT t19 (
    retG (.bool false) h Ψ) (
    s38l2_E (s38l2 Ψ) s1 1 h)

def s38 (Ψ : AVal → Heap → Prop) (s : ByteArray) (h : Heap) : Prop :=
  ifT (decide ((s.size : Int) < 1)) (
    s38c1 Ψ s true h) (
    ifT (decide (31 < (s.size : Int))) (
      s38c1 Ψ s true h) (
      ((0 : Int) ≤ 0 ∧ 0 < (s.size : Int)) ∧
      callG prog 61 [(.int .u8 (btA s 0))] h fun v5 h_2 =>
      tBool v5 fun v6 =>
      s38c1 Ψ s (!v6) h_2))

def s38_A (Ψ : AVal → Heap → Prop) : Ann :=
  .seq (rA 1)
  (.seq (.cut [(0, .str), (19, .bool)] (fun l h => J.cons l fun v l => J.str v fun x0 => J.cons l fun v l => J.bool v fun x1 => J.nil l (s38c1 Ψ x0 x1 h)) (.reg [⟨none, [(0, false), (1, false), (2, false), (3, false)]⟩, ⟨some (9, false), [(4, false), (5, false), (6, false)]⟩, ⟨none, [(7, false), (8, false)]⟩, ⟨some (14, false), [(9, false), (10, false), (11, false), (12, false)]⟩, ⟨none, [(13, false)]⟩])
  (.cond (.seq (rA 1)
  (.leaf))
  (.leaf)))
  (.seq (.seq (rA 1)
  (.block (.loop [(0, .str), (3, .int .i64)] (fun n l h => s38l2_R (s38l2 Ψ n) l h) (fun L2 =>
  .seq (.seq (rA 4)
  (.cond (.leaf)
  (.leaf)))
  (.seq (.block (.cut [(0, .str), (3, .int .i64), (55, .bool)] (fun l h => J.cons l fun v l => J.str v fun x0 => J.cons l fun v l => J.int .i64 v fun x1 => J.cons l fun v l => J.bool v fun x2 => J.nil l (s38c3 Ψ (fun y0 y1 h => L2 [(.str y0), (.int .i64 y1)] h) x0 x1 x2 h)) (.reg [⟨none, [(0, false), (1, false), (2, false), (3, false), (4, false), (5, false)]⟩, ⟨some (31, true), [(6, false), (7, false), (8, false), (9, false), (10, false)]⟩, ⟨some (36, true), [(11, false), (12, false), (13, false), (14, false)]⟩, ⟨some (31, true), [(15, false), (16, false)]⟩, ⟨none, [(17, false), (18, false)]⟩, ⟨some (44, true), [(19, false), (20, false), (21, false), (22, false)]⟩, ⟨none, [(23, false), (24, false)]⟩, ⟨some (50, true), [(25, false), (26, false), (27, false), (28, false)]⟩, ⟨none, [(29, false)]⟩])
  (.cond (.seq (rA 1)
  (.leaf))
  (.leaf))))
  (rA 3))))))
  (.seq (rA 2)
  (.seq (.seq (rA 1)
  (.block (.loop [(0, .str), (4, .any), (5, .int .i64)] (fun n l h => s38l4_R (s38l4 Ψ n) l h) (fun L4 =>
  .seq (.seq (rA 4)
  (.cond (.leaf)
  (.leaf)))
  (.seq (.block (.seq (rA 6)
  (.cond (.seq (rA 1)
  (.leaf))
  (.leaf))))
  (rA 3))))))
  (.seq (rA 1)
  (.leaf))))))

theorem s38_ok {Ψ : AVal → Heap → Prop} {s : ByteArray} {h : Heap} (H : s38 Ψ s h) : ACalls prog 38 [(.str s)] h Ψ :=
  calls_of_evF func38 (by kernel_rfl) (by kernel_rfl) (by kernel_rfl)
    (Eq.mpr (by as_aux_lemma => kernel_rfl : oblF prog f38 (s38_A Ψ) Ψ = (True ∧ ((True) ∧ (∀ (h : Heap) (x0 : ByteArray) (x1 : Bool), OI (s38c1 Ψ x0 x1 h)) ∧ ((True ∧ True) ∧ True)) ∧ (True ∧ (∀ (h : Heap) (x0 : ByteArray) (x1 : Int), ON (s38l2 Ψ 0 x0 x1 h)) ∧ ∀ n2 : Nat, (∀ (h : Heap) (x0 : ByteArray) (x1 : Int), OI (s38l2 Ψ (n2 + 1) x0 x1 h)) ∧ ((True ∧ True ∧ True) ∧ ((True) ∧ (∀ (h : Heap) (x0 : ByteArray) (x1 : Int) (x2 : Bool), OI (s38c3 Ψ (s38l2_G (s38l2 Ψ n2)) x0 x1 x2 h)) ∧ ((True ∧ True) ∧ True)) ∧ True)) ∧ True ∧ (True ∧ (∀ (h : Heap) (x0 : ByteArray) (x1 : AVal) (x2 : Int), ON (s38l4 Ψ 0 x0 x1 x2 h)) ∧ ∀ n4 : Nat, (∀ (h : Heap) (x0 : ByteArray) (x1 : AVal) (x2 : Int), OI (s38l4 Ψ (n4 + 1) x0 x1 x2 h)) ∧ ((True ∧ True ∧ True) ∧ (True ∧ (True ∧ True) ∧ True) ∧ True)) ∧ True ∧ True)) ⟨trivial, ⟨⟨trivial, fun _ _ _ H => H, ⟨⟨trivial, trivial⟩, trivial⟩⟩, ⟨⟨trivial, ⟨fun _ _ _ H => H, fun _ => ⟨fun _ _ _ H => H, ⟨⟨trivial, ⟨trivial, trivial⟩⟩, ⟨⟨trivial, fun _ _ _ _ H => H, ⟨⟨trivial, trivial⟩, trivial⟩⟩, trivial⟩⟩⟩⟩⟩, ⟨trivial, ⟨⟨trivial, ⟨fun _ _ _ _ H => H, fun _ => ⟨fun _ _ _ _ H => H, ⟨⟨trivial, ⟨trivial, trivial⟩⟩, ⟨⟨trivial, ⟨⟨trivial, trivial⟩, trivial⟩⟩, trivial⟩⟩⟩⟩⟩, ⟨trivial, trivial⟩⟩⟩⟩⟩⟩)
    (Eq.mpr (by as_aux_lemma => kernel_rfl : evF prog f38 (s38_A Ψ) Ψ [(.str s)] h = s38 Ψ s h) H)

/- 39 dictum/dictumref03.Ints -/
abbrev s39l1_T := AVal → AVal → Int → Heap → Prop
def s39l1_R (F : s39l1_T) (l : List AVal) (h : Heap) : Prop := J.cons l fun x0 l => J.cons l fun x1 l => J.cons l fun v l => J.int .i64 v fun x2 => J.nil l (F x0 x1 x2 h)
def s39l1_G (F : s39l1_T) (x0 x1 : AVal) (x2 : Int) (h : Heap) : Prop := gJ [.any, .any, .int .i64] [x0, x1, (.int .i64 x2)] h (s39l1_R F)
def s39l1_E (F : Nat → s39l1_T) (x0 x1 : AVal) (x2 : Int) (h : Heap) : Prop := gJ [.any, .any, .int .i64] [x0, x1, (.int .i64 x2)] h (fun l h => ∃ n, s39l1_R (F n) l h)
theorem s39l1_go {F : s39l1_T} {x0 x1 : AVal} {x2 : Int} {h : Heap} (H : F x0 x1 x2 h) : s39l1_G F x0 x1 x2 h := gJ_plain rfl H
theorem s39l1_in {F : Nat → s39l1_T} {x0 x1 : AVal} {x2 : Int} {h : Heap} (n : Nat) (H : F n x0 x1 x2 h) : s39l1_E F x0 x1 x2 h := gJ_plain rfl ⟨n, H⟩

def s39l1 (Ψ : AVal → Heap → Prop) : Nat → s39l1_T
  | 0, _, _, _, _ => False
  | n2 + 1, a1, b1, i, h =>
    lenN a1 fun n3 =>
    ifT (decide (i < n3)) (
      ixS 1 a1 i fun p =>
      ld1 h p fun v =>
      tInt .i64 v fun v1 =>
      ixS 1 b1 i fun p1 =>
      ld1 h p1 fun v2 =>
      tInt .i64 v2 fun v3 =>
      ifT (v1 != v3) (
        retG (.bool false) h Ψ) (
        rg (i + 1) (
          s39l1_G (s39l1 Ψ n2) a1 b1 (i + 1) h))) (
      retG (.bool true) h Ψ)

def s39 (Ψ : AVal → Heap → Prop) (a : AVal) (b : AVal) (h : Heap) : Prop :=
  lenN a fun n =>
  lenN b fun n1 =>
  ifT (n != n1) (
    retG (.bool false) h Ψ) (
    s39l1_E (s39l1 Ψ) a b 0 h)

def s39_A (Ψ : AVal → Heap → Prop) : Ann :=
  .seq (rA 1)
  (.seq (.seq (rA 5)
  (.cond (.seq (rA 1)
  (.leaf))
  (.leaf)))
  (.seq (.seq (rA 1)
  (.block (.loop [(0, .any), (1, .any), (5, .int .i64)] (fun n l h => s39l1_R (s39l1 Ψ n) l h) (fun L1 =>
  .seq (.seq (rA 4)
  (.cond (.leaf)
  (.leaf)))
  (.seq (.block (.seq (.draw [(0, false), (1, false), (2, false), (3, false), (4, false), (5, false), (6, false), (7, false), (8, false)] [0, 0, 3, 7, 0, 0, 48, 112, 255])
  (.cond (.seq (rA 1)
  (.leaf))
  (.leaf))))
  (rA 3))))))
  (.seq (rA 1)
  (.leaf))))

theorem s39_ok {Ψ : AVal → Heap → Prop} {a : AVal} {b : AVal} {h : Heap} (H : s39 Ψ a b h) : ACalls prog 39 [a, b] h Ψ :=
  calls_of_evF func39 (by kernel_rfl) (by kernel_rfl) (by kernel_rfl)
    (Eq.mpr (by as_aux_lemma => kernel_rfl : oblF prog f39 (s39_A Ψ) Ψ = (True ∧ (True ∧ (True ∧ True) ∧ True) ∧ (True ∧ (∀ (h : Heap) (x0 x1 : AVal) (x2 : Int), ON (s39l1 Ψ 0 x0 x1 x2 h)) ∧ ∀ n1 : Nat, (∀ (h : Heap) (x0 x1 : AVal) (x2 : Int), OI (s39l1 Ψ (n1 + 1) x0 x1 x2 h)) ∧ ((True ∧ True ∧ True) ∧ (True ∧ (True ∧ True) ∧ True) ∧ True)) ∧ True ∧ True)) ⟨trivial, ⟨⟨trivial, ⟨⟨trivial, trivial⟩, trivial⟩⟩, ⟨⟨trivial, ⟨fun _ _ _ _ H => H, fun _ => ⟨fun _ _ _ _ H => H, ⟨⟨trivial, ⟨trivial, trivial⟩⟩, ⟨⟨trivial, ⟨⟨trivial, trivial⟩, trivial⟩⟩, trivial⟩⟩⟩⟩⟩, ⟨trivial, trivial⟩⟩⟩⟩)
    (Eq.mpr (by as_aux_lemma => kernel_rfl : evF prog f39 (s39_A Ψ) Ψ [a, b] h = s39 Ψ a b h) H)

/- 40 dictum/dictumref17.Names -/
abbrev s40l1_T := AVal → AVal → Int → Heap → Prop
def s40l1_R (F : s40l1_T) (l : List AVal) (h : Heap) : Prop := J.cons l fun x0 l => J.cons l fun x1 l => J.cons l fun v l => J.int .i64 v fun x2 => J.nil l (F x0 x1 x2 h)
def s40l1_G (F : s40l1_T) (x0 x1 : AVal) (x2 : Int) (h : Heap) : Prop := gJ [.any, .any, .int .i64] [x0, x1, (.int .i64 x2)] h (s40l1_R F)
def s40l1_E (F : Nat → s40l1_T) (x0 x1 : AVal) (x2 : Int) (h : Heap) : Prop := gJ [.any, .any, .int .i64] [x0, x1, (.int .i64 x2)] h (fun l h => ∃ n, s40l1_R (F n) l h)
theorem s40l1_go {F : s40l1_T} {x0 x1 : AVal} {x2 : Int} {h : Heap} (H : F x0 x1 x2 h) : s40l1_G F x0 x1 x2 h := gJ_plain rfl H
theorem s40l1_in {F : Nat → s40l1_T} {x0 x1 : AVal} {x2 : Int} {h : Heap} (n : Nat) (H : F n x0 x1 x2 h) : s40l1_E F x0 x1 x2 h := gJ_plain rfl ⟨n, H⟩

def s40l1 (Ψ : AVal → Heap → Prop) : Nat → s40l1_T
  | 0, _, _, _, _ => False
  | n2 + 1, a1, b1, i, h =>
    lenN a1 fun n3 =>
    ifT (decide (i < n3)) (
      ixS 1 a1 i fun p =>
      ld1 h p fun v =>
      tStr v fun v1 =>
      ixS 1 b1 i fun p1 =>
      ld1 h p1 fun v2 =>
      tStr v2 fun v3 =>
      ifT (!strEq v1 v3) (
        retG (.bool false) h Ψ) (
        rg (i + 1) (
          s40l1_G (s40l1 Ψ n2) a1 b1 (i + 1) h))) (
      retG (.bool true) h Ψ)

def s40 (Ψ : AVal → Heap → Prop) (a : AVal) (b : AVal) (h : Heap) : Prop :=
  lenN a fun n =>
  lenN b fun n1 =>
  ifT (n != n1) (
    retG (.bool false) h Ψ) (
    s40l1_E (s40l1 Ψ) a b 0 h)

def s40_A (Ψ : AVal → Heap → Prop) : Ann :=
  .seq (rA 1)
  (.seq (.seq (rA 5)
  (.cond (.seq (rA 1)
  (.leaf))
  (.leaf)))
  (.seq (.seq (rA 1)
  (.block (.loop [(0, .any), (1, .any), (5, .int .i64)] (fun n l h => s40l1_R (s40l1 Ψ n) l h) (fun L1 =>
  .seq (.seq (rA 4)
  (.cond (.leaf)
  (.leaf)))
  (.seq (.block (.seq (.draw [(0, false), (1, false), (2, false), (3, false), (4, false), (5, false), (6, false), (7, false), (8, false)] [0, 0, 3, 7, 0, 0, 48, 112, 255])
  (.cond (.seq (rA 1)
  (.leaf))
  (.leaf))))
  (rA 3))))))
  (.seq (rA 1)
  (.leaf))))

theorem s40_ok {Ψ : AVal → Heap → Prop} {a : AVal} {b : AVal} {h : Heap} (H : s40 Ψ a b h) : ACalls prog 40 [a, b] h Ψ :=
  calls_of_evF func40 (by kernel_rfl) (by kernel_rfl) (by kernel_rfl)
    (Eq.mpr (by as_aux_lemma => kernel_rfl : oblF prog f40 (s40_A Ψ) Ψ = (True ∧ (True ∧ (True ∧ True) ∧ True) ∧ (True ∧ (∀ (h : Heap) (x0 x1 : AVal) (x2 : Int), ON (s40l1 Ψ 0 x0 x1 x2 h)) ∧ ∀ n1 : Nat, (∀ (h : Heap) (x0 x1 : AVal) (x2 : Int), OI (s40l1 Ψ (n1 + 1) x0 x1 x2 h)) ∧ ((True ∧ True ∧ True) ∧ (True ∧ (True ∧ True) ∧ True) ∧ True)) ∧ True ∧ True)) ⟨trivial, ⟨⟨trivial, ⟨⟨trivial, trivial⟩, trivial⟩⟩, ⟨⟨trivial, ⟨fun _ _ _ _ H => H, fun _ => ⟨fun _ _ _ _ H => H, ⟨⟨trivial, ⟨trivial, trivial⟩⟩, ⟨⟨trivial, ⟨⟨trivial, trivial⟩, trivial⟩⟩, trivial⟩⟩⟩⟩⟩, ⟨trivial, trivial⟩⟩⟩⟩)
    (Eq.mpr (by as_aux_lemma => kernel_rfl : evF prog f40 (s40_A Ψ) Ψ [a, b] h = s40 Ψ a b h) H)

/- 41 dictum/nishimura.Equal -/
def s41c1 (Ψ : AVal → Heap → Prop) (t1 : AVal) (a1 b1 x y : Int) (t43 : Bool) (h : Heap) : Prop :=
  ifT t43 (
    retG (.tuple [(.bool (x == y)), (.int .i64 0)]) h Ψ) (
    callG prog 56 [t1, (.int .i64 a1)] h fun v10 h_2 =>
    tTup v10 fun l_6 =>
    tCons l_6 fun v11 l_7 =>
    tCons l_7 fun v12 l_8 =>
    tInt .i64 v12 fun v13 =>
    tNil l_8 (
      callG prog 56 [t1, (.int .i64 b1)] h_2 fun v14 h_3 =>
      tTup v14 fun l_9 =>
      tCons l_9 fun v15 l_10 =>
      tCons l_10 fun v16 l_11 =>
      tInt .i64 v16 fun v17 =>
      tNil l_11 (
        callG prog 63 [v11, v15] h_3 fun v18 h_4 =>
        tBool v18 fun v19 =>
        retG (.tuple [(.bool v19), (.int .i64 0)]) h_4 Ψ)))

def s41 (Ψ : AVal → Heap → Prop) (t : AVal) (a : Int) (b : Int) (h : Heap) : Prop :=
  callG prog 35 [t, (.int .i64 a)] h fun v h_ =>
  tTup v fun l_ =>
  tCons l_ fun v1 l_1 =>
  tInt .i64 v1 fun v2 =>
  tCons l_1 fun v3 l_2 =>
  tInt .i64 v3 fun v4 =>
  tNil l_2 (
    ifT (v4 != 0) (
      retG (.tuple [(.bool false), (.int .i64 v4)]) h_ Ψ) (
      callG prog 35 [t, (.int .i64 b)] h_ fun v5 h_1 =>
      tTup v5 fun l_3 =>
      tCons l_3 fun v6 l_4 =>
      tInt .i64 v6 fun v7 =>
      tCons l_4 fun v8 l_5 =>
      tInt .i64 v8 fun v9 =>
      tNil l_5 (
        ifT (v9 != 0) (
          retG (.tuple [(.bool false), (.int .i64 v9)]) h_1 Ψ) (
          ifT (v2 != v7) (
            s41c1 Ψ t a b v2 v7 true h_1) (
            ifT (v2 == 0) (
              s41c1 Ψ t a b v2 v7 true h_1) (
              s41c1 Ψ t a b v2 v7 (v2 == (-1)) h_1))))))

def s41_A (Ψ : AVal → Heap → Prop) : Ann :=
  .seq (rA 2)
  (.seq (rA 8)
  (.seq (.seq (rA 2)
  (.cond (.seq (rA 3)
  (.leaf))
  (.leaf)))
  (.seq (rA 8)
  (.seq (.seq (rA 2)
  (.cond (.seq (rA 3)
  (.leaf))
  (.leaf)))
  (.seq (.cut [(0, .any), (1, .int .i64), (2, .int .i64), (8, .int .i64), (10, .int .i64), (43, .bool)] (fun l h => J.cons l fun x0 l => J.cons l fun v l => J.int .i64 v fun x1 => J.cons l fun v l => J.int .i64 v fun x2 => J.cons l fun v l => J.int .i64 v fun x3 => J.cons l fun v l => J.int .i64 v fun x4 => J.cons l fun v l => J.bool v fun x5 => J.nil l (s41c1 Ψ x0 x1 x2 x3 x4 x5 h)) (.reg [⟨none, [(0, false), (1, false), (2, false), (3, false)]⟩, ⟨some (36, false), [(4, false), (5, false)]⟩, ⟨none, [(6, false), (7, false)]⟩, ⟨some (40, false), [(8, false), (9, false)]⟩, ⟨none, [(10, false)]⟩])
  (.cond (.seq (rA 5)
  (.leaf))
  (.leaf)))
  (.seq (rA 8)
  (.seq (rA 8)
  (.seq (rA 5)
  (.leaf)))))))))

theorem s41_ok {Ψ : AVal → Heap → Prop} {t : AVal} {a : Int} {b : Int} {h : Heap} (H : s41 Ψ t a b h) : ACalls prog 41 [t, (.int .i64 a), (.int .i64 b)] h Ψ :=
  calls_of_evF func41 (by kernel_rfl) (by kernel_rfl) (by kernel_rfl)
    (Eq.mpr (by as_aux_lemma => kernel_rfl : oblF prog f41 (s41_A Ψ) Ψ = (True ∧ True ∧ (True ∧ (True ∧ True) ∧ True) ∧ True ∧ (True ∧ (True ∧ True) ∧ True) ∧ ((True) ∧ (∀ (h : Heap) (x0 : AVal) (x1 x2 x3 x4 : Int) (x5 : Bool), OI (s41c1 Ψ x0 x1 x2 x3 x4 x5 h)) ∧ ((True ∧ True) ∧ True)) ∧ True ∧ True ∧ True ∧ True)) ⟨trivial, ⟨trivial, ⟨⟨trivial, ⟨⟨trivial, trivial⟩, trivial⟩⟩, ⟨trivial, ⟨⟨trivial, ⟨⟨trivial, trivial⟩, trivial⟩⟩, ⟨⟨trivial, fun _ _ _ _ _ _ _ H => H, ⟨⟨trivial, trivial⟩, trivial⟩⟩, ⟨trivial, ⟨trivial, ⟨trivial, trivial⟩⟩⟩⟩⟩⟩⟩⟩⟩)
    (Eq.mpr (by as_aux_lemma => kernel_rfl : evF prog f41 (s41_A Ψ) Ψ [t, (.int .i64 a), (.int .i64 b)] h = s41 Ψ t a b h) H)

/- 44 (dictum/nishimura.rung).number -/
def s44 (Ψ : AVal → Heap → Prop) (r_all : Bool) (r_low : Int) (r_gap : Bool) (h : Heap) : Prop :=
  ifT r_all (
    retG (.int .i64 (-1)) h Ψ) (
    ifT r_gap (
      rg (2 * r_low) (
        rg ((2 * r_low) + 2) (
          retG (.int .i64 ((2 * r_low) + 2)) h Ψ))) (
      ifT (r_low == 0) (
        retG (.int .i64 0) h Ψ) (
        rg (2 * r_low) (
          rg ((2 * r_low) - 1) (
            retG (.int .i64 ((2 * r_low) - 1)) h Ψ)))))

def s44_A (Ψ : AVal → Heap → Prop) : Ann :=
  .seq (.reg [⟨none, [(0, true), (1, false)]⟩])
  (.seq (.block (.seq (rA 3)
  (.cond (.seq (rA 1)
  (.leaf))
  (.seq (rA 3)
  (.cond (.seq (rA 5)
  (.leaf))
  (.seq (rA 4)
  (.cond (.seq (rA 1)
  (.leaf))
  (.leaf))))))))
  (.seq (rA 5)
  (.leaf)))

theorem s44_ok {Ψ : AVal → Heap → Prop} {r_all : Bool} {r_low : Int} {r_gap : Bool} {h : Heap} (H : s44 Ψ r_all r_low r_gap h) : ACalls prog 44 [(.agg [(.bool r_all), (.int .i64 r_low), (.bool r_gap)])] h Ψ :=
  calls_of_evF func44 (by kernel_rfl) (by kernel_rfl) (by kernel_rfl)
    (Eq.mpr (by as_aux_lemma => kernel_rfl : oblF prog f44 (s44_A Ψ) Ψ = (True ∧ (True ∧ (True ∧ True) ∧ True ∧ (True ∧ True) ∧ True ∧ (True ∧ True) ∧ True) ∧ True ∧ True)) ⟨trivial, ⟨⟨trivial, ⟨⟨trivial, trivial⟩, ⟨trivial, ⟨⟨trivial, trivial⟩, ⟨trivial, ⟨⟨trivial, trivial⟩, trivial⟩⟩⟩⟩⟩⟩, ⟨trivial, trivial⟩⟩⟩)
    (Eq.mpr (by as_aux_lemma => kernel_rfl : evF prog f44 (s44_A Ψ) Ψ [(.agg [(.bool r_all), (.int .i64 r_low), (.bool r_gap)])] h = s44 Ψ r_all r_low r_gap h) H)

/- 45 dictum/nishimura.set -/
abbrev s45l1_T := AVal → AVal → Int → Int → Heap → Prop
def s45l1_R (F : s45l1_T) (l : List AVal) (h : Heap) : Prop := J.cons l fun x0 l => J.cons l fun x1 l => J.cons l fun v l => J.int .i64 v fun x2 => J.cons l fun v l => J.int .i64 v fun x3 => J.nil l (F x0 x1 x2 x3 h)
def s45l1_G (F : s45l1_T) (x0 x1 : AVal) (x2 x3 : Int) (h : Heap) : Prop := gJ [.any, .any, .int .i64, .int .i64] [x0, x1, (.int .i64 x2), (.int .i64 x3)] h (s45l1_R F)
def s45l1_E (F : Nat → s45l1_T) (x0 x1 : AVal) (x2 x3 : Int) (h : Heap) : Prop := gJ [.any, .any, .int .i64, .int .i64] [x0, x1, (.int .i64 x2), (.int .i64 x3)] h (fun l h => ∃ n, s45l1_R (F n) l h)
theorem s45l1_go {F : s45l1_T} {x0 x1 : AVal} {x2 x3 : Int} {h : Heap} (H : F x0 x1 x2 x3 h) : s45l1_G F x0 x1 x2 x3 h := gJ_plain rfl H
theorem s45l1_in {F : Nat → s45l1_T} {x0 x1 : AVal} {x2 x3 : Int} {h : Heap} (n : Nat) (H : F n x0 x1 x2 x3 h) : s45l1_E F x0 x1 x2 x3 h := gJ_plain rfl ⟨n, H⟩

def s45l1 (Ψ : AVal → Heap → Prop) : Nat → s45l1_T
  | 0, _, _, _, _, _ => False
  | n + 1, in_1, t4, t6, t7, h =>
    ifT (decide (t7 < t6)) (
      callV prog in_1 [(.int .i64 t7)] h fun v h_1 =>
      tBool v fun v1 =>
      ifT (!v1) (
        rg (t7 + 1) (
          callV prog in_1 [(.int .i64 (t7 + 1))] h_1 fun v2 h_2 =>
          tBool v2 fun v3 =>
          st false h_2 t4 [(.bool false), (.int .i64 t7), (.bool v3)] fun h_3 =>
          ldN 3 h_3 t4 fun l_ =>
          tCons l_ fun v4 l_1 =>
          tBool v4 fun v5 =>
          tCons l_1 fun v6 l_2 =>
          tInt .i64 v6 fun v7 =>
          tCons l_2 fun v8 l_3 =>
          tBool v8 fun v9 =>
          tNil l_3 (
            retG (.agg [(.bool v5), (.int .i64 v7), (.bool v9)]) h_3 Ψ))) (
        rg (t7 + 1) (
          s45l1_G (s45l1 Ψ n) in_1 t4 t6 (t7 + 1) h_1))) (
      st false h t4 [(.bool true), (.int .i64 0), (.bool false)] fun h_4 =>
      ldN 3 h_4 t4 fun l_4 =>
      tCons l_4 fun v10 l_5 =>
      tBool v10 fun v11 =>
      tCons l_5 fun v12 l_6 =>
      tInt .i64 v12 fun v13 =>
      tCons l_6 fun v14 l_7 =>
      tBool v14 fun v15 =>
      tNil l_7 (
        retG (.agg [(.bool v11), (.int .i64 v13), (.bool v15)]) h_4 Ψ))

def s45 (Ψ : AVal → Heap → Prop) (far : Int) (in_ : AVal) (h : Heap) : Prop :=
  Sym.newRow 3 [(.agg [(.bool false), (.int .i64 0), (.bool false)])] h fun r h_ =>
  s45l1_E (s45l1 Ψ) in_ (.ptr r 0 0) far 0 h_

def s45_A (Ψ : AVal → Heap → Prop) : Ann :=
  .seq (rA 1)
  (.seq (.seq (rA 2)
  (.block (.loop [(1, .any), (4, .any), (6, .int .i64), (7, .int .i64)] (fun n l h => s45l1_R (s45l1 Ψ n) l h) (fun L1 =>
  .seq (rA 1)
  (.seq (.cond (.leaf)
  (.leaf))
  (.seq (.block (.seq (rA 2)
  (.seq (rA 4)
  (.cond (.seq (rA 7)
  (.leaf))
  (.leaf)))))
  (rA 2)))))))
  (.seq (rA 2)
  (.leaf)))

theorem s45_ok {Ψ : AVal → Heap → Prop} {far : Int} {in_ : AVal} {h : Heap} (H : s45 Ψ far in_ h) : ACalls prog 45 [(.int .i64 far), in_] h Ψ :=
  calls_of_evF func45 (by kernel_rfl) (by kernel_rfl) (by kernel_rfl)
    (Eq.mpr (by as_aux_lemma => kernel_rfl : oblF prog f45 (s45_A Ψ) Ψ = (True ∧ (True ∧ (∀ (h : Heap) (x0 x1 : AVal) (x2 x3 : Int), ON (s45l1 Ψ 0 x0 x1 x2 x3 h)) ∧ ∀ n1 : Nat, (∀ (h : Heap) (x0 x1 : AVal) (x2 x3 : Int), OI (s45l1 Ψ (n1 + 1) x0 x1 x2 x3 h)) ∧ (True ∧ (True ∧ True) ∧ (True ∧ True ∧ (True ∧ True) ∧ True) ∧ True)) ∧ True ∧ True)) ⟨trivial, ⟨⟨trivial, ⟨fun _ _ _ _ _ H => H, fun _ => ⟨fun _ _ _ _ _ H => H, ⟨trivial, ⟨⟨trivial, trivial⟩, ⟨⟨trivial, ⟨trivial, ⟨⟨trivial, trivial⟩, trivial⟩⟩⟩, trivial⟩⟩⟩⟩⟩⟩, ⟨trivial, trivial⟩⟩⟩)
    (Eq.mpr (by as_aux_lemma => kernel_rfl : evF prog f45 (s45_A Ψ) Ψ [(.int .i64 far), in_] h = s45 Ψ far in_ h) H)

/- 46 dictum/nishimura.far -/
def s46 (Ψ : AVal → Heap → Prop) (a_all : Bool) (a_low : Int) (a_gap : Bool) (b_all : Bool) (b_low : Int) (b_gap : Bool) (h : Heap) : Prop :=
  callG prog 64 [(.lsl 1 [(.int .i64 a_low), (.int .i64 b_low)])] h fun v h_ =>
  tInt .i64 v fun v1 =>
  rg (v1 + 3) (
    retG (.int .i64 (v1 + 3)) h_ Ψ)

def s46_A (Ψ : AVal → Heap → Prop) : Ann :=
  .seq (.reg [⟨none, [(0, true), (1, true), (2, false)]⟩])
  (.seq (.reg [⟨none, [(0, false), (1, false), (2, false), (3, false), (4, true), (5, false), (6, false), (7, false)]⟩])
  (.leaf))

theorem s46_ok {Ψ : AVal → Heap → Prop} {a_all : Bool} {a_low : Int} {a_gap : Bool} {b_all : Bool} {b_low : Int} {b_gap : Bool} {h : Heap} (H : s46 Ψ a_all a_low a_gap b_all b_low b_gap h) : ACalls prog 46 [(.agg [(.bool a_all), (.int .i64 a_low), (.bool a_gap)]), (.agg [(.bool b_all), (.int .i64 b_low), (.bool b_gap)])] h Ψ :=
  calls_of_evF func46 (by kernel_rfl) (by kernel_rfl) (by kernel_rfl)
    (Eq.mpr (by as_aux_lemma => kernel_rfl : oblF prog f46 (s46_A Ψ) Ψ = (True ∧ True ∧ True)) ⟨trivial, ⟨trivial, trivial⟩⟩)
    (Eq.mpr (by as_aux_lemma => kernel_rfl : evF prog f46 (s46_A Ψ) Ψ [(.agg [(.bool a_all), (.int .i64 a_low), (.bool a_gap)]), (.agg [(.bool b_all), (.int .i64 b_low), (.bool b_gap)])] h = s46 Ψ a_all a_low a_gap b_all b_low b_gap h) H)

/- 47 dictum/nishimura.meet$1 -/
def s47 (Ψ : AVal → Heap → Prop) (w : Int) (c0 : AVal) (c1 : AVal) (h : Heap) : Prop :=
  ldN 3 h c0 fun l_ =>
  tCons l_ fun v l_1 =>
  tBool v fun v1 =>
  tCons l_1 fun v2 l_2 =>
  tInt .i64 v2 fun v3 =>
  tCons l_2 fun v4 l_3 =>
  tBool v4 fun v5 =>
  tNil l_3 (
    callG prog 48 [(.agg [(.bool v1), (.int .i64 v3), (.bool v5)]), (.int .i64 w)] h fun v6 h_ =>
    tBool v6 fun v7 =>
    ifT v7 (
      ldN 3 h_ c1 fun l_4 =>
      tCons l_4 fun v8 l_5 =>
      tBool v8 fun v9 =>
      tCons l_5 fun v10 l_6 =>
      tInt .i64 v10 fun v11 =>
      tCons l_6 fun v12 l_7 =>
      tBool v12 fun v13 =>
      tNil l_7 (
        callG prog 48 [(.agg [(.bool v9), (.int .i64 v11), (.bool v13)]), (.int .i64 w)] h_ fun v14 h_1 =>
        tBool v14 fun v15 =>
        retG (.bool v15) h_1 Ψ)) (
      retG (.bool false) h_ Ψ))

def s47_A (Ψ : AVal → Heap → Prop) : Ann :=
  .seq (rA 1)
  (.seq (.reg [⟨none, [(0, false), (1, false), (2, false), (3, false)]⟩, ⟨some (8, true), [(4, false), (5, false), (6, false)]⟩, ⟨none, [(7, false), (8, false)]⟩])
  (.leaf))

theorem s47_ok {Ψ : AVal → Heap → Prop} {w : Int} {c0 : AVal} {c1 : AVal} {h : Heap} (H : s47 Ψ w c0 c1 h) : ACalls prog 47 [(.int .i64 w), c0, c1] h Ψ :=
  calls_of_evF func47 (by kernel_rfl) (by kernel_rfl) (by kernel_rfl)
    (Eq.mpr (by as_aux_lemma => kernel_rfl : oblF prog f47 (s47_A Ψ) Ψ = (True ∧ True ∧ True)) ⟨trivial, ⟨trivial, trivial⟩⟩)
    (Eq.mpr (by as_aux_lemma => kernel_rfl : evF prog f47 (s47_A Ψ) Ψ [(.int .i64 w), c0, c1] h = s47 Ψ w c0 c1 h) H)

/- 48 (dictum/nishimura.rung).has -/
def s48 (Ψ : AVal → Heap → Prop) (r_all : Bool) (r_low : Int) (r_gap : Bool) (w : Int) (h : Heap) : Prop :=
  ifT r_all (
    retG (.bool true) h Ψ) (
    ifT (decide (w < r_low)) (
      retG (.bool true) h Ψ) (
      ifT r_gap (
        rg (r_low + 1) (
          retG (.bool (w == (r_low + 1))) h Ψ)) (
        retG (.bool false) h Ψ)))

def s48_A (Ψ : AVal → Heap → Prop) : Ann :=
  .seq (.reg [⟨none, [(0, true), (1, false)]⟩])
  (.seq (.reg [⟨none, [(0, false), (1, false), (2, false)]⟩, ⟨some (7, false), [(3, false), (4, false), (5, false), (6, false)]⟩, ⟨none, [(7, false), (8, false)]⟩, ⟨some (13, false), [(9, false), (10, false), (11, false)]⟩, ⟨some (16, true), [(12, false), (13, false), (14, false), (15, false), (16, false)]⟩, ⟨some (13, false), [(17, false)]⟩, ⟨none, [(18, false), (19, false)]⟩])
  (.leaf))

theorem s48_ok {Ψ : AVal → Heap → Prop} {r_all : Bool} {r_low : Int} {r_gap : Bool} {w : Int} {h : Heap} (H : s48 Ψ r_all r_low r_gap w h) : ACalls prog 48 [(.agg [(.bool r_all), (.int .i64 r_low), (.bool r_gap)]), (.int .i64 w)] h Ψ :=
  calls_of_evF func48 (by kernel_rfl) (by kernel_rfl) (by kernel_rfl)
    (Eq.mpr (by as_aux_lemma => kernel_rfl : oblF prog f48 (s48_A Ψ) Ψ = (True ∧ True ∧ True)) ⟨trivial, ⟨trivial, trivial⟩⟩)
    (Eq.mpr (by as_aux_lemma => kernel_rfl : evF prog f48 (s48_A Ψ) Ψ [(.agg [(.bool r_all), (.int .i64 r_low), (.bool r_gap)]), (.int .i64 w)] h = s48 Ψ r_all r_low r_gap w h) H)

/- 50 dictum/nishimura.join$1 -/
def s50 (Ψ : AVal → Heap → Prop) (w : Int) (c0 : AVal) (c1 : AVal) (h : Heap) : Prop :=
  ldN 3 h c0 fun l_ =>
  tCons l_ fun v l_1 =>
  tBool v fun v1 =>
  tCons l_1 fun v2 l_2 =>
  tInt .i64 v2 fun v3 =>
  tCons l_2 fun v4 l_3 =>
  tBool v4 fun v5 =>
  tNil l_3 (
    callG prog 48 [(.agg [(.bool v1), (.int .i64 v3), (.bool v5)]), (.int .i64 w)] h fun v6 h_ =>
    tBool v6 fun v7 =>
    ifT v7 (
      retG (.bool true) h_ Ψ) (
      ldN 3 h_ c1 fun l_4 =>
      tCons l_4 fun v8 l_5 =>
      tBool v8 fun v9 =>
      tCons l_5 fun v10 l_6 =>
      tInt .i64 v10 fun v11 =>
      tCons l_6 fun v12 l_7 =>
      tBool v12 fun v13 =>
      tNil l_7 (
        callG prog 48 [(.agg [(.bool v9), (.int .i64 v11), (.bool v13)]), (.int .i64 w)] h_ fun v14 h_1 =>
        tBool v14 fun v15 =>
        retG (.bool v15) h_1 Ψ)))

def s50_A (Ψ : AVal → Heap → Prop) : Ann :=
  .seq (rA 1)
  (.seq (.reg [⟨none, [(0, false), (1, false), (2, false), (3, false)]⟩, ⟨some (8, false), [(4, false), (5, false), (6, false)]⟩, ⟨none, [(7, false), (8, false)]⟩])
  (.leaf))

theorem s50_ok {Ψ : AVal → Heap → Prop} {w : Int} {c0 : AVal} {c1 : AVal} {h : Heap} (H : s50 Ψ w c0 c1 h) : ACalls prog 50 [(.int .i64 w), c0, c1] h Ψ :=
  calls_of_evF func50 (by kernel_rfl) (by kernel_rfl) (by kernel_rfl)
    (Eq.mpr (by as_aux_lemma => kernel_rfl : oblF prog f50 (s50_A Ψ) Ψ = (True ∧ True ∧ True)) ⟨trivial, ⟨trivial, trivial⟩⟩)
    (Eq.mpr (by as_aux_lemma => kernel_rfl : evF prog f50 (s50_A Ψ) Ψ [(.int .i64 w), c0, c1] h = s50 Ψ w c0 c1 h) H)

/- 51 dictum/nishimura.imp$1 -/
def s51 (Ψ : AVal → Heap → Prop) (w : Int) (c0 : AVal) (c1 : AVal) (h : Heap) : Prop :=
  ldN 3 h c0 fun l_ =>
  tCons l_ fun v l_1 =>
  tBool v fun v1 =>
  tCons l_1 fun v2 l_2 =>
  tInt .i64 v2 fun v3 =>
  tCons l_2 fun v4 l_3 =>
  tBool v4 fun v5 =>
  tNil l_3 (
    callG prog 48 [(.agg [(.bool v1), (.int .i64 v3), (.bool v5)]), (.int .i64 w)] h fun v6 h_ =>
    tBool v6 fun v7 =>
    ifT v7 (
      ldN 3 h_ c1 fun l_4 =>
      tCons l_4 fun v8 l_5 =>
      tBool v8 fun v9 =>
      tCons l_5 fun v10 l_6 =>
      tInt .i64 v10 fun v11 =>
      tCons l_6 fun v12 l_7 =>
      tBool v12 fun v13 =>
      tNil l_7 (
        callG prog 48 [(.agg [(.bool v9), (.int .i64 v11), (.bool v13)]), (.int .i64 w)] h_ fun v14 h_1 =>
        tBool v14 fun v15 =>
        retG (.bool (!v15)) h_1 Ψ)) (
      retG (.bool false) h_ Ψ))

def s51_A (Ψ : AVal → Heap → Prop) : Ann :=
  .seq (rA 1)
  (.seq (.reg [⟨none, [(0, false), (1, false), (2, false), (3, false)]⟩, ⟨some (8, true), [(4, false), (5, false), (6, false), (7, false)]⟩, ⟨none, [(8, false), (9, false)]⟩])
  (.leaf))

theorem s51_ok {Ψ : AVal → Heap → Prop} {w : Int} {c0 : AVal} {c1 : AVal} {h : Heap} (H : s51 Ψ w c0 c1 h) : ACalls prog 51 [(.int .i64 w), c0, c1] h Ψ :=
  calls_of_evF func51 (by kernel_rfl) (by kernel_rfl) (by kernel_rfl)
    (Eq.mpr (by as_aux_lemma => kernel_rfl : oblF prog f51 (s51_A Ψ) Ψ = (True ∧ True ∧ True)) ⟨trivial, ⟨trivial, trivial⟩⟩)
    (Eq.mpr (by as_aux_lemma => kernel_rfl : evF prog f51 (s51_A Ψ) Ψ [(.int .i64 w), c0, c1] h = s51 Ψ w c0 c1 h) H)

/- 52 (*dictum/formula.Table).Copy -/
abbrev s52l1_T := AVal → AVal → Int → Int → Heap → Prop
def s52l1_R (F : s52l1_T) (l : List AVal) (h : Heap) : Prop := J.cons l fun x0 l => J.cons l fun x1 l => J.cons l fun v l => J.int .i64 v fun x2 => J.cons l fun v l => J.int .i64 v fun x3 => J.nil l (F x0 x1 x2 x3 h)
def s52l1_G (F : s52l1_T) (x0 x1 : AVal) (x2 x3 : Int) (h : Heap) : Prop := gJ [.any, .any, .int .i64, .int .i64] [x0, x1, (.int .i64 x2), (.int .i64 x3)] h (s52l1_R F)
def s52l1_E (F : Nat → s52l1_T) (x0 x1 : AVal) (x2 x3 : Int) (h : Heap) : Prop := gJ [.any, .any, .int .i64, .int .i64] [x0, x1, (.int .i64 x2), (.int .i64 x3)] h (fun l h => ∃ n, s52l1_R (F n) l h)
theorem s52l1_go {F : s52l1_T} {x0 x1 : AVal} {x2 x3 : Int} {h : Heap} (H : F x0 x1 x2 x3 h) : s52l1_G F x0 x1 x2 x3 h := gJ_plain rfl H
theorem s52l1_in {F : Nat → s52l1_T} {x0 x1 : AVal} {x2 x3 : Int} {h : Heap} (n : Nat) (H : F n x0 x1 x2 x3 h) : s52l1_E F x0 x1 x2 x3 h := gJ_plain rfl ⟨n, H⟩

def s52l1 (Ψ : AVal → Heap → Prop) : Nat → s52l1_T
  | 0, _, _, _, _, _ => False
  | n1 + 1, c, t13, t14, t15, h =>
    ifT (decide (t15 < t14)) (
      ixS 4 t13 t15 fun p2 =>
      ldN 4 h p2 fun l_ =>
      tCons l_ fun v4 l_1 =>
      tInt .i64 v4 fun v5 =>
      tCons l_1 fun v6 l_2 =>
      tStr v6 fun v7 =>
      tCons l_2 fun v8 l_3 =>
      tInt .i64 v8 fun v9 =>
      tCons l_3 fun v10 l_4 =>
      tInt .i64 v10 fun v11 =>
      tNil l_4 (
        Sym.newRow 4 [(.agg [(.int .i64 0), (.str (ByteArray.mk #[])), (.int .i64 0), (.int .i64 0)])] h fun r h_2 =>
        st false h_2 (.ptr r 0 0) [(.int .i64 v5), (.str v7), (.int .i64 v9), (.int .i64 v11)] fun h_3 =>
        nilCheckA c fun p3 =>
        addOff p3 0 fun p4 =>
        ld1 h_3 p4 fun v12 =>
        ldN 4 h_3 (.ptr r 0 0) fun l_5 =>
        tCons l_5 fun v13 l_6 =>
        tInt .i64 v13 fun v14 =>
        tCons l_6 fun v15 l_7 =>
        tStr v15 fun v16 =>
        tCons l_7 fun v17 l_8 =>
        tInt .i64 v17 fun v18 =>
        tCons l_8 fun v19 l_9 =>
        tInt .i64 v19 fun v20 =>
        tNil l_9 (
          (ld1 h_3 p4 fun v21 =>
          v21 = v12) ∧
          appC 4 40 h_3 v12 (.lsl 4 [(.agg [(.int .i64 v14), (.str v16), (.int .i64 v18), (.int .i64 v20)])]) fun v22 h_4 =>
          nilCheckA c fun p5 =>
          addOff p5 0 fun p6 =>
          chk (sc v22) (
            st true h_4 p6 [v22] fun h_5 =>
            nilCheckA c fun p7 =>
            addOff p7 1 fun p8 =>
            ld1 h_5 p8 fun v23 =>
            ldN 4 h_5 (.ptr r 0 0) fun l_10 =>
            tCons l_10 fun v24 l_11 =>
            tInt .i64 v24 fun v25 =>
            tCons l_11 fun v26 l_12 =>
            tStr v26 fun v27 =>
            tCons l_12 fun v28 l_13 =>
            tInt .i64 v28 fun v29 =>
            tCons l_13 fun v30 l_14 =>
            tInt .i64 v30 fun v31 =>
            tNil l_14 (
              mapPut h_5 v23 (.agg [(.int .i64 v25), (.str v27), (.int .i64 v29), (.int .i64 v31)]) (.int .i64 t15) fun h_6 =>
              rg (t15 + 1) (
                s52l1_G (s52l1 Ψ n1) c t13 t14 (t15 + 1) h_6)))))) (
      retG c h Ψ)

def s52 (Ψ : AVal → Heap → Prop) (t : AVal) (h : Heap) : Prop :=
  callG prog 58 [t] h fun v h_ =>
  tBool v fun v1 =>
  ifT (!v1) (
    retG .nilptr h_ Ψ) (
    callG prog 33 [] h_ fun v2 h_1 =>
    nilCheckA t fun p =>
    addOff p 0 fun p1 =>
    ld1 h_1 p1 fun v3 =>
    lenN v3 fun n =>
    s52l1_E (s52l1 Ψ) v2 v3 n 0 h_1)

def s52_A (Ψ : AVal → Heap → Prop) : Ann :=
  .seq (rA 1)
  (.seq (.seq (rA 3)
  (.cond (.seq (rA 1)
  (.leaf))
  (.leaf)))
  (.seq (rA 2)
  (.seq (.seq (rA 6)
  (.block (.loop [(3, .any), (13, .any), (14, .int .i64), (15, .int .i64)] (fun n l h => s52l1_R (s52l1 Ψ n) l h) (fun L1 =>
  .seq (rA 1)
  (.seq (.cond (.leaf)
  (.leaf))
  (.seq (.block (.seq (rA 6)
  (.seq (.draw [(0, false), (1, false), (2, false), (3, false), (4, false), (5, false), (6, true), (7, false), (8, false), (9, false), (10, false)] [0, 0, 2, 6, 14, 0, 32, 126, 255, 511, 1023])
  (.draw [(0, false), (1, false), (2, false), (3, false), (4, false), (5, false), (6, false)] [0, 1, 3, 7, 0, 0, 63]))))
  (rA 2)))))))
  (.seq (rA 2)
  (.leaf)))))

theorem s52_ok {Ψ : AVal → Heap → Prop} {t : AVal} {h : Heap} (H : s52 Ψ t h) : ACalls prog 52 [t] h Ψ :=
  calls_of_evF func52 (by kernel_rfl) (by kernel_rfl) (by kernel_rfl)
    (Eq.mpr (by as_aux_lemma => kernel_rfl : oblF prog f52 (s52_A Ψ) Ψ = (True ∧ (True ∧ (True ∧ True) ∧ True) ∧ True ∧ (True ∧ (∀ (h : Heap) (x0 x1 : AVal) (x2 x3 : Int), ON (s52l1 Ψ 0 x0 x1 x2 x3 h)) ∧ ∀ n1 : Nat, (∀ (h : Heap) (x0 x1 : AVal) (x2 x3 : Int), OI (s52l1 Ψ (n1 + 1) x0 x1 x2 x3 h)) ∧ (True ∧ (True ∧ True) ∧ (True ∧ True ∧ True) ∧ True)) ∧ True ∧ True)) ⟨trivial, ⟨⟨trivial, ⟨⟨trivial, trivial⟩, trivial⟩⟩, ⟨trivial, ⟨⟨trivial, ⟨fun _ _ _ _ _ H => H, fun _ => ⟨fun _ _ _ _ _ H => H, ⟨trivial, ⟨⟨trivial, trivial⟩, ⟨⟨trivial, ⟨trivial, trivial⟩⟩, trivial⟩⟩⟩⟩⟩⟩, ⟨trivial, trivial⟩⟩⟩⟩⟩)
    (Eq.mpr (by as_aux_lemma => kernel_rfl : evF prog f52 (s52_A Ψ) Ψ [t] h = s52 Ψ t h) H)

/- 56 dictum/measure.Atoms -/
abbrev s56l1_T := AVal → AVal → AVal → Int → Int → Heap → Prop
def s56l1_R (F : s56l1_T) (l : List AVal) (h : Heap) : Prop := J.cons l fun x0 l => J.cons l fun x1 l => J.cons l fun x2 l => J.cons l fun v l => J.int .i64 v fun x3 => J.cons l fun v l => J.int .i64 v fun x4 => J.nil l (F x0 x1 x2 x3 x4 h)
def s56l1_G (F : s56l1_T) (x0 x1 x2 : AVal) (x3 x4 : Int) (h : Heap) : Prop := gJ [.any, .any, .any, .int .i64, .int .i64] [x0, x1, x2, (.int .i64 x3), (.int .i64 x4)] h (s56l1_R F)
def s56l1_E (F : Nat → s56l1_T) (x0 x1 x2 : AVal) (x3 x4 : Int) (h : Heap) : Prop := gJ [.any, .any, .any, .int .i64, .int .i64] [x0, x1, x2, (.int .i64 x3), (.int .i64 x4)] h (fun l h => ∃ n, s56l1_R (F n) l h)
theorem s56l1_go {F : s56l1_T} {x0 x1 x2 : AVal} {x3 x4 : Int} {h : Heap} (H : F x0 x1 x2 x3 x4 h) : s56l1_G F x0 x1 x2 x3 x4 h := gJ_plain rfl H
theorem s56l1_in {F : Nat → s56l1_T} {x0 x1 x2 : AVal} {x3 x4 : Int} {h : Heap} (n : Nat) (H : F n x0 x1 x2 x3 x4 h) : s56l1_E F x0 x1 x2 x3 x4 h := gJ_plain rfl ⟨n, H⟩

def s56c2 (Ψ : AVal → Heap → Prop) (L1 : s56l1_T) (t2 out1 t30_1 : AVal) (t31_1 t32_1 : Int) (h : Heap) : Prop :=
  rg (t32_1 + 1) (
    L1 t2 out1 t30_1 t31_1 (t32_1 + 1) h)

def s56l1 (Ψ : AVal → Heap → Prop) : Nat → s56l1_T
  | 0, _, _, _, _, _, _ => False
  | n1 + 1, t1, out, t30, t31, t32, h =>
    ifT (decide (t32 < t31)) (
      ixS 1 t30 t32 fun p =>
      ld1 h p fun v16 =>
      tInt .i64 v16 fun v17 =>
      callG prog 36 [t1, (.int .i64 v17)] h fun v18 h_4 =>
      tTup v18 fun l_11 =>
      tCons l_11 fun v19 l_12 =>
      tCons l_12 fun v20 l_13 =>
      tBool v20 fun v21 =>
      tNil l_13 (
        tAgg v19 fun l_14 =>
        tCons l_14 fun v22 l_15 =>
        tInt .i64 v22 fun v23 =>
        tCons l_15 fun v24 l_16 =>
        tStr v24 fun v25 =>
        tCons l_16 fun v26 l_17 =>
        tInt .i64 v26 fun v27 =>
        tCons l_17 fun v28 l_18 =>
        tInt .i64 v28 fun v29 =>
        tNil l_18 (
          Sym.newRow 4 [(.agg [(.int .i64 0), (.str (ByteArray.mk #[])), (.int .i64 0), (.int .i64 0)])] h_4 fun r1 h_5 =>
          st false h_5 (.ptr r1 0 0) [(.int .i64 v23), (.str v25), (.int .i64 v27), (.int .i64 v29)] fun h_6 =>
          ld1 h_6 (.ptr r1 0 0) fun v30 =>
          tInt .i64 v30 fun v31 =>
          ifT (v31 == 1) (
            ld1 h_6 (.ptr r1 0 1) fun v32 =>
            tStr v32 fun v33 =>
            appC 1 16 h_6 out (.lsl 1 [(.str v33)]) fun v34 h_7 =>
            s56c2 Ψ (s56l1_G (s56l1 Ψ n1)) t1 v34 t30 t31 t32 h_7) (
            s56c2 Ψ (s56l1_G (s56l1 Ψ n1)) t1 out t30 t31 t32 h_6)))) (
      callG prog 71 [out] h fun v35 h_8 =>
      retG (.tuple [out, (.int .i64 0)]) h_8 Ψ)

def s56 (Ψ : AVal → Heap → Prop) (t : AVal) (id_ : Int) (h : Heap) : Prop :=
  callG prog 70 [t, (.int .i64 id_)] h fun v h_ =>
  tTup v fun l_ =>
  tCons l_ fun v1 l_1 =>
  tCons l_1 fun v2 l_2 =>
  tInt .i64 v2 fun v3 =>
  tNil l_2 (
    tAgg v1 fun l_3 =>
    tCons l_3 fun v4 l_4 =>
    tInt .i64 v4 fun v5 =>
    tCons l_4 fun v6 l_5 =>
    tStr v6 fun v7 =>
    tCons l_5 fun v8 l_6 =>
    tInt .i64 v8 fun v9 =>
    tCons l_6 fun v10 l_7 =>
    tInt .i64 v10 fun v11 =>
    tNil l_7 (
      Sym.newRow 4 [(.agg [(.int .i64 0), (.str (ByteArray.mk #[])), (.int .i64 0), (.int .i64 0)])] h_ fun r h_1 =>
      st false h_1 (.ptr r 0 0) [(.int .i64 v5), (.str v7), (.int .i64 v9), (.int .i64 v11)] fun h_2 =>
      ifT (v3 != 0) (
        retG (.tuple [.nilsl, (.int .i64 v3)]) h_2 Ψ) (
        callG prog 57 [t, (.int .i64 id_)] h_2 fun v12 h_3 =>
        tTup v12 fun l_8 =>
        tCons l_8 fun v13 l_9 =>
        tCons l_9 fun v14 l_10 =>
        tInt .i64 v14 fun v15 =>
        tNil l_10 (
          lenN v13 fun n =>
          s56l1_E (s56l1 Ψ) t .nilsl v13 n 0 h_3))))

def s56_A (Ψ : AVal → Heap → Prop) : Ann :=
  .seq (rA 2)
  (.seq (.seq (rA 9)
  (.seq (rA 2)
  (.cond (.seq (rA 3)
  (.leaf))
  (.leaf))))
  (.seq (rA 1)
  (.seq (rA 8)
  (.seq (.seq (rA 3)
  (.block (.loop [(0, .any), (8, .any), (30, .any), (31, .int .i64), (32, .int .i64)] (fun n l h => s56l1_R (s56l1 Ψ n) l h) (fun L1 =>
  .seq (rA 1)
  (.seq (.cond (.leaf)
  (.leaf))
  (.cut [(0, .any), (8, .any), (30, .any), (31, .int .i64), (32, .int .i64)] (fun l h => J.cons l fun x0 l => J.cons l fun x1 l => J.cons l fun x2 l => J.cons l fun v l => J.int .i64 v fun x3 => J.cons l fun v l => J.int .i64 v fun x4 => J.nil l (s56c2 Ψ (fun y0 y1 y2 y3 y4 h => L1 [y0, y1, y2, (.int .i64 y3), (.int .i64 y4)] h) x0 x1 x2 x3 x4 h)) (.block (.seq (rA 3)
  (.seq (rA 9)
  (.seq (rA 3)
  (.cond (.reg [⟨none, [(0, false), (1, false), (2, false), (3, true), (4, false), (5, false)]⟩])
  (.leaf))))))
  (rA 2)))))))
  (.seq (rA 2)
  (.seq (rA 3)
  (.leaf)))))))

theorem s56_ok {Ψ : AVal → Heap → Prop} {t : AVal} {id_ : Int} {h : Heap} (H : s56 Ψ t id_ h) : ACalls prog 56 [t, (.int .i64 id_)] h Ψ :=
  calls_of_evF func56 (by kernel_rfl) (by kernel_rfl) (by kernel_rfl)
    (Eq.mpr (by as_aux_lemma => kernel_rfl : oblF prog f56 (s56_A Ψ) Ψ = (True ∧ (True ∧ True ∧ (True ∧ True) ∧ True) ∧ True ∧ True ∧ (True ∧ (∀ (h : Heap) (x0 x1 x2 : AVal) (x3 x4 : Int), ON (s56l1 Ψ 0 x0 x1 x2 x3 x4 h)) ∧ ∀ n1 : Nat, (∀ (h : Heap) (x0 x1 x2 : AVal) (x3 x4 : Int), OI (s56l1 Ψ (n1 + 1) x0 x1 x2 x3 x4 h)) ∧ (True ∧ (True ∧ True) ∧ (True ∧ True ∧ True ∧ True ∧ True) ∧ (∀ (h : Heap) (x0 x1 x2 : AVal) (x3 x4 : Int), OI (s56c2 Ψ (s56l1_G (s56l1 Ψ n1)) x0 x1 x2 x3 x4 h)) ∧ (True))) ∧ True ∧ True ∧ True)) ⟨trivial, ⟨⟨trivial, ⟨trivial, ⟨⟨trivial, trivial⟩, trivial⟩⟩⟩, ⟨trivial, ⟨trivial, ⟨⟨trivial, ⟨fun _ _ _ _ _ _ H => H, fun _ => ⟨fun _ _ _ _ _ _ H => H, ⟨trivial, ⟨⟨trivial, trivial⟩, ⟨⟨trivial, ⟨trivial, ⟨trivial, ⟨trivial, trivial⟩⟩⟩⟩, fun _ _ _ _ _ _ H => H, trivial⟩⟩⟩⟩⟩⟩, ⟨trivial, ⟨trivial, trivial⟩⟩⟩⟩⟩⟩⟩)
    (Eq.mpr (by as_aux_lemma => kernel_rfl : evF prog f56 (s56_A Ψ) Ψ [t, (.int .i64 id_)] h = s56 Ψ t id_ h) H)

/- 58 (*dictum/formula.Table).alive -/
def s58 (Ψ : AVal → Heap → Prop) (t : AVal) (h : Heap) : Prop :=
  nilP t fun b =>
  ifT (!b) (
    nilCheckA t fun p =>
    addOff p 1 fun p1 =>
    ld1 h p1 fun v =>
    nilM v fun b1 =>
    retG (.bool (!b1)) h Ψ) (
    retG (.bool false) h Ψ)

def s58_A (Ψ : AVal → Heap → Prop) : Ann :=
  .seq (rA 1)
  (.seq (.reg [⟨none, [(0, false), (1, false), (2, false)]⟩, ⟨some (5, true), [(3, false), (4, false), (5, false), (6, false), (7, false)]⟩, ⟨none, [(8, false), (9, false)]⟩])
  (.leaf))

theorem s58_ok {Ψ : AVal → Heap → Prop} {t : AVal} {h : Heap} (H : s58 Ψ t h) : ACalls prog 58 [t] h Ψ :=
  calls_of_evF func58 (by kernel_rfl) (by kernel_rfl) (by kernel_rfl)
    (Eq.mpr (by as_aux_lemma => kernel_rfl : oblF prog f58 (s58_A Ψ) Ψ = (True ∧ True ∧ True)) ⟨trivial, ⟨trivial, trivial⟩⟩)
    (Eq.mpr (by as_aux_lemma => kernel_rfl : evF prog f58 (s58_A Ψ) Ψ [t] h = s58 Ψ t h) H)

/- 60 dictum/formula.reserved -/
def s60c1 (Ψ : AVal → Heap → Prop) (t4 : Bool) (h : Heap) : Prop :=
  ifT t4 (
    retG (.bool true) h Ψ) (
    retG (.bool false) h Ψ)

def s60 (Ψ : AVal → Heap → Prop) (s : ByteArray) (h : Heap) : Prop :=
  ifT (strEq s (ByteArray.mk #[97, 98, 111, 114, 116])) (
    s60c1 Ψ (strEq s (ByteArray.mk #[97, 98, 111, 114, 116])) h) (
    ifT (strEq s (ByteArray.mk #[99, 97, 115, 101])) (
      s60c1 Ψ (strEq s (ByteArray.mk #[99, 97, 115, 101])) h) (
      ifT (strEq s (ByteArray.mk #[102, 97, 108, 115, 101])) (
        s60c1 Ψ (strEq s (ByteArray.mk #[102, 97, 108, 115, 101])) h) (
        ifT (strEq s (ByteArray.mk #[102, 115, 116])) (
          s60c1 Ψ (strEq s (ByteArray.mk #[102, 115, 116])) h) (
          ifT (strEq s (ByteArray.mk #[102, 117, 110])) (
            s60c1 Ψ (strEq s (ByteArray.mk #[102, 117, 110])) h) (
            ifT (strEq s (ByteArray.mk #[105, 110])) (
              s60c1 Ψ (strEq s (ByteArray.mk #[105, 110])) h) (
              ifT (strEq s (ByteArray.mk #[105, 110, 108])) (
                s60c1 Ψ (strEq s (ByteArray.mk #[105, 110, 108])) h) (
                ifT (strEq s (ByteArray.mk #[105, 110, 114])) (
                  s60c1 Ψ (strEq s (ByteArray.mk #[105, 110, 114])) h) (
                  ifT (strEq s (ByteArray.mk #[108, 101, 116])) (
                    s60c1 Ψ (strEq s (ByteArray.mk #[108, 101, 116])) h) (
                    ifT (strEq s (ByteArray.mk #[111, 102])) (
                      s60c1 Ψ (strEq s (ByteArray.mk #[111, 102])) h) (
                      ifT (strEq s (ByteArray.mk #[115, 110, 100])) (
                        s60c1 Ψ (strEq s (ByteArray.mk #[115, 110, 100])) h) (
                        s60c1 Ψ (strEq s (ByteArray.mk #[116, 114, 117, 101])) h)))))))))))

def s60_A (Ψ : AVal → Heap → Prop) : Ann :=
  .seq (rA 1)
  (.seq (.seq (rA 1)
  (.block (.cut [(4, .bool)] (fun l h => J.cons l fun v l => J.bool v fun x0 => J.nil l (s60c1 Ψ x0 h)) (.seq (rA 2)
  (.cond (.leaf)
  (.seq (rA 2)
  (.cond (.leaf)
  (.seq (rA 2)
  (.cond (.leaf)
  (.seq (rA 2)
  (.cond (.leaf)
  (.seq (rA 2)
  (.cond (.leaf)
  (.seq (rA 2)
  (.cond (.leaf)
  (.seq (rA 2)
  (.cond (.leaf)
  (.seq (rA 2)
  (.cond (.leaf)
  (.seq (rA 2)
  (.cond (.leaf)
  (.seq (rA 2)
  (.cond (.leaf)
  (.seq (rA 2)
  (.cond (.leaf)
  (rA 2)))))))))))))))))))))))
  (.cond (.seq (rA 1)
  (.leaf))
  (.leaf)))))
  (.seq (rA 1)
  (.leaf)))

theorem s60_ok {Ψ : AVal → Heap → Prop} {s : ByteArray} {h : Heap} (H : s60 Ψ s h) : ACalls prog 60 [(.str s)] h Ψ :=
  calls_of_evF func60 (by kernel_rfl) (by kernel_rfl) (by kernel_rfl)
    (Eq.mpr (by as_aux_lemma => kernel_rfl : oblF prog f60 (s60_A Ψ) Ψ = (True ∧ (True ∧ (True ∧ True ∧ True ∧ True ∧ True ∧ True ∧ True ∧ True ∧ True ∧ True ∧ True ∧ True ∧ True ∧ True ∧ True ∧ True ∧ True ∧ True ∧ True ∧ True ∧ True ∧ True ∧ True) ∧ (∀ (h : Heap) (x0 : Bool), OI (s60c1 Ψ x0 h)) ∧ ((True ∧ True) ∧ True)) ∧ True ∧ True)) ⟨trivial, ⟨⟨trivial, ⟨⟨trivial, ⟨trivial, ⟨trivial, ⟨trivial, ⟨trivial, ⟨trivial, ⟨trivial, ⟨trivial, ⟨trivial, ⟨trivial, ⟨trivial, ⟨trivial, ⟨trivial, ⟨trivial, ⟨trivial, ⟨trivial, ⟨trivial, ⟨trivial, ⟨trivial, ⟨trivial, ⟨trivial, ⟨trivial, trivial⟩⟩⟩⟩⟩⟩⟩⟩⟩⟩⟩⟩⟩⟩⟩⟩⟩⟩⟩⟩⟩⟩, fun _ _ H => H, ⟨⟨trivial, trivial⟩, trivial⟩⟩⟩, ⟨trivial, trivial⟩⟩⟩)
    (Eq.mpr (by as_aux_lemma => kernel_rfl : evF prog f60 (s60_A Ψ) Ψ [(.str s)] h = s60 Ψ s h) H)

/- 61 dictum/dictumref03.letter -/
def s61 (Ψ : AVal → Heap → Prop) (c : Int) (h : Heap) : Prop :=
  ifT (decide (97 ≤ c)) (
    ifT (decide (c ≤ 122)) (
      retG (.bool true) h Ψ) (
      ifT (decide (65 ≤ c)) (
        retG (.bool (decide (c ≤ 90))) h Ψ) (
        retG (.bool false) h Ψ))) (
    ifT (decide (65 ≤ c)) (
      retG (.bool (decide (c ≤ 90))) h Ψ) (
      retG (.bool false) h Ψ))

def s61_A (Ψ : AVal → Heap → Prop) : Ann :=
  .seq (rA 1)
  (.seq (.reg [⟨none, [(0, false), (1, false), (2, false)]⟩, ⟨some (5, true), [(3, false), (4, false)]⟩, ⟨none, [(5, false), (6, false)]⟩, ⟨some (9, false), [(7, false), (8, false), (9, false)]⟩, ⟨some (12, true), [(10, false), (11, false)]⟩, ⟨some (9, false), [(12, false)]⟩, ⟨none, [(13, false), (14, false)]⟩])
  (.leaf))

theorem s61_ok {Ψ : AVal → Heap → Prop} {c : Int} {h : Heap} (H : s61 Ψ c h) : ACalls prog 61 [(.int .u8 c)] h Ψ :=
  calls_of_evF func61 (by kernel_rfl) (by kernel_rfl) (by kernel_rfl)
    (Eq.mpr (by as_aux_lemma => kernel_rfl : oblF prog f61 (s61_A Ψ) Ψ = (True ∧ True ∧ True)) ⟨trivial, ⟨trivial, trivial⟩⟩)
    (Eq.mpr (by as_aux_lemma => kernel_rfl : evF prog f61 (s61_A Ψ) Ψ [(.int .u8 c)] h = s61 Ψ c h) H)

/- 62 dictum/dictumref03.Reserved -/
def s62 (Ψ : AVal → Heap → Prop) (h : Heap) : Prop :=
  retG (.lsl 1 [(.str (ByteArray.mk #[97, 98, 111, 114, 116])), (.str (ByteArray.mk #[99, 97, 115, 101])), (.str (ByteArray.mk #[102, 97, 108, 115, 101])), (.str (ByteArray.mk #[102, 115, 116])), (.str (ByteArray.mk #[102, 117, 110])), (.str (ByteArray.mk #[105, 110])), (.str (ByteArray.mk #[105, 110, 108])), (.str (ByteArray.mk #[105, 110, 114])), (.str (ByteArray.mk #[108, 101, 116])), (.str (ByteArray.mk #[111, 102])), (.str (ByteArray.mk #[115, 110, 100])), (.str (ByteArray.mk #[116, 114, 117, 101]))]) h Ψ

def s62_A (Ψ : AVal → Heap → Prop) : Ann :=
  .seq (rA 1)
  (.seq (.reg [⟨none, [(0, true), (1, false)]⟩])
  (.leaf))

theorem s62_ok {Ψ : AVal → Heap → Prop} {h : Heap} (H : s62 Ψ  h) : ACalls prog 62 [] h Ψ :=
  calls_of_evF func62 (by kernel_rfl) (by kernel_rfl) (by kernel_rfl)
    (Eq.mpr (by as_aux_lemma => kernel_rfl : oblF prog f62 (s62_A Ψ) Ψ = (True ∧ True ∧ True)) ⟨trivial, ⟨trivial, trivial⟩⟩)
    (Eq.mpr (by as_aux_lemma => kernel_rfl : evF prog f62 (s62_A Ψ) Ψ [] h = s62 Ψ  h) H)

/- 64 dictum/nishimura.greatest -/
def s64 (Ψ : AVal → Heap → Prop) (l_ : AVal) (h : Heap) : Prop :=
  callG prog 74 [l_] h fun v h_ =>
  tInt .i64 v fun v1 =>
  retG (.int .i64 v1) h_ Ψ

def s64_A (Ψ : AVal → Heap → Prop) : Ann :=
  .seq (rA 1)
  (.seq (rA 3)
  (.leaf))

theorem s64_ok {Ψ : AVal → Heap → Prop} {l_ : AVal} {h : Heap} (H : s64 Ψ l_ h) : ACalls prog 64 [l_] h Ψ :=
  calls_of_evF func64 (by kernel_rfl) (by kernel_rfl) (by kernel_rfl)
    (Eq.mpr (by as_aux_lemma => kernel_rfl : oblF prog f64 (s64_A Ψ) Ψ = (True ∧ True ∧ True)) ⟨trivial, ⟨trivial, trivial⟩⟩)
    (Eq.mpr (by as_aux_lemma => kernel_rfl : evF prog f64 (s64_A Ψ) Ψ [l_] h = s64 Ψ l_ h) H)

/- 70 dictum/measure.row -/
def s70 (Ψ : AVal → Heap → Prop) (t : AVal) (id_ : Int) (h : Heap) : Prop :=
  Sym.newRow 4 [(.agg [(.int .i64 0), (.str (ByteArray.mk #[])), (.int .i64 0), (.int .i64 0)])] h fun r h_ =>
  callG prog 52 [t] h_ fun v h_1 =>
  nilP v fun b =>
  ifT b (
    st false h_1 (.ptr r 0 0) [(.int .i64 0), (.str (ByteArray.mk #[])), (.int .i64 0), (.int .i64 0)] fun h_2 =>
    ldN 4 h_2 (.ptr r 0 0) fun l_ =>
    tCons l_ fun v1 l_1 =>
    tInt .i64 v1 fun v2 =>
    tCons l_1 fun v3 l_2 =>
    tStr v3 fun v4 =>
    tCons l_2 fun v5 l_3 =>
    tInt .i64 v5 fun v6 =>
    tCons l_3 fun v7 l_4 =>
    tInt .i64 v7 fun v8 =>
    tNil l_4 (
      retG (.tuple [(.agg [(.int .i64 v2), (.str v4), (.int .i64 v6), (.int .i64 v8)]), (.int .i64 1)]) h_2 Ψ)) (
    callG prog 36 [t, (.int .i64 id_)] h_1 fun v9 h_3 =>
    tTup v9 fun l_5 =>
    tCons l_5 fun v10 l_6 =>
    tCons l_6 fun v11 l_7 =>
    tBool v11 fun v12 =>
    tNil l_7 (
      tAgg v10 fun l_8 =>
      tCons l_8 fun v13 l_9 =>
      tInt .i64 v13 fun v14 =>
      tCons l_9 fun v15 l_10 =>
      tStr v15 fun v16 =>
      tCons l_10 fun v17 l_11 =>
      tInt .i64 v17 fun v18 =>
      tCons l_11 fun v19 l_12 =>
      tInt .i64 v19 fun v20 =>
      tNil l_12 (
        Sym.newRow 4 [(.agg [(.int .i64 0), (.str (ByteArray.mk #[])), (.int .i64 0), (.int .i64 0)])] h_3 fun r1 h_4 =>
        st false h_4 (.ptr r1 0 0) [(.int .i64 v14), (.str v16), (.int .i64 v18), (.int .i64 v20)] fun h_5 =>
        ifT (!v12) (
          ldN 4 h_5 (.ptr r1 0 0) fun l_13 =>
          tCons l_13 fun v21 l_14 =>
          tInt .i64 v21 fun v22 =>
          tCons l_14 fun v23 l_15 =>
          tStr v23 fun v24 =>
          tCons l_15 fun v25 l_16 =>
          tInt .i64 v25 fun v26 =>
          tCons l_16 fun v27 l_17 =>
          tInt .i64 v27 fun v28 =>
          tNil l_17 (
            st false h_5 (.ptr r 0 0) [(.int .i64 v22), (.str v24), (.int .i64 v26), (.int .i64 v28)] fun h_6 =>
            ldN 4 h_6 (.ptr r 0 0) fun l_18 =>
            tCons l_18 fun v29 l_19 =>
            tInt .i64 v29 fun v30 =>
            tCons l_19 fun v31 l_20 =>
            tStr v31 fun v32 =>
            tCons l_20 fun v33 l_21 =>
            tInt .i64 v33 fun v34 =>
            tCons l_21 fun v35 l_22 =>
            tInt .i64 v35 fun v36 =>
            tNil l_22 (
              retG (.tuple [(.agg [(.int .i64 v30), (.str v32), (.int .i64 v34), (.int .i64 v36)]), (.int .i64 31)]) h_6 Ψ))) (
          ldN 4 h_5 (.ptr r1 0 0) fun l_23 =>
          tCons l_23 fun v37 l_24 =>
          tInt .i64 v37 fun v38 =>
          tCons l_24 fun v39 l_25 =>
          tStr v39 fun v40 =>
          tCons l_25 fun v41 l_26 =>
          tInt .i64 v41 fun v42 =>
          tCons l_26 fun v43 l_27 =>
          tInt .i64 v43 fun v44 =>
          tNil l_27 (
            st false h_5 (.ptr r 0 0) [(.int .i64 v38), (.str v40), (.int .i64 v42), (.int .i64 v44)] fun h_7 =>
            ldN 4 h_7 (.ptr r 0 0) fun l_28 =>
            tCons l_28 fun v45 l_29 =>
            tInt .i64 v45 fun v46 =>
            tCons l_29 fun v47 l_30 =>
            tStr v47 fun v48 =>
            tCons l_30 fun v49 l_31 =>
            tInt .i64 v49 fun v50 =>
            tCons l_31 fun v51 l_32 =>
            tInt .i64 v51 fun v52 =>
            tNil l_32 (
              retG (.tuple [(.agg [(.int .i64 v46), (.str v48), (.int .i64 v50), (.int .i64 v52)]), (.int .i64 0)]) h_7 Ψ))))))

def s70_A (Ψ : AVal → Heap → Prop) : Ann :=
  .seq (rA 2)
  (.seq (.seq (rA 3)
  (.cond (.seq (rA 3)
  (.leaf))
  (.leaf)))
  (.seq (rA 9)
  (.seq (.seq (rA 2)
  (.cond (.seq (rA 3)
  (.leaf))
  (.leaf)))
  (.seq (rA 3)
  (.leaf)))))

theorem s70_ok {Ψ : AVal → Heap → Prop} {t : AVal} {id_ : Int} {h : Heap} (H : s70 Ψ t id_ h) : ACalls prog 70 [t, (.int .i64 id_)] h Ψ :=
  calls_of_evF func70 (by kernel_rfl) (by kernel_rfl) (by kernel_rfl)
    (Eq.mpr (by as_aux_lemma => kernel_rfl : oblF prog f70 (s70_A Ψ) Ψ = (True ∧ (True ∧ (True ∧ True) ∧ True) ∧ True ∧ (True ∧ (True ∧ True) ∧ True) ∧ True ∧ True)) ⟨trivial, ⟨⟨trivial, ⟨⟨trivial, trivial⟩, trivial⟩⟩, ⟨trivial, ⟨⟨trivial, ⟨⟨trivial, trivial⟩, trivial⟩⟩, ⟨trivial, trivial⟩⟩⟩⟩⟩)
    (Eq.mpr (by as_aux_lemma => kernel_rfl : evF prog f70 (s70_A Ψ) Ψ [t, (.int .i64 id_)] h = s70 Ψ t id_ h) H)

/- 74 slices.Max[[]int,int] -/
abbrev s74l2_T := AVal → Int → Int → Heap → Prop
def s74l2_R (F : s74l2_T) (l : List AVal) (h : Heap) : Prop := J.cons l fun x0 l => J.cons l fun v l => J.int .i64 v fun x1 => J.cons l fun v l => J.int .i64 v fun x2 => J.nil l (F x0 x1 x2 h)
def s74l2_G (F : s74l2_T) (x0 : AVal) (x1 x2 : Int) (h : Heap) : Prop := gJ [.any, .int .i64, .int .i64] [x0, (.int .i64 x1), (.int .i64 x2)] h (s74l2_R F)
def s74l2_E (F : Nat → s74l2_T) (x0 : AVal) (x1 x2 : Int) (h : Heap) : Prop := gJ [.any, .int .i64, .int .i64] [x0, (.int .i64 x1), (.int .i64 x2)] h (fun l h => ∃ n, s74l2_R (F n) l h)
theorem s74l2_go {F : s74l2_T} {x0 : AVal} {x1 x2 : Int} {h : Heap} (H : F x0 x1 x2 h) : s74l2_G F x0 x1 x2 h := gJ_plain rfl H
theorem s74l2_in {F : Nat → s74l2_T} {x0 : AVal} {x1 x2 : Int} {h : Heap} (n : Nat) (H : F n x0 x1 x2 h) : s74l2_E F x0 x1 x2 h := gJ_plain rfl ⟨n, H⟩

def s74l2 (Ψ : AVal → Heap → Prop) : Nat → s74l2_T
  | 0, _, _, _, _ => False
  | n + 1, x2, m, i, h =>
    lenN x2 fun n1 =>
    ifT (decide (i < n1)) (
      ixS 1 x2 i fun p1 =>
      ld1 h p1 fun v2 =>
      tInt .i64 v2 fun v3 =>
      rg (i + 1) (
        s74l2_G (s74l2 Ψ n) x2 (max m v3) (i + 1) h)) (
      retG (.int .i64 m) h Ψ)

def s74c1 (Ψ : AVal → Heap → Prop) (x1 : AVal) (h : Heap) : Prop :=
  ixS 1 x1 0 fun p =>
  ld1 h p fun v =>
  tInt .i64 v fun v1 =>
  s74l2_E (s74l2 Ψ) x1 v1 1 h

def s74 (Ψ : AVal → Heap → Prop) (x : AVal) (h : Heap) : Prop :=
  lenN x fun n3 =>
  ifT (decide (n3 < 1)) (
    False) (
    s74c1 Ψ x h)

def s74_A (Ψ : AVal → Heap → Prop) : Ann :=
  .seq (rA 1)
  (.cut [(0, .any)] (fun l h => J.cons l fun x0 l => J.nil l (s74c1 Ψ x0 h)) (.seq (rA 3)
  (.cond (rA 2)
  (.leaf)))
  (.seq (rA 4)
  (.seq (.seq (rA 1)
  (.block (.loop [(0, .any), (3, .int .i64), (4, .int .i64)] (fun n l h => s74l2_R (s74l2 Ψ n) l h) (fun L2 =>
  .seq (.seq (rA 4)
  (.cond (.leaf)
  (.leaf)))
  (.seq (.block (rA 7))
  (rA 3))))))
  (.seq (rA 2)
  (.leaf)))))

theorem s74_ok {Ψ : AVal → Heap → Prop} {x : AVal} {h : Heap} (H : s74 Ψ x h) : ACalls prog 74 [x] h Ψ :=
  calls_of_evF func74 (by kernel_rfl) (by kernel_rfl) (by kernel_rfl)
    (Eq.mpr (by as_aux_lemma => kernel_rfl : oblF prog f74 (s74_A Ψ) Ψ = (True ∧ (True ∧ True ∧ True) ∧ (∀ (h : Heap) (x0 : AVal), OI (s74c1 Ψ x0 h)) ∧ (True ∧ (True ∧ (∀ (h : Heap) (x0 : AVal) (x1 x2 : Int), ON (s74l2 Ψ 0 x0 x1 x2 h)) ∧ ∀ n2 : Nat, (∀ (h : Heap) (x0 : AVal) (x1 x2 : Int), OI (s74l2 Ψ (n2 + 1) x0 x1 x2 h)) ∧ ((True ∧ True ∧ True) ∧ True ∧ True)) ∧ True ∧ True))) ⟨trivial, ⟨⟨trivial, ⟨trivial, trivial⟩⟩, fun _ _ H => H, ⟨trivial, ⟨⟨trivial, ⟨fun _ _ _ _ H => H, fun _ => ⟨fun _ _ _ _ H => H, ⟨⟨trivial, ⟨trivial, trivial⟩⟩, ⟨trivial, trivial⟩⟩⟩⟩⟩, ⟨trivial, trivial⟩⟩⟩⟩⟩)
    (Eq.mpr (by as_aux_lemma => kernel_rfl : evF prog f74 (s74_A Ψ) Ψ [x] h = s74 Ψ x h) H)

end Go.Proofs.Ytobpfhmjdoekfaa

/- The functions that the proof meets, each as a text that Lean has checked against the program. No condition. -/
import Derived.Test.YtaopdcjjcpgebaaGreatDoorM3
import Derived.Test.YtaopdcjjcpgebaaGreatDoorChecked
import Derived.Test.YtaopdcjjcpgebaaGreatDoorM5
namespace Go.Proofs.YtaopdcjjcpgebaaGreatDoor
open Go Go.Sym Go.Proofs.Tryz
set_option maxRecDepth 100000
set_option linter.unusedVariables false

/- 9 dictum/dictumlaw18.ForceSteps -/
abbrev s9c4_K : List Kd := [.bool, .bool]
def s9c4 (Ψ : AVal → Heap → Prop) (is3 want2 : Bool) (h : Heap) : Prop :=
 eqQ prog 4 (.bool is3) (.bool want2) fun b3 =>
 ifT b3 (
 callG prog 17 [] h fun v67 h_16 =>
 tBool v67 fun v68 =>
 retG (.bool v68) h_16 Ψ) (
 retG (.bool false) h Ψ)

abbrev s9l6_T := Bool → Bool → AVal → AVal → AVal → Int → Heap → Prop
abbrev s9l6_K : List Kd := [.bool, .bool, .any, .any, .any, .int .i64]
def s9l6_G (F : s9l6_T) : s9l6_T := GK s9l6_K F
def s9l6_E (F : Nat → s9l6_T) : s9l6_T := EK s9l6_K F
theorem s9l6_go {F : s9l6_T} {x0 x1 : Bool} {x2 x3 x4 : AVal} {x5 : Int} {h : Heap} (H : F x0 x1 x2 x3 x4 x5 h) : s9l6_G F x0 x1 x2 x3 x4 x5 h := gJ_plain rfl H
theorem s9l6_in {F : Nat → s9l6_T} {x0 x1 : Bool} {x2 x3 x4 : AVal} {x5 : Int} {h : Heap} (n : Nat) (H : F n x0 x1 x2 x3 x4 x5 h) : s9l6_E F x0 x1 x2 x3 x4 x5 h := gJ_plain rfl ⟨n, H⟩

abbrev s9c7_K : List Kd := [.bool, .bool, .any, .any, .any, .int .i64]
def s9c7 (Ψ : AVal → Heap → Prop) (L6 : s9l6_T) (is6 want4 : Bool) (up2 left2 right2 : AVal) (k1 : Int) (h : Heap) : Prop :=
 rg (k1 + 1) (
 L6 is6 want4 up2 left2 right2 (k1 + 1) h)

def s9l6 (Ψ : AVal → Heap → Prop) : Nat → s9l6_T
 | 0, _, _, _, _, _, _, _ => False
 | n3 + 1, is5, want3, up1, left1, right1, k, h =>
 lenN up1 fun n4 =>
 ifT (decide (k < n4)) (
 ifT want3 (
 ixS 1 up1 k fun p6 =>
 ld1 h p6 fun v104 =>
 tInt .i64 v104 fun v105 =>
 callG prog 40 [left1, (.int .i64 v105)] h fun v106 h_23 =>
 tBool v106 fun v107 =>
 ifT (!v107) (
 s9c7 Ψ (s9l6_G (s9l6 Ψ n3)) is5 true up1 left1 right1 k h_23) (
 ixS 1 up1 k fun p7 =>
 ld1 h_23 p7 fun v108 =>
 tInt .i64 v108 fun v109 =>
 callG prog 40 [right1, (.int .i64 v109)] h_23 fun v110 h_24 =>
 tBool v110 fun v111 =>
 s9c7 Ψ (s9l6_G (s9l6 Ψ n3)) is5 v111 up1 left1 right1 k h_24)) (
 s9c7 Ψ (s9l6_G (s9l6 Ψ n3)) is5 false up1 left1 right1 k h)) (
 s9c4 Ψ is5 want3 h)

abbrev s9c5_K : List Kd := [.bool, .any, .any, .any, .bool]
def s9c5 (Ψ : AVal → Heap → Prop) (is4 : Bool) (up left right : AVal) (t167 : Bool) (h : Heap) : Prop :=
 ifT t167 (
 retG (.bool false) h Ψ) (
 s9l6_E (s9l6 Ψ) is4 true up left right 0 h)

abbrev s9c3_K : List Kd := [.int .i64, .any, .any, .bool, .any, .bool]
def s9c3 (Ψ : AVal → Heap → Prop) (w3 : Int) (m2 t2 : AVal) (is2 : Bool) (n2 : AVal) (want1 : Bool) (h : Heap) : Prop :=
 addOff n2 0 fun p3 =>
 ld1 h p3 fun v69 =>
 tInt .i64 v69 fun v70 =>
 ifT (v70 == 5) (
 ldN 2 h m2 fun l_32 =>
 tCons l_32 fun v71 l_33 =>
 tCons l_33 fun v72 l_34 =>
 tNil l_34 (
 callG prog 14 [(.agg [v71, v72])] h fun v73 h_17 =>
 tAgg v73 fun l_35 =>
 tCons l_35 fun v74 l_36 =>
 tCons l_36 fun v75 l_37 =>
 tNil l_37 (
 callG prog 35 [(.agg [v74, v75]), (.int .i64 w3)] h_17 fun v76 h_18 =>
 tTup v76 fun l_38 =>
 tCons l_38 fun v77 l_39 =>
 tCons l_39 fun v78 l_40 =>
 tInt .i64 v78 fun v79 =>
 tNil l_40 (
 ldN 2 h_18 m2 fun l_41 =>
 tCons l_41 fun v80 l_42 =>
 tCons l_42 fun v81 l_43 =>
 tNil l_43 (
 addOff n2 2 fun p4 =>
 ld1 h_18 p4 fun v82 =>
 tInt .i64 v82 fun v83 =>
 callG prog 14 [(.agg [v80, v81])] h_18 fun v84 h_19 =>
 tAgg v84 fun l_44 =>
 tCons l_44 fun v85 l_45 =>
 tCons l_45 fun v86 l_46 =>
 tNil l_46 (
 (ld1 h_19 p4 fun v87 =>
 v87 = (.int .i64 v83)) ∧
 callG prog 31 [t2, (.agg [v85, v86]), (.int .i64 v83)] h_19 fun v88 h_20 =>
 tTup v88 fun l_47 =>
 tCons l_47 fun v89 l_48 =>
 tCons l_48 fun v90 l_49 =>
 tInt .i64 v90 fun v91 =>
 tNil l_49 (
 ldN 2 h_20 m2 fun l_50 =>
 tCons l_50 fun v92 l_51 =>
 tCons l_51 fun v93 l_52 =>
 tNil l_52 (
 addOff n2 3 fun p5 =>
 ld1 h_20 p5 fun v94 =>
 tInt .i64 v94 fun v95 =>
 callG prog 14 [(.agg [v92, v93])] h_20 fun v96 h_21 =>
 tAgg v96 fun l_53 =>
 tCons l_53 fun v97 l_54 =>
 tCons l_54 fun v98 l_55 =>
 tNil l_55 (
 (ld1 h_21 p5 fun v99 =>
 v99 = (.int .i64 v95)) ∧
 callG prog 31 [t2, (.agg [v97, v98]), (.int .i64 v95)] h_21 fun v100 h_22 =>
 tTup v100 fun l_56 =>
 tCons l_56 fun v101 l_57 =>
 tCons l_57 fun v102 l_58 =>
 tInt .i64 v102 fun v103 =>
 tNil l_58 (
 callG prog 16 [(.int .i64 v79)] h_22 fun v112 h_25 =>
 tInt .i64 v112 fun v113 =>
 ifT (v113 != 0) (
 s9c5 Ψ is2 v77 v89 v101 true h_25) (
 callG prog 16 [(.int .i64 v91)] h_25 fun v114 h_26 =>
 tInt .i64 v114 fun v115 =>
 ifT (v115 != 0) (
 s9c5 Ψ is2 v77 v89 v101 true h_26) (
 callG prog 16 [(.int .i64 v103)] h_26 fun v116 h_27 =>
 tInt .i64 v116 fun v117 =>
 s9c5 Ψ is2 v77 v89 v101 (v117 != 0) h_27)))))))))))) (
 s9c4 Ψ is2 want1 h)

abbrev s9c2_K : List Kd := [.int .i64, .any, .any, .bool, .any, .bool, .bool, .bool]
def s9c2 (Ψ : AVal → Heap → Prop) (w2 : Int) (m1 t1 : AVal) (is1 : Bool) (n1 : AVal) (a1 b2 want : Bool) (h : Heap) : Prop :=
 addOff n1 0 fun p8 =>
 ld1 h p8 fun v118 =>
 tInt .i64 v118 fun v119 =>
 ifT (v119 == 4) (
 ifT a1 (
 s9c3 Ψ w2 m1 t1 is1 n1 true h) (
 s9c3 Ψ w2 m1 t1 is1 n1 b2 h)) (
 s9c3 Ψ w2 m1 t1 is1 n1 want h)

abbrev s9c1_K : List Kd := [.int .i64, .any, .any, .bool, .any, .bool, .bool, .bool]
def s9c1 (Ψ : AVal → Heap → Prop) (w1 : Int) (m t : AVal) (is : Bool) (n : AVal) (a b1 t115 : Bool) (h : Heap) : Prop :=
 ifT t115 (
 retG (.bool false) h Ψ) (
 ifT a (
 s9c2 Ψ w1 m t is n a b1 b1 h) (
 s9c2 Ψ w1 m t is n a b1 false h))

def s9 (Ψ : AVal → Heap → Prop) (rows : AVal) (m_Up : AVal) (m_Val : AVal) (w : Int) (id_ : Int) (h : Heap) : Prop :=
 callG prog 12 [rows] h fun v h_ =>
 tTup v fun l_ =>
 tCons l_ fun v1 l_1 =>
 tCons l_1 fun v2 l_2 =>
 tNil l_2 (
 callG prog 14 [(.agg [m_Up, m_Val])] h_ fun v3 h_1 =>
 tAgg v3 fun l_3 =>
 tCons l_3 fun v4 l_4 =>
 tCons l_4 fun v5 l_5 =>
 tNil l_5 (
 callG prog 27 [v1, (.agg [v4, v5]), (.int .i64 w), (.int .i64 id_)] h_1 fun v6 h_2 =>
 tTup v6 fun l_6 =>
 tCons l_6 fun v7 l_7 =>
 tBool v7 fun v8 =>
 tCons l_7 fun v9 l_8 =>
 tInt .i64 v9 fun v10 =>
 tNil l_8 (
 callG prog 16 [(.int .i64 v10)] h_2 fun v11 h_3 =>
 tInt .i64 v11 fun v12 =>
 ifT (v12 != 0) (
 ifT (!v8) (
 callG prog 17 [] h_3 fun v13 h_4 =>
 tBool v13 fun v14 =>
 retG (.bool v14) h_4 Ψ) (
 retG (.bool false) h_3 Ψ)) (
 nilCheckA v2 fun p =>
 addOff p 0 fun p1 =>
 ld1 h_3 p1 fun v15 =>
 ixS 4 v15 id_ fun p2 =>
 ldN 4 h_3 p2 fun l_9 =>
 tCons l_9 fun v16 l_10 =>
 tInt .i64 v16 fun v17 =>
 tCons l_10 fun v18 l_11 =>
 tStr v18 fun v19 =>
 tCons l_11 fun v20 l_12 =>
 tInt .i64 v20 fun v21 =>
 tCons l_12 fun v22 l_13 =>
 tInt .i64 v22 fun v23 =>
 tNil l_13 (
 Sym.newRow 4 [(.agg [(.int .i64 0), (.str (ByteArray.mk #[])), (.int .i64 0), (.int .i64 0)])] h_3 fun r h_5 =>
 st false h_5 (.ptr r 0 0) [(.int .i64 v17), (.str v19), (.int .i64 v21), (.int .i64 v23)] fun h_6 =>
 ld1 h_6 (.ptr r 0 0) fun v24 =>
 tInt .i64 v24 fun v25 =>
 ifT (v25 == 2) (
 ifT (!v8) (
 callG prog 17 [] h_6 fun v26 h_7 =>
 tBool v26 fun v27 =>
 retG (.bool v27) h_7 Ψ) (
 retG (.bool false) h_6 Ψ)) (
 ld1 h_6 (.ptr r 0 0) fun v28 =>
 tInt .i64 v28 fun v29 =>
 ifT (v29 == 1) (
 ld1 h_6 (.ptr r 0 1) fun v30 =>
 tStr v30 fun v31 =>
 callG prog 14 [(.agg [m_Up, m_Val])] h_6 fun v32 h_8 =>
 tAgg v32 fun l_14 =>
 tCons l_14 fun v33 l_15 =>
 tCons l_15 fun v34 l_16 =>
 tNil l_16 (
 (ld1 h_8 (.ptr r 0 1) fun v35 =>
 v35 = (.str v31)) ∧
 callG prog 39 [(.agg [v33, v34]), (.int .i64 w), (.str v31)] h_8 fun v36 h_9 =>
 tTup v36 fun l_17 =>
 tCons l_17 fun v37 l_18 =>
 tBool v37 fun v38 =>
 tCons l_18 fun v39 l_19 =>
 tInt .i64 v39 fun v40 =>
 tNil l_19 (
 callG prog 16 [(.int .i64 v40)] h_9 fun v41 h_10 =>
 tInt .i64 v41 fun v42 =>
 ifT (v42 == 0) (
 eqQ prog 4 (.bool v8) (.bool v38) fun b =>
 ifT b (
 callG prog 17 [] h_10 fun v43 h_11 =>
 tBool v43 fun v44 =>
 retG (.bool v44) h_11 Ψ) (
 retG (.bool false) h_10 Ψ)) (
 retG (.bool false) h_10 Ψ)))) (
 ld1 h_6 (.ptr r 0 2) fun v45 =>
 tInt .i64 v45 fun v46 =>
 callG prog 14 [(.agg [m_Up, m_Val])] h_6 fun v47 h_12 =>
 tAgg v47 fun l_20 =>
 tCons l_20 fun v48 l_21 =>
 tCons l_21 fun v49 l_22 =>
 tNil l_22 (
 (ld1 h_12 (.ptr r 0 2) fun v50 =>
 v50 = (.int .i64 v46)) ∧
 callG prog 27 [v1, (.agg [v48, v49]), (.int .i64 w), (.int .i64 v46)] h_12 fun v51 h_13 =>
 tTup v51 fun l_23 =>
 tCons l_23 fun v52 l_24 =>
 tBool v52 fun v53 =>
 tCons l_24 fun v54 l_25 =>
 tInt .i64 v54 fun v55 =>
 tNil l_25 (
 ld1 h_13 (.ptr r 0 3) fun v56 =>
 tInt .i64 v56 fun v57 =>
 callG prog 14 [(.agg [m_Up, m_Val])] h_13 fun v58 h_14 =>
 tAgg v58 fun l_26 =>
 tCons l_26 fun v59 l_27 =>
 tCons l_27 fun v60 l_28 =>
 tNil l_28 (
 (ld1 h_14 (.ptr r 0 3) fun v61 =>
 v61 = (.int .i64 v57)) ∧
 callG prog 27 [v1, (.agg [v59, v60]), (.int .i64 w), (.int .i64 v57)] h_14 fun v62 h_15 =>
 tTup v62 fun l_29 =>
 tCons l_29 fun v63 l_30 =>
 tBool v63 fun v64 =>
 tCons l_30 fun v65 l_31 =>
 tInt .i64 v65 fun v66 =>
 tNil l_31 (
 callG prog 16 [(.int .i64 v55)] h_15 fun v120 h_28 =>
 tInt .i64 v120 fun v121 =>
 ifT (v121 != 0) (
 s9c1 Ψ w (.lptr [m_Up, m_Val]) v1 v8 (.ptr r 0 0) v53 v64 true h_28) (
 callG prog 16 [(.int .i64 v66)] h_28 fun v122 h_29 =>
 tInt .i64 v122 fun v123 =>
 s9c1 Ψ w (.lptr [m_Up, m_Val]) v1 v8 (.ptr r 0 0) v53 v64 (v123 != 0) h_29))))))))))))

def s9_A (Ψ : AVal → Heap → Prop) : Ann :=
 .seq (.reg [⟨none, [(0, true), (1, false)]⟩])
 (.seq (rA 7)
 (.seq (rA 11)
 (.seq (.seq (rA 3)
 (.cond (.seq (.reg [⟨none, [(0, false), (1, false), (2, false)]⟩, ⟨some (47, true), [(3, false)]⟩, ⟨none, [(4, false), (5, false)]⟩])
 (.leaf))
 (.leaf)))
 (.seq (rA 9)
 (.seq (.seq (rA 3)
 (.cond (.seq (.reg [⟨none, [(0, false), (1, false), (2, false)]⟩, ⟨some (62, true), [(3, false)]⟩, ⟨none, [(4, false), (5, false)]⟩])
 (.leaf))
 (.leaf)))
 (.seq (.seq (rA 3)
 (.cond (.seq (.draw [(0, false), (2, false), (3, false), (4, false), (1, false), (5, false), (6, false), (7, false), (8, false), (9, false), (10, false)] [0, 1, 0, 0, 8, 31, 63, 127, 127, 255, 1023])
 (.seq (.reg [⟨none, [(0, false), (1, false), (2, false), (3, false)]⟩, ⟨some (80, true), [(4, false), (5, false), (6, false)]⟩, ⟨none, [(7, false), (8, false)]⟩, ⟨some (85, true), [(9, false)]⟩, ⟨none, [(10, false), (11, false)]⟩])
 (.leaf)))
 (.leaf)))
 (.seq (.draw [(0, false), (1, false), (3, false), (4, false), (5, false), (2, false), (6, false), (7, false), (8, false), (9, false), (10, false), (11, false)] [0, 0, 2, 0, 0, 16, 63, 127, 255, 255, 511, 2047])
 (.seq (.draw [(0, false), (1, false), (3, false), (4, false), (5, false), (2, false), (6, false), (7, false), (8, false), (9, false), (10, false), (11, false)] [0, 0, 2, 0, 0, 16, 63, 127, 255, 255, 511, 2047])
 (.seq (cutK [2, 5, 9, 11, 13, 16, 18, 115] s9c1_K (s9c1 Ψ) (.reg [⟨none, [(0, false), (1, false), (2, false), (3, false)]⟩, ⟨some (111, false), [(4, false), (5, false), (6, false)]⟩, ⟨none, [(7, false)]⟩])
 (.cond (.seq (rA 1)
 (.leaf))
 (.leaf)))
 (cutK [2, 5, 9, 11, 13, 16, 18, 20] s9c2_K (s9c2 Ψ) (.reg [⟨none, [(0, false), (1, false)]⟩, ⟨some (117, true), [(2, false)]⟩, ⟨none, [(3, false), (4, false)]⟩])
 (cutK [2, 5, 9, 11, 13, 20] s9c3_K (s9c3 Ψ) (.seq (rA 3)
 (.cond (.reg [⟨none, [(0, false), (1, false)]⟩, ⟨some (124, false), [(2, false)]⟩, ⟨none, [(3, false), (4, false)]⟩])
 (.leaf)))
 (cutK [11, 20] s9c4_K (s9c4 Ψ) (.seq (rA 3)
 (.cond (.seq (rA 9)
 (.seq (.draw [(0, false), (1, false), (3, false), (4, false), (2, false), (5, false), (6, false), (7, false), (8, false), (9, false), (10, false)] [0, 0, 2, 0, 8, 31, 63, 127, 127, 255, 1023])
 (.seq (.draw [(0, false), (1, false), (3, false), (4, false), (2, false), (5, false), (6, false), (7, false), (8, false), (9, false), (10, false)] [0, 0, 2, 0, 8, 31, 63, 127, 127, 255, 1023])
 (.seq (cutK [11, 21, 23, 25, 167] s9c5_K (s9c5 Ψ) (.reg [⟨none, [(0, false), (1, false), (2, false), (3, false)]⟩, ⟨some (158, false), [(4, false), (5, false), (6, false)]⟩, ⟨none, [(7, false), (8, false)]⟩, ⟨some (163, false), [(9, false), (10, false), (11, false)]⟩, ⟨none, [(12, false)]⟩])
 (.cond (.seq (rA 1)
 (.leaf))
 (.leaf)))
 (.seq (rA 1)
 (.seq (rA 1)
 (.block (loopK [11, 20, 21, 23, 25, 27] s9l6_K (s9l6 Ψ) (fun L6 =>
 .seq (.seq (rA 4)
 (.cond (.leaf)
 (.leaf)))
 (cutK [11, 20, 21, 23, 25, 27] s9c7_K (s9c7 Ψ (LK s9l6_K L6)) (.block (.reg [⟨none, [(0, false), (1, false)]⟩, ⟨some (175, true), [(2, false), (3, false), (4, false), (5, false), (6, false), (7, false), (8, false), (9, false)]⟩, ⟨some (183, false), [(10, false), (11, false), (12, false), (13, false), (14, false), (15, false)]⟩, ⟨some (175, true), [(16, false)]⟩, ⟨none, [(17, false), (18, false)]⟩]))
 (rA 3)))))))))))
 (.leaf)))
 (.seq (.reg [⟨none, [(0, false), (1, false), (2, false), (3, false)]⟩, ⟨some (195, true), [(4, false)]⟩, ⟨none, [(5, false), (6, false)]⟩])
 (.leaf))))))))))))))

theorem s9_ok {Ψ : AVal → Heap → Prop} {rows : AVal} {m_Up : AVal} {m_Val : AVal} {w : Int} {id_ : Int} {h : Heap} (H : s9 Ψ rows m_Up m_Val w id_ h) : ACalls prog 9 [rows, (.agg [m_Up, m_Val]), (.int .i64 w), (.int .i64 id_)] h Ψ :=
 calls_of_evF func9 (by kernel_rfl) (by kernel_rfl) (by kernel_rfl)
 (Eq.mpr (by as_aux_lemma => kernel_rfl : oblF prog f9 (s9_A Ψ) Ψ = ((True) ∧ ((True) ∧ ((True) ∧ ((otP 13) ∧ ((True) ∧ ((otP 13) ∧ ((otP 45) ∧ ((True) ∧ ((True) ∧ (((True) ∧ ((QK s9c1_K (s9c1 Ψ)) ∧ (otP 3))) ∧ ((True) ∧ ((QK s9c2_K (s9c2 Ψ)) ∧ ((otP 5) ∧ ((QK s9c3_K (s9c3 Ψ)) ∧ (((True) ∧ (((True) ∧ ((True) ∧ ((True) ∧ (((True) ∧ ((QK s9c5_K (s9c5 Ψ)) ∧ (otP 3))) ∧ ((True) ∧ ((True) ∧ ((NK s9l6_K (s9l6 Ψ 0)) ∧ (∀ n6 : Nat, (QK s9l6_K (s9l6 Ψ (n6 + 1))) ∧ ((otP 5) ∧ ((True) ∧ ((QK s9c7_K (s9c7 Ψ (s9l6_G (s9l6 Ψ n6)))) ∧ (True)))))))))))) ∧ (True))) ∧ ((QK s9c4_K (s9c4 Ψ)) ∧ (otP 1)))))))))))))))))) (⟨trivial, ⟨trivial, ⟨trivial, ⟨otP_ok 13, ⟨trivial, ⟨otP_ok 13, ⟨otP_ok 45, ⟨trivial, ⟨trivial, ⟨⟨trivial, ⟨oI, otP_ok 3⟩⟩, ⟨trivial, ⟨oI, ⟨otP_ok 5, ⟨oI, ⟨⟨trivial, ⟨⟨trivial, ⟨trivial, ⟨trivial, ⟨⟨trivial, ⟨oI, otP_ok 3⟩⟩, ⟨trivial, ⟨trivial, ⟨fun _ _ _ _ _ _ _ H => H, fun _ => ⟨oI, ⟨otP_ok 5, ⟨trivial, ⟨oI, trivial⟩⟩⟩⟩⟩⟩⟩⟩⟩⟩⟩, trivial⟩⟩, ⟨oI, otP_ok 1⟩⟩⟩⟩⟩⟩⟩⟩⟩⟩⟩⟩⟩⟩⟩⟩))
 (Eq.mpr (by as_aux_lemma => kernel_rfl : evF prog f9 (s9_A Ψ) Ψ [rows, (.agg [m_Up, m_Val]), (.int .i64 w), (.int .i64 id_)] h = s9 Ψ rows m_Up m_Val w id_ h) H)

/- 13 dictum/force.Holds -/
abbrev s13l1_T := AVal → AVal → AVal → Int → Int → Heap → Prop
abbrev s13l1_K : List Kd := [.any, .any, .any, .int .i64, .int .i64]
def s13l1_G (F : s13l1_T) : s13l1_T := GK s13l1_K F
def s13l1_E (F : Nat → s13l1_T) : s13l1_T := EK s13l1_K F
theorem s13l1_go {F : s13l1_T} {x0 x1 x2 : AVal} {x3 x4 : Int} {h : Heap} (H : F x0 x1 x2 x3 x4 h) : s13l1_G F x0 x1 x2 x3 x4 h := gJ_plain rfl H
theorem s13l1_in {F : Nat → s13l1_T} {x0 x1 x2 : AVal} {x3 x4 : Int} {h : Heap} (n : Nat) (H : F n x0 x1 x2 x3 x4 h) : s13l1_E F x0 x1 x2 x3 x4 h := gJ_plain rfl ⟨n, H⟩

abbrev s13c2_K : List Kd := [.any, .any, .any, .int .i64, .int .i64, .bool]
def s13c2 (Ψ : AVal → Heap → Prop) (L1 : s13l1_T) (s2 y1 left1 : AVal) (t34_1 t35_1 : Int) (t50 : Bool) (h : Heap) : Prop :=
 ifT t50 (
 retG (.tuple [(.bool false), (.int .i64 0)]) h Ψ) (
 rg (t35_1 + 1) (
 L1 s2 y1 left1 t34_1 (t35_1 + 1) h))

def s13l1 (Ψ : AVal → Heap → Prop) : Nat → s13l1_T
 | 0, _, _, _, _, _, _ => False
 | n1 + 1, s1, y, left, t34, t35, h =>
 ifT (decide (t35 < t34)) (
 Sym.newRow 1 [(.int .i64 0)] h fun r1 h_5 =>
 st true h_5 (.ptr r1 0 0) [(.int .i64 t35)] fun h_6 =>
 callG prog 48 [left, (.func (.func 49) [] [y, (.ptr r1 0 0)])] h_6 fun v7 h_7 =>
 tBool v7 fun v8 =>
 ifT (!v8) (
 ld1 h_7 y fun v9 =>
 ld1 h_7 (.ptr r1 0 0) fun v10 =>
 tInt .i64 v10 fun v11 =>
 addOff s1 16 fun p1 =>
 ld1 h_7 p1 fun v12 =>
 tInt .i64 v12 fun v13 =>
 callG prog 50 [v9, (.int .i64 v11), (.int .i64 v13)] h_7 fun v14 h_8 =>
 tBool v14 fun v15 =>
 s13c2 Ψ (s13l1_G (s13l1 Ψ n1)) s1 y left t34 t35 (!v15) h_8) (
 s13c2 Ψ (s13l1_G (s13l1 Ψ n1)) s1 y left t34 t35 false h_7)) (
 retG (.tuple [(.bool true), (.int .i64 0)]) h Ψ)

def s13 (Ψ : AVal → Heap → Prop) (t : AVal) (m_Up : AVal) (m_Val : AVal) (s : AVal) (h : Heap) : Prop :=
 aggN 17 s fun cs =>
 callG prog 45 [t, (.agg [m_Up, m_Val])] h fun v h_ =>
 tTup v fun l_ =>
 tCons l_ fun v1 l_1 =>
 tCons l_1 fun v2 l_2 =>
 tInt .i64 v2 fun v3 =>
 tNil l_2 (
 Sym.newRow 1 [.nilptr] h_ fun r h_1 =>
 chk (sc v1) (
 st true h_1 (.ptr r 0 0) [v1] fun h_2 =>
 ifT (v3 != 0) (
 retG (.tuple [(.bool false), (.int .i64 v3)]) h_2 Ψ) (
 ldN 17 h_2 (.lptr cs) fun l_3 =>
 callG prog 46 [t, (.agg l_3)] h_2 fun v4 h_3 =>
 tInt .i64 v4 fun v5 =>
 ifT (v5 != 0) (
 retG (.tuple [(.bool false), (.int .i64 v5)]) h_3 Ψ) (
 addOff (.lptr cs) 0 fun p =>
 ldN 16 h_3 p fun l_4 =>
 callG prog 47 [(.agg l_4)] h_3 fun v6 h_4 =>
 lenN m_Up fun n =>
 s13l1_E (s13l1 Ψ) (.lptr cs) (.ptr r 0 0) v6 n 0 h_4))))

def s13_A (Ψ : AVal → Heap → Prop) : Ann :=
 .seq (.reg [⟨none, [(0, true), (1, true), (2, false), (3, false)]⟩])
 (.seq (rA 9)
 (.seq (.seq (rA 2)
 (.cond (.seq (rA 3)
 (.leaf))
 (.leaf)))
 (.seq (.seq (rA 4)
 (.seq (rA 2)
 (.cond (.seq (rA 3)
 (.leaf))
 (.leaf))))
 (.seq (rA 4)
 (.seq (.seq (rA 4)
 (.block (loopK [5, 8, 11, 34, 35] s13l1_K (s13l1 Ψ) (fun L1 =>
 .seq (rA 1)
 (.seq (.cond (.leaf)
 (.leaf))
 (.seq (.block (.seq (rA 3)
 (.seq (rA 5)
 (cutK [5, 8, 11, 34, 35, 50] s13c2_K (s13c2 Ψ (LK s13l1_K L1)) (.reg [⟨none, [(0, false), (1, false)]⟩, ⟨some (43, true), [(2, false), (3, false), (4, false), (5, false), (6, false), (7, false)]⟩, ⟨none, [(8, false)]⟩])
 (.cond (.seq (rA 2)
 (.leaf))
 (.leaf))))))
 (rA 2)))))))
 (.seq (rA 2)
 (.leaf)))))))

theorem s13_ok {Ψ : AVal → Heap → Prop} {t : AVal} {m_Up : AVal} {m_Val : AVal} {s : AVal} {h : Heap} (H : s13 Ψ t m_Up m_Val s h) : ACalls prog 13 [t, (.agg [m_Up, m_Val]), s] h Ψ :=
 calls_of_evF func13 (by kernel_rfl) (by kernel_rfl) (by kernel_rfl)
 (Eq.mpr (by as_aux_lemma => kernel_rfl : oblF prog f13 (s13_A Ψ) Ψ = ((True) ∧ ((True) ∧ ((otP 13) ∧ ((otP 53) ∧ ((True) ∧ (((True) ∧ ((NK s13l1_K (s13l1 Ψ 0)) ∧ (∀ n1 : Nat, (QK s13l1_K (s13l1 Ψ (n1 + 1))) ∧ ((True) ∧ ((otP 1) ∧ (((True) ∧ ((True) ∧ ((True) ∧ ((QK s13c2_K (s13c2 Ψ (s13l1_G (s13l1 Ψ n1)))) ∧ (otP 3))))) ∧ (True))))))) ∧ (otP 1)))))))) (⟨trivial, ⟨trivial, ⟨otP_ok 13, ⟨otP_ok 53, ⟨trivial, ⟨⟨trivial, ⟨fun _ _ _ _ _ _ H => H, fun _ => ⟨oI, ⟨trivial, ⟨otP_ok 1, ⟨⟨trivial, ⟨trivial, ⟨trivial, ⟨oI, otP_ok 3⟩⟩⟩⟩, trivial⟩⟩⟩⟩⟩⟩, otP_ok 1⟩⟩⟩⟩⟩⟩))
 (Eq.mpr (by as_aux_lemma => kernel_rfl : evF prog f13 (s13_A Ψ) Ψ [t, (.agg [m_Up, m_Val]), s] h = s13 Ψ t m_Up m_Val s h) H)

/- 17 dictum/dictumlaw18.heads -/
def s17 (Ψ : AVal → Heap → Prop) (h : Heap) : Prop :=
 callG prog 55 [] h fun v h_ =>
 callG prog 54 [v] h_ fun v1 h_1 =>
 tTup v1 fun l_ =>
 tCons l_ fun v2 l_1 =>
 tCons l_1 fun v3 l_2 =>
 tInt .i64 v3 fun v4 =>
 tNil l_2 (
 Sym.newRow 2 [(.agg [.nilsl, .nilsl])] h_1 fun r h_2 =>
 st false h_2 (.ptr r 0 0) [(.lsl 1 [(.lsl 1 [(.int .i64 1)]), (.lsl 1 [])]), (.lsl 1 [(.lsl 1 []), (.lsl 1 [(.str (ByteArray.mk #[112]))])])] fun h_3 =>
 ldN 2 h_3 (.ptr r 0 0) fun l_3 =>
 tCons l_3 fun v5 l_4 =>
 tCons l_4 fun v6 l_5 =>
 tNil l_5 (
 callG prog 27 [v2, (.agg [v5, v6]), (.int .i64 0), (.int .i64 3)] h_3 fun v7 h_4 =>
 tTup v7 fun l_6 =>
 tCons l_6 fun v8 l_7 =>
 tBool v8 fun v9 =>
 tCons l_7 fun v10 l_8 =>
 tInt .i64 v10 fun v11 =>
 tNil l_8 (
 ldN 2 h_4 (.ptr r 0 0) fun l_9 =>
 tCons l_9 fun v12 l_10 =>
 tCons l_10 fun v13 l_11 =>
 tNil l_11 (
 callG prog 27 [v2, (.agg [v12, v13]), (.int .i64 0), (.int .i64 4)] h_4 fun v14 h_5 =>
 tTup v14 fun l_12 =>
 tCons l_12 fun v15 l_13 =>
 tBool v15 fun v16 =>
 tCons l_13 fun v17 l_14 =>
 tInt .i64 v17 fun v18 =>
 tNil l_14 (
 ldN 2 h_5 (.ptr r 0 0) fun l_15 =>
 tCons l_15 fun v19 l_16 =>
 tCons l_16 fun v20 l_17 =>
 tNil l_17 (
 callG prog 29 [v2, (.agg [v19, v20]), (.int .i64 1)] h_5 fun v21 h_6 =>
 tTup v21 fun l_18 =>
 tCons l_18 fun v22 l_19 =>
 tCons l_19 fun v23 l_20 =>
 tInt .i64 v23 fun v24 =>
 tNil l_20 (
 Sym.newRow 16 [(.agg [(.int .u64 0), (.int .u64 0), (.int .u64 0), (.int .u64 0), (.int .u64 0), (.int .u64 0), (.int .u64 0), (.int .u64 0), (.int .u64 0), (.int .u64 0), (.int .u64 0), (.int .u64 0), (.int .u64 0), (.int .u64 0), (.int .u64 0), (.int .u64 0)])] h_6 fun r1 h_7 =>
 aggN 16 v22 fun cs =>
 st false h_7 (.ptr r1 0 0) cs fun h_8 =>
 ldN 2 h_8 (.ptr r 0 0) fun l_21 =>
 tCons l_21 fun v25 l_22 =>
 tCons l_22 fun v26 l_23 =>
 tNil l_23 (
 callG prog 31 [v2, (.agg [v25, v26]), (.int .i64 4)] h_8 fun v27 h_9 =>
 tTup v27 fun l_24 =>
 tCons l_24 fun v28 l_25 =>
 tCons l_25 fun v29 l_26 =>
 tInt .i64 v29 fun v30 =>
 tNil l_26 (
 ldN 2 h_9 (.ptr r 0 0) fun l_27 =>
 tCons l_27 fun v31 l_28 =>
 tCons l_28 fun v32 l_29 =>
 tNil l_29 (
 callG prog 22 [v2, (.agg [v31, v32]), (.int .i64 3)] h_9 fun v33 h_10 =>
 tTup v33 fun l_30 =>
 tCons l_30 fun v34 l_31 =>
 tBool v34 fun v35 =>
 tCons l_31 fun v36 l_32 =>
 tInt .i64 v36 fun v37 =>
 tNil l_32 (
 ldN 2 h_10 (.ptr r 0 0) fun l_33 =>
 tCons l_33 fun v38 l_34 =>
 tCons l_34 fun v39 l_35 =>
 tNil l_35 (
 callG prog 13 [v2, (.agg [v38, v39]), (.agg [(.int .u64 16), (.int .u64 0), (.int .u64 0), (.int .u64 0), (.int .u64 0), (.int .u64 0), (.int .u64 0), (.int .u64 0), (.int .u64 0), (.int .u64 0), (.int .u64 0), (.int .u64 0), (.int .u64 0), (.int .u64 0), (.int .u64 0), (.int .u64 0), (.int .i64 0)])] h_10 fun v40 h_11 =>
 tTup v40 fun l_36 =>
 tCons l_36 fun v41 l_37 =>
 tBool v41 fun v42 =>
 tCons l_37 fun v43 l_38 =>
 tInt .i64 v43 fun v44 =>
 tNil l_38 (
 ldN 2 h_11 (.ptr r 0 0) fun l_39 =>
 tCons l_39 fun v45 l_40 =>
 tCons l_40 fun v46 l_41 =>
 tNil l_41 (
 callG prog 19 [v2, (.agg [v45, v46]), (.int .i64 3)] h_11 fun v47 h_12 =>
 tTup v47 fun l_42 =>
 tCons l_42 fun v48 l_43 =>
 tBool v48 fun v49 =>
 tCons l_43 fun v50 l_44 =>
 tCons l_44 fun v51 l_45 =>
 tInt .i64 v51 fun v52 =>
 tNil l_45 (
 tAgg v50 fun l_46 =>
 tCons l_46 fun v53 l_47 =>
 tCons l_47 fun v54 l_48 =>
 tNil l_48 (
 Sym.newRow 2 [(.agg [.nilsl, .nilsl])] h_12 fun r2 h_13 =>
 st false h_13 (.ptr r2 0 0) [v53, v54] fun h_14 =>
 callG prog 19 [v2, (.agg [(.lsl 1 [(.lsl 1 [])]), (.lsl 1 [(.lsl 1 [])])]), (.int .i64 3)] h_14 fun v55 h_15 =>
 tTup v55 fun l_49 =>
 tCons l_49 fun v56 l_50 =>
 tBool v56 fun v57 =>
 tCons l_50 fun v58 l_51 =>
 tCons l_51 fun v59 l_52 =>
 tInt .i64 v59 fun v60 =>
 tNil l_52 (
 tAgg v58 fun l_53 =>
 tCons l_53 fun v61 l_54 =>
 tCons l_54 fun v62 l_55 =>
 tNil l_55 (
 Sym.newRow 2 [(.agg [.nilsl, .nilsl])] h_15 fun r3 h_16 =>
 st false h_16 (.ptr r3 0 0) [v61, v62] fun h_17 =>
 callG prog 16 [(.int .i64 v11)] h_17 fun v63 h_18 =>
 tInt .i64 v63 fun v64 =>
 ifT (v64 == 0) (
 ifT (!v9) (
 callG prog 16 [(.int .i64 v18)] h_18 fun v65 h_19 =>
 tInt .i64 v65 fun v66 =>
 ifT (v66 == 0) (
 ifT v16 (
 callG prog 16 [(.int .i64 v24)] h_19 fun v67 h_20 =>
 tInt .i64 v67 fun v68 =>
 ifT (v68 == 0) (
 ldN 16 h_20 (.ptr r1 0 0) fun l_56 =>
 eqQ prog 29 (.agg l_56) (.agg [(.int .u64 25), (.int .u64 0), (.int .u64 0), (.int .u64 0), (.int .u64 0), (.int .u64 0), (.int .u64 0), (.int .u64 0), (.int .u64 0), (.int .u64 0), (.int .u64 0), (.int .u64 0), (.int .u64 0), (.int .u64 0), (.int .u64 0), (.int .u64 0)]) fun b =>
 ifT b (
 callG prog 16 [(.int .i64 v30)] h_20 fun v69 h_21 =>
 tInt .i64 v69 fun v70 =>
 ifT (v70 == 0) (
 lenN v28 fun n =>
 ifT (n == 2) (
 callG prog 16 [(.int .i64 v37)] h_21 fun v71 h_22 =>
 tInt .i64 v71 fun v72 =>
 ifT (v72 == 0) (
 ifT (!v35) (
 callG prog 16 [(.int .i64 v44)] h_22 fun v73 h_23 =>
 tInt .i64 v73 fun v74 =>
 ifT (v74 == 0) (
 ifT (!v42) (
 callG prog 16 [(.int .i64 v52)] h_23 fun v75 h_24 =>
 tInt .i64 v75 fun v76 =>
 ifT (v76 == 0) (
 ifT (!v49) (
 ldN 2 h_24 (.ptr r2 0 0) fun l_57 =>
 tCons l_57 fun v77 l_58 =>
 tCons l_58 fun v78 l_59 =>
 tNil l_59 (
 ldN 2 h_24 (.ptr r 0 0) fun l_60 =>
 tCons l_60 fun v79 l_61 =>
 tCons l_61 fun v80 l_62 =>
 tNil l_62 (
 callG prog 20 [(.agg [v77, v78]), (.agg [v79, v80])] h_24 fun v81 h_25 =>
 tBool v81 fun v82 =>
 ifT v82 (
 callG prog 16 [(.int .i64 v60)] h_25 fun v83 h_26 =>
 tInt .i64 v83 fun v84 =>
 ifT (v84 == 0) (
 ifT v57 (
 ld1 h_26 (.ptr r3 0 0) fun v85 =>
 lenN v85 fun n1 =>
 retG (.bool (n1 == 0)) h_26 Ψ) (
 retG (.bool false) h_26 Ψ)) (
 retG (.bool false) h_26 Ψ)) (
 retG (.bool false) h_25 Ψ)))) (
 retG (.bool false) h_24 Ψ)) (
 retG (.bool false) h_24 Ψ)) (
 retG (.bool false) h_23 Ψ)) (
 retG (.bool false) h_23 Ψ)) (
 retG (.bool false) h_22 Ψ)) (
 retG (.bool false) h_22 Ψ)) (
 retG (.bool false) h_21 Ψ)) (
 retG (.bool false) h_21 Ψ)) (
 retG (.bool false) h_20 Ψ)) (
 retG (.bool false) h_20 Ψ)) (
 retG (.bool false) h_19 Ψ)) (
 retG (.bool false) h_19 Ψ)) (
 retG (.bool false) h_18 Ψ)) (
 retG (.bool false) h_18 Ψ)))))))))))))))))))

def s17_A (Ψ : AVal → Heap → Prop) : Ann :=
 .seq (rA 1)
 (.seq (rA 7)
 (.seq (.reg [⟨none, [(0, true), (1, true), (2, true), (3, true), (4, true), (5, true), (6, false), (7, false), (8, false)]⟩])
 (.seq (rA 8)
 (.seq (rA 8)
 (.seq (rA 9)
 (.seq (rA 8)
 (.seq (rA 8)
 (.seq (rA 10)
 (.seq (rA 11)
 (.seq (.reg [⟨none, [(0, false), (1, true), (2, true), (3, true), (4, true), (5, false), (6, false), (7, false), (8, false), (9, false), (10, false), (11, false), (12, false), (13, false), (14, false)]⟩])
 (.seq (.reg [⟨none, [(0, false), (1, false), (2, false), (3, false)]⟩, ⟨some (93, true), [(4, false), (5, false)]⟩, ⟨none, [(6, false), (7, false)]⟩, ⟨some (97, true), [(8, false), (9, false), (10, false)]⟩, ⟨none, [(11, false), (12, false)]⟩, ⟨some (102, true), [(13, false)]⟩, ⟨none, [(14, false), (15, false)]⟩, ⟨some (105, true), [(16, false), (17, false), (18, false)]⟩, ⟨none, [(19, false), (20, false)]⟩, ⟨some (110, true), [(21, false), (22, false), (23, false)]⟩, ⟨none, [(24, false), (25, false)]⟩, ⟨some (115, true), [(26, false), (27, false), (28, false)]⟩, ⟨none, [(29, false), (30, false)]⟩, ⟨some (120, true), [(31, false), (32, false), (33, false)]⟩, ⟨none, [(34, false), (35, false)]⟩, ⟨some (125, true), [(36, false), (37, false), (38, false)]⟩, ⟨none, [(39, false), (40, false)]⟩, ⟨some (130, true), [(41, false), (42, false)]⟩, ⟨none, [(43, false), (44, false)]⟩, ⟨some (134, true), [(45, false), (46, false), (47, false)]⟩, ⟨none, [(48, false), (49, false)]⟩, ⟨some (139, true), [(50, false), (51, false)]⟩, ⟨none, [(52, false), (53, false)]⟩, ⟨some (143, true), [(54, false), (55, false), (56, false)]⟩, ⟨none, [(57, false), (58, false)]⟩, ⟨some (148, true), [(59, false), (60, false)]⟩, ⟨none, [(61, false), (62, false)]⟩, ⟨some (152, true), [(63, false), (64, false), (65, false)]⟩, ⟨none, [(66, false), (67, false)]⟩, ⟨some (157, true), [(68, false), (69, false), (70, false)]⟩, ⟨none, [(71, false), (72, false)]⟩, ⟨some (162, true), [(73, false)]⟩, ⟨none, [(74, false), (75, false)]⟩, ⟨some (165, true), [(76, false), (77, false), (78, false), (79, false)]⟩, ⟨none, [(80, false), (81, false)]⟩])
 (.leaf))))))))))))

theorem s17_ok {Ψ : AVal → Heap → Prop} {h : Heap} (H : s17 Ψ  h) : ACalls prog 17 [] h Ψ :=
 calls_of_evF func17 (by kernel_rfl) (by kernel_rfl) (by kernel_rfl)
 (Eq.mpr (by as_aux_lemma => kernel_rfl : oblF prog f17 (s17_A Ψ) Ψ = (otP 5592405)) (otP_ok 5592405))
 (Eq.mpr (by as_aux_lemma => kernel_rfl : evF prog f17 (s17_A Ψ) Ψ [] h = s17 Ψ  h) H)

/- 20 dictum/dictumref17.Same -/
abbrev s20l2_T := AVal → AVal → Int → Heap → Prop
abbrev s20l2_K : List Kd := [.any, .any, .int .i64]
def s20l2_G (F : s20l2_T) : s20l2_T := GK s20l2_K F
def s20l2_E (F : Nat → s20l2_T) : s20l2_T := EK s20l2_K F
theorem s20l2_go {F : s20l2_T} {x0 x1 : AVal} {x2 : Int} {h : Heap} (H : F x0 x1 x2 h) : s20l2_G F x0 x1 x2 h := gJ_plain rfl H
theorem s20l2_in {F : Nat → s20l2_T} {x0 x1 : AVal} {x2 : Int} {h : Heap} (n : Nat) (H : F n x0 x1 x2 h) : s20l2_E F x0 x1 x2 h := gJ_plain rfl ⟨n, H⟩

abbrev s20l3_T := AVal → AVal → Int → Heap → Prop
abbrev s20l3_K : List Kd := [.any, .any, .int .i64]
def s20l3_G (F : s20l3_T) : s20l3_T := GK s20l3_K F
def s20l3_E (F : Nat → s20l3_T) : s20l3_T := EK s20l3_K F
theorem s20l3_go {F : s20l3_T} {x0 x1 : AVal} {x2 : Int} {h : Heap} (H : F x0 x1 x2 h) : s20l3_G F x0 x1 x2 h := gJ_plain rfl H
theorem s20l3_in {F : Nat → s20l3_T} {x0 x1 : AVal} {x2 : Int} {h : Heap} (n : Nat) (H : F n x0 x1 x2 h) : s20l3_E F x0 x1 x2 h := gJ_plain rfl ⟨n, H⟩

def s20l3 (Ψ : AVal → Heap → Prop) : Nat → s20l3_T
 | 0, _, _, _, _ => False
 | n2 + 1, a2, b2, i1, h =>
 addOff a2 1 fun p5 =>
 ld1 h p5 fun v7 =>
 lenN v7 fun n3 =>
 ifT (decide (i1 < n3)) (
 addOff a2 1 fun p6 =>
 ld1 h p6 fun v8 =>
 ixS 1 v8 i1 fun p7 =>
 ld1 h p7 fun v9 =>
 addOff b2 1 fun p8 =>
 ld1 h p8 fun v10 =>
 ixS 1 v10 i1 fun p9 =>
 ld1 h p9 fun v11 =>
 callG prog 63 [v9, v11] h fun v12 h_1 =>
 tBool v12 fun v13 =>
 ifT (!v13) (
 retG (.bool false) h_1 Ψ) (
 rg (i1 + 1) (
 s20l3_G (s20l3 Ψ n2) a2 b2 (i1 + 1) h_1))) (
 retG (.bool true) h Ψ)

def s20l2 (Ψ : AVal → Heap → Prop) : Nat → s20l2_T
 | 0, _, _, _, _ => False
 | n + 1, a1, b1, i, h =>
 addOff a1 0 fun p =>
 ld1 h p fun v =>
 lenN v fun n1 =>
 ifT (decide (i < n1)) (
 addOff a1 0 fun p1 =>
 ld1 h p1 fun v1 =>
 ixS 1 v1 i fun p2 =>
 ld1 h p2 fun v2 =>
 addOff b1 0 fun p3 =>
 ld1 h p3 fun v3 =>
 ixS 1 v3 i fun p4 =>
 ld1 h p4 fun v4 =>
 callG prog 33 [v2, v4] h fun v5 h_ =>
 tBool v5 fun v6 =>
 ifT (!v6) (
 retG (.bool false) h_ Ψ) (
 rg (i + 1) (
 s20l2_G (s20l2 Ψ n) a1 b1 (i + 1) h_))) (
 s20l3_E (s20l3 Ψ) a1 b1 0 h)

abbrev s20c1_K : List Kd := [.any, .any, .bool]
def s20c1 (Ψ : AVal → Heap → Prop) (a b : AVal) (t22 : Bool) (h : Heap) : Prop :=
 ifT t22 (
 retG (.bool false) h Ψ) (
 s20l2_E (s20l2 Ψ) a b 0 h)

def s20 (Ψ : AVal → Heap → Prop) (a_Up : AVal) (a_Val : AVal) (b_Up : AVal) (b_Val : AVal) (h : Heap) : Prop :=
 lenN a_Up fun n6 =>
 lenN b_Up fun n7 =>
 ifT (n6 != n7) (
 s20c1 Ψ (.lptr [a_Up, a_Val]) (.lptr [b_Up, b_Val]) true h) (
 lenN a_Val fun n8 =>
 lenN b_Val fun n9 =>
 s20c1 Ψ (.lptr [a_Up, a_Val]) (.lptr [b_Up, b_Val]) (n8 != n9) h)

def s20_A (Ψ : AVal → Heap → Prop) : Ann :=
 .seq (.reg [⟨none, [(0, true), (1, true), (2, false)]⟩])
 (.seq (cutK [2, 3, 22] s20c1_K (s20c1 Ψ) (.reg [⟨none, [(0, false), (1, false), (2, false), (3, false), (4, false), (5, false), (6, false), (7, false)]⟩, ⟨some (14, false), [(8, false), (9, false), (10, false), (11, false), (12, false), (13, false), (14, false)]⟩, ⟨none, [(15, false)]⟩])
 (.cond (.seq (rA 1)
 (.leaf))
 (.leaf)))
 (.seq (.seq (rA 1)
 (.block (loopK [2, 3, 5] s20l2_K (s20l2 Ψ) (fun L2 =>
 .seq (.seq (rA 5)
 (.cond (.leaf)
 (.leaf)))
 (.seq (.block (.seq (.draw [(0, false), (1, false), (2, false), (3, false), (4, false), (5, false), (6, false), (7, false), (8, false), (9, false), (10, false), (11, false)] [0, 1, 0, 7, 15, 0, 32, 0, 224, 480, 1023, 2047])
 (.cond (.seq (rA 1)
 (.leaf))
 (.leaf))))
 (rA 3))))))
 (.seq (.seq (rA 1)
 (.block (loopK [2, 3, 6] s20l3_K (s20l3 Ψ) (fun L3 =>
 .seq (.seq (rA 5)
 (.cond (.leaf)
 (.leaf)))
 (.seq (.block (.seq (.draw [(0, false), (1, false), (2, false), (3, false), (4, false), (5, false), (6, false), (7, false), (8, false), (9, false), (10, false), (11, false)] [0, 1, 0, 7, 15, 0, 32, 0, 224, 480, 1023, 2047])
 (.cond (.seq (rA 1)
 (.leaf))
 (.leaf))))
 (rA 3))))))
 (.seq (rA 1)
 (.leaf)))))

theorem s20_ok {Ψ : AVal → Heap → Prop} {a_Up : AVal} {a_Val : AVal} {b_Up : AVal} {b_Val : AVal} {h : Heap} (H : s20 Ψ a_Up a_Val b_Up b_Val h) : ACalls prog 20 [(.agg [a_Up, a_Val]), (.agg [b_Up, b_Val])] h Ψ :=
 calls_of_evF func20 (by kernel_rfl) (by kernel_rfl) (by kernel_rfl)
 (Eq.mpr (by as_aux_lemma => kernel_rfl : oblF prog f20 (s20_A Ψ) Ψ = ((True) ∧ (((True) ∧ ((QK s20c1_K (s20c1 Ψ)) ∧ (otP 3))) ∧ (((True) ∧ ((NK s20l2_K (s20l2 Ψ 0)) ∧ (∀ n2 : Nat, (QK s20l2_K (s20l2 Ψ (n2 + 1))) ∧ (otP 1739)))) ∧ (((True) ∧ ((NK s20l3_K (s20l3 Ψ 0)) ∧ (∀ n3 : Nat, (QK s20l3_K (s20l3 Ψ (n3 + 1))) ∧ (otP 1739)))) ∧ (otP 1)))))) (⟨trivial, ⟨⟨trivial, ⟨oI, otP_ok 3⟩⟩, ⟨⟨trivial, ⟨fun _ _ _ _ H => H, fun _ => ⟨oI, otP_ok 1739⟩⟩⟩, ⟨⟨trivial, ⟨fun _ _ _ _ H => H, fun _ => ⟨oI, otP_ok 1739⟩⟩⟩, otP_ok 1⟩⟩⟩⟩))
 (Eq.mpr (by as_aux_lemma => kernel_rfl : evF prog f20 (s20_A Ψ) Ψ [(.agg [a_Up, a_Val]), (.agg [b_Up, b_Val])] h = s20 Ψ a_Up a_Val b_Up b_Val h) H)

/- 36 dictum/worlds.Check -/
def s36 (Ψ : AVal → Heap → Prop) (m_Up : AVal) (m_Val : AVal) (h : Heap) : Prop :=
 callG prog 70 [(.agg [m_Up, m_Val]), .nilsl] h fun v h_ =>
 tTup v fun l_ =>
 tCons l_ fun v1 l_1 =>
 tCons l_1 fun v2 l_2 =>
 tInt .i64 v2 fun v3 =>
 tNil l_2 (
 retG (.int .i64 v3) h_ Ψ)

def s36_A (Ψ : AVal → Heap → Prop) : Ann :=
 .seq (.reg [⟨none, [(0, true), (1, false)]⟩])
 (.seq (rA 7)
 (.seq (rA 2)
 (.leaf)))

theorem s36_ok {Ψ : AVal → Heap → Prop} {m_Up : AVal} {m_Val : AVal} {h : Heap} (H : s36 Ψ m_Up m_Val h) : ACalls prog 36 [(.agg [m_Up, m_Val])] h Ψ :=
 calls_of_evF func36 (by kernel_rfl) (by kernel_rfl) (by kernel_rfl)
 (Eq.mpr (by as_aux_lemma => kernel_rfl : oblF prog f36 (s36_A Ψ) Ψ = (otP 21)) (otP_ok 21))
 (Eq.mpr (by as_aux_lemma => kernel_rfl : evF prog f36 (s36_A Ψ) Ψ [(.agg [m_Up, m_Val])] h = s36 Ψ m_Up m_Val h) H)

/- 39 dictum/worlds.True -/
def s39 (Ψ : AVal → Heap → Prop) (m_Up : AVal) (m_Val : AVal) (w : Int) (atom : ByteArray) (h : Heap) : Prop :=
 callG prog 70 [(.agg [m_Up, m_Val]), (.lsl 1 [(.int .i64 w)])] h fun v h_ =>
 tTup v fun l_ =>
 tCons l_ fun v1 l_1 =>
 tCons l_1 fun v2 l_2 =>
 tInt .i64 v2 fun v3 =>
 tNil l_2 (
 ifT (v3 != 0) (
 retG (.tuple [(.bool false), (.int .i64 v3)]) h_ Ψ) (
 ixS 1 m_Val w fun p =>
 ld1 h_ p fun v4 =>
 callG prog 74 [v4, (.str atom)] h_ fun v5 h_1 =>
 tBool v5 fun v6 =>
 retG (.tuple [(.bool v6), (.int .i64 0)]) h_1 Ψ))

def s39_A (Ψ : AVal → Heap → Prop) : Ann :=
 .seq (.reg [⟨none, [(0, true), (1, false), (2, false)]⟩])
 (.seq (.seq (.reg [⟨none, [(0, false), (1, false), (2, true), (3, false), (4, false), (5, false), (6, false), (7, false), (8, false)]⟩])
 (.seq (rA 2)
 (.cond (.seq (rA 3)
 (.leaf))
 (.leaf))))
 (.seq (rA 9)
 (.leaf)))

theorem s39_ok {Ψ : AVal → Heap → Prop} {m_Up : AVal} {m_Val : AVal} {w : Int} {atom : ByteArray} {h : Heap} (H : s39 Ψ m_Up m_Val w atom h) : ACalls prog 39 [(.agg [m_Up, m_Val]), (.int .i64 w), (.str atom)] h Ψ :=
 calls_of_evF func39 (by kernel_rfl) (by kernel_rfl) (by kernel_rfl)
 (Eq.mpr (by as_aux_lemma => kernel_rfl : oblF prog f39 (s39_A Ψ) Ψ = (otP 4525)) (otP_ok 4525))
 (Eq.mpr (by as_aux_lemma => kernel_rfl : evF prog f39 (s39_A Ψ) Ψ [(.agg [m_Up, m_Val]), (.int .i64 w), (.str atom)] h = s39 Ψ m_Up m_Val w atom h) H)

/- 43 dictum/dictumlaw03.Both -/
def s43 (Ψ : AVal → Heap → Prop) (rows : AVal) (h : Heap) : Prop :=
 Sym.newRow 4 [] h fun r h_ =>
 appC 4 40 h_ (.sl r 4 0 0) rows (litG true fun v h_1 =>
 callG prog 80 [rows] h_1 fun v1 h_2 =>
 tTup v1 fun l_ =>
 tCons l_ fun v2 l_1 =>
 tCons l_1 fun v3 l_2 =>
 tInt .i64 v3 fun v4 =>
 tNil l_2 (
 ifT (v4 != 0) (
 retG (.tuple [.nilptr, .nilptr, (.bool false)]) h_2 Ψ) (
 callG prog 54 [v] h_2 fun v5 h_3 =>
 tTup v5 fun l_3 =>
 tCons l_3 fun v6 l_4 =>
 tCons l_4 fun v7 l_5 =>
 tInt .i64 v7 fun v8 =>
 tNil l_5 (
 retG (.tuple [v6, v2, (.bool true)]) h_3 Ψ))))

def s43_A (Ψ : AVal → Heap → Prop) : Ann :=
 .seq (rA 3)
 (.seq (.reg [⟨none, [(0, false), (1, false), (2, true), (3, false)]⟩])
 (.seq (rA 7)
 (.seq (.seq (rA 2)
 (.cond (.seq (rA 3)
 (.leaf))
 (.leaf)))
 (.seq (rA 7)
 (.seq (rA 5)
 (.leaf))))))

theorem s43_ok {Ψ : AVal → Heap → Prop} {rows : AVal} {h : Heap} (H : s43 Ψ rows h) : ACalls prog 43 [rows] h Ψ :=
 calls_of_evF func43 (by kernel_rfl) (by kernel_rfl) (by kernel_rfl)
 (Eq.mpr (by as_aux_lemma => kernel_rfl : oblF prog f43 (s43_A Ψ) Ψ = (otP 83669)) (otP_ok 83669))
 (Eq.mpr (by as_aux_lemma => kernel_rfl : evF prog f43 (s43_A Ψ) Ψ [rows] h = s43 Ψ rows h) H)

/- 45 dictum/force.look -/
def s45 (Ψ : AVal → Heap → Prop) (t : AVal) (m_Up : AVal) (m_Val : AVal) (h : Heap) : Prop :=
 callG prog 81 [t] h fun v h_ =>
 nilP v fun b =>
 ifT b (
 retG (.tuple [.nilptr, (.int .i64 1)]) h_ Ψ) (
 callG prog 36 [(.agg [m_Up, m_Val])] h_ fun v1 h_1 =>
 tInt .i64 v1 fun v2 =>
 ifT (v2 != 0) (
 retG (.tuple [.nilptr, (.int .i64 v2)]) h_1 Ψ) (
 ∃ v3, (callG prog 82 [(.agg [m_Up, m_Val])] h_1 fun v h2 => v = v3 ∧ h2 = h_1) ∧
 newMap h_1 fun r h_3 =>
 ((callG prog 82 [(.agg [m_Up, m_Val])] h_3 fun v h2 => v = v3 ∧ h2 = h_3)) ∧
 ((AVal.agg [m_Up, m_Val]) = (.agg [m_Up, m_Val])) ∧
 ((AVal.agg [m_Up, m_Val]) = (.agg [m_Up, m_Val])) ∧
 chk (sc t) (
 chk (sc v3) (
 retG (.tuple [(.lptr [t, m_Up, m_Val, v3, (.mapr r)]), (.int .i64 0)]) h_3 Ψ))))

def s45_A (Ψ : AVal → Heap → Prop) : Ann :=
 .seq (.reg [⟨none, [(0, true), (1, false), (2, false)]⟩])
 (.seq (.seq (rA 3)
 (.cond (.seq (rA 2)
 (.leaf))
 (.leaf)))
 (.seq (.seq (rA 3)
 (.seq (rA 2)
 (.cond (.seq (rA 3)
 (.leaf))
 (.leaf))))
 (.seq (.draw [(0, false), (1, false), (2, false), (3, true), (4, false), (5, false), (6, true), (7, false), (8, false)] [0, 0, 0, 4, 0, 31, 63, 127, 255])
 (.leaf))))

theorem s45_ok {Ψ : AVal → Heap → Prop} {t : AVal} {m_Up : AVal} {m_Val : AVal} {h : Heap} (H : s45 Ψ t m_Up m_Val h) : ACalls prog 45 [t, (.agg [m_Up, m_Val])] h Ψ :=
 calls_of_evF func45 (by kernel_rfl) (by kernel_rfl) (by kernel_rfl)
 (Eq.mpr (by as_aux_lemma => kernel_rfl : oblF prog f45 (s45_A Ψ) Ψ = (otP 1158253)) (otP_ok 1158253))
 (Eq.mpr (by as_aux_lemma => kernel_rfl : evF prog f45 (s45_A Ψ) Ψ [t, (.agg [m_Up, m_Val])] h = s45 Ψ t m_Up m_Val h) H)

/- 47 dictum/bits.List -/
def s47b1 (l_1 t6 : AVal) (t7 : Int) (h : Heap) (mid : Heap → (Heap → Prop) → Prop) (R : AExit → Heap → Prop) : Prop :=
 mid h fun h =>
 ld1 h l_1 fun v1 =>
 appC 1 8 h v1 (.lsl 1 [(.int .i64 t7)]) fun v2 h_2 =>
 chk (sc v2) (
 st true h_2 l_1 [v2] fun h_3 =>
 R .normal h_3)

def s47b1_B (x0 x1 : AVal) (l : List AVal) (h : Heap) (mid : Heap → (Heap → Prop) → Prop) (R : AExit → Heap → Prop) : Prop := J.ci .i64 l fun y0 l => J.nil l (s47b1 x0 x1 y0 h mid R)

def s47 (Ψ : AVal → Heap → Prop) (b : AVal) (h : Heap) : Prop :=
 aggN 16 b fun cs =>
 Sym.newRow 1 [.nilsl] h fun r h_ =>
 ldN 16 h_ (.lptr cs) fun l_ =>
 callG prog 84 [(.agg l_)] h_ fun v h_1 =>
 rngG prog v [.int .i64] h_1 (s47b1_B (.ptr r 0 0) v) (fun h =>
 ld1 h (.ptr r 0 0) fun v3 =>
 retG v3 h Ψ) []

def s47_A (Ψ : AVal → Heap → Prop) : Ann :=
 .seq (.reg [⟨none, [(0, true), (1, false)]⟩])
 (.seq (rA 1)
 (.seq (.seq (rA 2)
 (.block (.rng [(3, .any), (6, .any)] [(7, .int .i64)] [] (fun l a h mid R => J.cons l fun x0 l => J.cons l fun x1 l => J.nil l (s47b1_B x0 x1 a h mid R)) (rA 1) (fun R =>
 .block (.reg [⟨none, [(0, false), (1, false), (2, true), (3, false), (4, false)]⟩])))))
 (.seq (rA 2)
 (.leaf))))

theorem s47_ok {Ψ : AVal → Heap → Prop} {b : AVal} {h : Heap} (H : s47 Ψ b h) : ACalls prog 47 [b] h Ψ :=
 calls_of_evF func47 (by kernel_rfl) (by kernel_rfl) (by kernel_rfl)
 (Eq.mpr (by as_aux_lemma => kernel_rfl : oblF prog f47 (s47_A Ψ) Ψ = ((True) ∧ ((True) ∧ (((True) ∧ (∀ (mid : Heap → (Heap → Prop) → Prop) (R : AExit → Heap → Prop), (∀ (h : Heap) (y0 : Int) (x0 : AVal) (x1 : AVal), OI (s47b1 x0 x1 y0 h mid R)) ∧ (otP 1))) ∧ (otP 1))))) (⟨trivial, ⟨trivial, ⟨⟨trivial, fun _ _ => ⟨fun _ _ _ _ H => H, otP_ok 1⟩⟩, otP_ok 1⟩⟩⟩))
 (Eq.mpr (by as_aux_lemma => kernel_rfl : evF prog f47 (s47_A Ψ) Ψ [b] h = s47 Ψ b h) H)

/- 49 dictum/force.Holds$1 -/
def s49 (Ψ : AVal → Heap → Prop) (id_ : Int) (c0 : AVal) (c1 : AVal) (h : Heap) : Prop :=
 ld1 h c0 fun v =>
 ld1 h c1 fun v1 =>
 tInt .i64 v1 fun v2 =>
 callG prog 50 [v, (.int .i64 v2), (.int .i64 id_)] h fun v3 h_ =>
 tBool v3 fun v4 =>
 retG (.bool (!v4)) h_ Ψ

def s49_A (Ψ : AVal → Heap → Prop) : Ann :=
 .seq (rA 1)
 (.seq (rA 6)
 (.leaf))

theorem s49_ok {Ψ : AVal → Heap → Prop} {id_ : Int} {c0 : AVal} {c1 : AVal} {h : Heap} (H : s49 Ψ id_ c0 c1 h) : ACalls prog 49 [(.int .i64 id_), c0, c1] h Ψ :=
 calls_of_evF func49 (by kernel_rfl) (by kernel_rfl) (by kernel_rfl)
 (Eq.mpr (by as_aux_lemma => kernel_rfl : oblF prog f49 (s49_A Ψ) Ψ = (otP 5)) (otP_ok 5))
 (Eq.mpr (by as_aux_lemma => kernel_rfl : evF prog f49 (s49_A Ψ) Ψ [(.int .i64 id_), c0, c1] h = s49 Ψ id_ c0 c1 h) H)

/- 55 dictum/dictumlaw18.rows -/
def s55 (Ψ : AVal → Heap → Prop) (h : Heap) : Prop :=
 retG (.lsl 4 [(.agg [(.int .i64 1), (.str (ByteArray.mk #[112])), (.int .i64 0), (.int .i64 0)]), (.agg [(.int .i64 2), (.str (ByteArray.mk #[])), (.int .i64 0), (.int .i64 0)]), (.agg [(.int .i64 5), (.str (ByteArray.mk #[])), (.int .i64 0), (.int .i64 1)]), (.agg [(.int .i64 4), (.str (ByteArray.mk #[])), (.int .i64 0), (.int .i64 2)]), (.agg [(.int .i64 5), (.str (ByteArray.mk #[])), (.int .i64 2), (.int .i64 1)])]) h Ψ

def s55_A (Ψ : AVal → Heap → Prop) : Ann :=
 .seq (rA 1)
 (.seq (.reg [⟨none, [(0, false), (1, false), (2, false), (3, false), (4, false), (5, true), (6, false)]⟩])
 (.leaf))

theorem s55_ok {Ψ : AVal → Heap → Prop} {h : Heap} (H : s55 Ψ  h) : ACalls prog 55 [] h Ψ :=
 calls_of_evF func55 (by kernel_rfl) (by kernel_rfl) (by kernel_rfl)
 (Eq.mpr (by as_aux_lemma => kernel_rfl : oblF prog f55 (s55_A Ψ) Ψ = (otP 5)) (otP_ok 5))
 (Eq.mpr (by as_aux_lemma => kernel_rfl : evF prog f55 (s55_A Ψ) Ψ [] h = s55 Ψ  h) H)

/- 60 dictum/force.upsets -/
def s60 (Ψ : AVal → Heap → Prop) (above : AVal) (h : Heap) : Prop :=
 chk (sc above) (
 retG (.func (.func 96) [] [(.lptr [above])]) h Ψ)

def s60_A (Ψ : AVal → Heap → Prop) : Ann :=
 .seq (.reg [⟨none, [(0, true), (1, false)]⟩])
 (.seq (rA 2)
 (.leaf))

theorem s60_ok {Ψ : AVal → Heap → Prop} {above : AVal} {h : Heap} (H : s60 Ψ above h) : ACalls prog 60 [above] h Ψ :=
 calls_of_evF func60 (by kernel_rfl) (by kernel_rfl) (by kernel_rfl)
 (Eq.mpr (by as_aux_lemma => kernel_rfl : oblF prog f60 (s60_A Ψ) Ψ = (otP 5)) (otP_ok 5))
 (Eq.mpr (by as_aux_lemma => kernel_rfl : evF prog f60 (s60_A Ψ) Ψ [above] h = s60 Ψ above h) H)

/- 62 dictum/force.valued -/
abbrev s62l1_T := AVal → AVal → AVal → AVal → AVal → Int → Int → Heap → Prop
abbrev s62l1_K : List Kd := [.any, .any, .any, .any, .any, .int .i64, .int .i64]
def s62l1_G (F : s62l1_T) : s62l1_T := GK s62l1_K F
def s62l1_E (F : Nat → s62l1_T) : s62l1_T := EK s62l1_K F
theorem s62l1_in {F : Nat → s62l1_T} {x0 x1 x2 x3 x4 : AVal} {x5 x6 : Int} {h : Heap} (n : Nat) (H : F n x0 x1 x2 x3 x4 x5 x6 h) : s62l1_E F x0 x1 x2 x3 x4 x5 x6 h := gJ_plain rfl ⟨n, H⟩

abbrev s62l2_T := AVal → AVal → AVal → AVal → Int → AVal → Int → Int → AVal → Int → Int → Heap → Prop
abbrev s62l2_K : List Kd := [.any, .any, .any, .any, .int .i64, .any, .int .i64, .int .i64, .any, .int .i64, .int .i64]
def s62l2_G (F : s62l2_T) : s62l2_T := GK s62l2_K F
def s62l2_E (F : Nat → s62l2_T) : s62l2_T := EK s62l2_K F
theorem s62l2_go {F : s62l2_T} {x0 x1 x2 x3 : AVal} {x4 : Int} {x5 : AVal} {x6 x7 : Int} {x8 : AVal} {x9 x10 : Int} {h : Heap} (H : F x0 x1 x2 x3 x4 x5 x6 x7 x8 x9 x10 h) : s62l2_G F x0 x1 x2 x3 x4 x5 x6 x7 x8 x9 x10 h := gJ_plain rfl H
theorem s62l2_in {F : Nat → s62l2_T} {x0 x1 x2 x3 : AVal} {x4 : Int} {x5 : AVal} {x6 x7 : Int} {x8 : AVal} {x9 x10 : Int} {h : Heap} (n : Nat) (H : F n x0 x1 x2 x3 x4 x5 x6 x7 x8 x9 x10 h) : s62l2_E F x0 x1 x2 x3 x4 x5 x6 x7 x8 x9 x10 h := gJ_plain rfl ⟨n, H⟩

abbrev s62c3_K : List Kd := [.any, .any, .any, .any, .int .i64, .any, .int .i64, .int .i64, .any, .int .i64, .int .i64]
def s62c3 (Ψ : AVal → Heap → Prop) (L1 : s62l1_T) (L2 : s62l2_T) (atoms3 on3 t6_2 out2 : AVal) (w1 : Int) (t18_2 : AVal) (t19_2 t20_2 : Int) (t32_1 : AVal) (t33_1 t34_1 : Int) (h : Heap) : Prop :=
 rg (t34_1 + 1) (
 L2 atoms3 on3 t6_2 out2 w1 t18_2 t19_2 t20_2 t32_1 t33_1 (t34_1 + 1) h)

def s62l2 (Ψ : AVal → Heap → Prop) (L1 : s62l1_T) : Nat → s62l2_T
 | 0, _, _, _, _, _, _, _, _, _, _, _, _ => False
 | n4 + 1, atoms2, on2, t6_1, out1, w, t18_1, t19_1, t20_1, t32, t33, t34, h =>
 ifT (decide (t34 < t33)) (
 ixS 1 t32 t34 fun p3 =>
 ld1 h p3 fun v7 =>
 tStr v7 fun v8 =>
 ixS 1 on2 t34 fun p4 =>
 ld1 h p4 fun v9 =>
 tInt .u64 v9 fun v10 =>
 (0 : Int) ≤ w ∧
 ifT ((bitsI .and .u64 (Int.fdiv v10 (2 ^ (min (Int.toNat w) (IntKind.u64.bits)))) 1) == 1) (
 addOff out1 1 fun p5 =>
 ld1 h p5 fun v11 =>
 addOff out1 1 fun p6 =>
 ld1 h p6 fun v12 =>
 ixS 1 v12 w fun p7 =>
 ld1 h p7 fun v13 =>
 (ld1 h p7 fun v14 =>
 v14 = v13) ∧
 (ld1 h p6 fun v15 =>
 v15 = v12) ∧
 (ld1 h p5 fun v16 =>
 v16 = v11) ∧
 appC 1 16 h v13 (.lsl 1 [(.str v8)]) fun v17 h_7 =>
 (ld1 h_7 p5 fun v18 =>
 v18 = v11) ∧
 ixS 1 v11 w fun p8 =>
 chk (sc v17) (
 st true h_7 p8 [v17] fun h_8 =>
 s62c3 Ψ L1 (s62l2_G (s62l2 Ψ L1 n4)) atoms2 on2 t6_1 out1 w t18_1 t19_1 t20_1 t32 t33 t34 h_8)) (
 s62c3 Ψ L1 (s62l2_G (s62l2 Ψ L1 n4)) atoms2 on2 t6_1 out1 w t18_1 t19_1 t20_1 t32 t33 t34 h)) (
 rg (t20_1 + 1) (
 L1 atoms2 on2 t6_1 out1 t18_1 t19_1 (t20_1 + 1) h))

def s62l1 (Ψ : AVal → Heap → Prop) : Nat → s62l1_T
 | 0, _, _, _, _, _, _, _, _ => False
 | n2 + 1, atoms1, on1, t6, out, t18, t19, t20, h =>
 ifT (decide (t20 < t19)) (
 ixS 1 t18 t20 fun p =>
 ld1 h p fun v1 =>
 addOff out 0 fun p1 =>
 ld1 h p1 fun v2 =>
 callG prog 97 [v1] h fun v3 h_4 =>
 (ld1 h_4 p1 fun v4 =>
 v4 = v2) ∧
 chk (sc v3) (
 (ld1 h_4 p1 fun v5 =>
 v5 = v2) ∧
 appC 1 24 h_4 v2 (.lsl 1 [v3]) fun v6 h_5 =>
 addOff out 0 fun p2 =>
 chk (sc v6) (
 st true h_5 p2 [v6] fun h_6 =>
 lenN atoms1 fun n3 =>
 s62l2_E (s62l2 Ψ (s62l1_G (s62l1 Ψ n2))) atoms1 on1 t6 out t20 t18 t19 t20 atoms1 n3 0 h_6))) (
 ldN 2 h out fun l_ =>
 tCons l_ fun v19 l_1 =>
 tCons l_1 fun v20 l_2 =>
 tNil l_2 (
 st false h t6 [v19, v20] fun h_9 =>
 ldN 2 h_9 t6 fun l_3 =>
 tCons l_3 fun v21 l_4 =>
 tCons l_4 fun v22 l_5 =>
 tNil l_5 (
 retG (.agg [v21, v22]) h_9 Ψ)))

def s62 (Ψ : AVal → Heap → Prop) (m_Up : AVal) (m_Val : AVal) (atoms : AVal) (on : AVal) (h : Heap) : Prop :=
 Sym.newRow 2 [(.agg [.nilsl, .nilsl])] h fun r h_ =>
 lenN m_Up fun n =>
 mkS false 1 24 .nilsl h_ n n fun v h_1 =>
 chk (sc v) (
 Sym.newRow 2 [(.agg [.nilsl, .nilsl])] h_1 fun r1 h_2 =>
 st false h_2 (.ptr r1 0 0) [.nilsl, v] fun h_3 =>
 lenN m_Up fun n1 =>
 s62l1_E (s62l1 Ψ) atoms on (.ptr r 0 0) (.ptr r1 0 0) m_Up n1 0 h_3)

def s62_A (Ψ : AVal → Heap → Prop) : Ann :=
 .seq (.reg [⟨none, [(0, true), (1, false)]⟩])
 (.seq (rA 7)
 (.seq (.seq (rA 4)
 (.block (loopK [1, 2, 6, 7, 18, 19, 20] s62l1_K (s62l1 Ψ) (fun L1 =>
 .seq (rA 1)
 (.seq (.cond (.leaf)
 (.leaf))
 (.seq (.block (.seq (rA 5)
 (.seq (.draw [(0, false), (1, false), (2, false), (3, false), (4, true), (5, false), (6, false), (7, false)] [0, 1, 0, 4, 12, 31, 63, 127])
 (.seq (rA 3)
 (.block (loopK [1, 2, 6, 7, 8, 18, 19, 20, 32, 33, 34] s62l2_K (s62l2 Ψ (LK s62l1_K L1)) (fun L2 =>
 .seq (rA 1)
 (.seq (.cond (.leaf)
 (.leaf))
 (cutK [1, 2, 6, 7, 8, 18, 19, 20, 32, 33, 34] s62c3_K (s62c3 Ψ (LK s62l1_K L1) (LK s62l2_K L2)) (.block (.seq (rA 5)
 (.seq (rA 8)
 (.cond (.draw [(0, false), (1, false), (2, false), (3, false), (4, false), (5, false), (6, false), (7, false), (8, false), (9, true), (10, false), (11, false), (12, false)] [0, 1, 0, 0, 8, 0, 56, 120, 0, 256, 1016, 2047, 4095])
 (.leaf)))))
 (rA 2))))))))))
 (rA 2)))))))
 (.seq (rA 2)
 (.leaf))))

theorem s62_ok {Ψ : AVal → Heap → Prop} {m_Up : AVal} {m_Val : AVal} {atoms : AVal} {on : AVal} {h : Heap} (H : s62 Ψ m_Up m_Val atoms on h) : ACalls prog 62 [(.agg [m_Up, m_Val]), atoms, on] h Ψ :=
 calls_of_evF func62 (by kernel_rfl) (by kernel_rfl) (by kernel_rfl)
 (Eq.mpr (by as_aux_lemma => kernel_rfl : oblF prog f62 (s62_A Ψ) Ψ = ((True) ∧ ((True) ∧ (((True) ∧ ((NK s62l1_K (s62l1 Ψ 0)) ∧ (∀ n1 : Nat, (QK s62l1_K (s62l1 Ψ (n1 + 1))) ∧ ((True) ∧ ((otP 1) ∧ (((True) ∧ ((True) ∧ ((True) ∧ ((NK s62l2_K (s62l2 Ψ (s62l1_G (s62l1 Ψ n1)) 0)) ∧ (∀ n2 : Nat, (QK s62l2_K (s62l2 Ψ (s62l1_G (s62l1 Ψ n1)) (n2 + 1))) ∧ ((True) ∧ ((otP 1) ∧ ((otP 21) ∧ ((QK s62c3_K (s62c3 Ψ (s62l1_G (s62l1 Ψ n1)) (s62l2_G (s62l2 Ψ (s62l1_G (s62l1 Ψ n1)) n2)))) ∧ (True)))))))))) ∧ (True))))))) ∧ (otP 1))))) (⟨trivial, ⟨trivial, ⟨⟨trivial, ⟨fun _ _ _ _ _ _ _ _ H => H, fun _ => ⟨oI, ⟨trivial, ⟨otP_ok 1, ⟨⟨trivial, ⟨trivial, ⟨trivial, ⟨fun _ _ _ _ _ _ _ _ _ _ _ _ H => H, fun _ => ⟨oI, ⟨trivial, ⟨otP_ok 1, ⟨otP_ok 21, ⟨oI, trivial⟩⟩⟩⟩⟩⟩⟩⟩⟩, trivial⟩⟩⟩⟩⟩⟩, otP_ok 1⟩⟩⟩))
 (Eq.mpr (by as_aux_lemma => kernel_rfl : evF prog f62 (s62_A Ψ) Ψ [(.agg [m_Up, m_Val]), atoms, on] h = s62 Ψ m_Up m_Val atoms on h) H)

/- 64 (*dictum/formula.Table).Put -/
def s64 (Ψ : AVal → Heap → Prop) (t : AVal) (n_Kind : Int) (n_Name : ByteArray) (n_L : Int) (n_R : Int) (h : Heap) : Prop :=
 callG prog 98 [t] h fun v h_ =>
 tBool v fun v1 =>
 ifT (!v1) (
 retG (.tuple [(.int .i64 0), (.int .i64 1)]) h_ Ψ) (
 callG prog 99 [t, (.agg [(.int .i64 n_Kind), (.str n_Name), (.int .i64 n_L), (.int .i64 n_R)])] h_ fun v2 h_1 =>
 tInt .i64 v2 fun v3 =>
 ifT (v3 != 0) (
 retG (.tuple [(.int .i64 0), (.int .i64 v3)]) h_1 Ψ) (
 nilCheckA t fun p =>
 addOff p 1 fun p1 =>
 ld1 h_1 p1 fun v4 =>
 mapGet (.int .i64 0) h_1 v4 (.agg [(.int .i64 n_Kind), (.str n_Name), (.int .i64 n_L), (.int .i64 n_R)]) fun v5 b =>
 tInt .i64 v5 fun v6 =>
 ifT b (
 retG (.tuple [(.int .i64 v6), (.int .i64 0)]) h_1 Ψ) (
 nilCheckA t fun p2 =>
 addOff p2 0 fun p3 =>
 ld1 h_1 p3 fun v7 =>
 lenN v7 fun n =>
 ifT (decide (1024 ≤ n)) (
 retG (.tuple [(.int .i64 0), (.int .i64 30)]) h_1 Ψ) (
 nilCheckA t fun p4 =>
 addOff p4 0 fun p5 =>
 ld1 h_1 p5 fun v8 =>
 (ld1 h_1 p5 fun v9 =>
 v9 = v8) ∧
 appC 4 40 h_1 v8 (.lsl 4 [(.agg [(.int .i64 n_Kind), (.str n_Name), (.int .i64 n_L), (.int .i64 n_R)])]) fun v10 h_2 =>
 nilCheckA t fun p6 =>
 addOff p6 0 fun p7 =>
 chk (sc v10) (
 st true h_2 p7 [v10] fun h_3 =>
 nilCheckA t fun p8 =>
 addOff p8 1 fun p9 =>
 ld1 h_3 p9 fun v11 =>
 mapPut h_3 v11 (.agg [(.int .i64 n_Kind), (.str n_Name), (.int .i64 n_L), (.int .i64 n_R)]) (.int .i64 n) fun h_4 =>
 retG (.tuple [(.int .i64 n), (.int .i64 0)]) h_4 Ψ)))))

def s64_A (Ψ : AVal → Heap → Prop) : Ann :=
 .seq (.reg [⟨none, [(0, true), (1, false), (2, false)]⟩])
 (.seq (.seq (rA 3)
 (.cond (.seq (rA 2)
 (.leaf))
 (.leaf)))
 (.seq (.seq (rA 4)
 (.seq (rA 2)
 (.cond (.seq (rA 3)
 (.leaf))
 (.leaf))))
 (.seq (.seq (.draw [(0, false), (1, false), (2, false), (3, false), (4, false), (5, false), (6, false), (7, false), (8, false), (9, false), (10, false)] [0, 1, 3, 7, 0, 31, 63, 127, 127, 255, 1023])
 (.seq (rA 1)
 (.cond (.seq (rA 3)
 (.leaf))
 (.leaf))))
 (.seq (rA 6)
 (.seq (.seq (rA 2)
 (.cond (.seq (rA 2)
 (.leaf))
 (.leaf)))
 (.seq (.draw [(0, false), (1, false), (2, false), (3, false), (4, false), (5, false), (6, true), (7, false), (8, false), (9, false), (10, false)] [0, 0, 2, 6, 14, 0, 32, 126, 255, 511, 1023])
 (.seq (.draw [(0, false), (1, false), (2, false), (3, false), (4, false), (5, false), (6, false)] [0, 1, 3, 7, 0, 0, 63])
 (.seq (rA 3)
 (.leaf)))))))))

theorem s64_ok {Ψ : AVal → Heap → Prop} {t : AVal} {n_Kind : Int} {n_Name : ByteArray} {n_L : Int} {n_R : Int} {h : Heap} (H : s64 Ψ t n_Kind n_Name n_L n_R h) : ACalls prog 64 [t, (.agg [(.int .i64 n_Kind), (.str n_Name), (.int .i64 n_L), (.int .i64 n_R)])] h Ψ :=
 calls_of_evF func64 (by kernel_rfl) (by kernel_rfl) (by kernel_rfl)
 (Eq.mpr (by as_aux_lemma => kernel_rfl : oblF prog f64 (s64_A Ψ) Ψ = (otP 23206894349421)) (otP_ok 23206894349421))
 (Eq.mpr (by as_aux_lemma => kernel_rfl : evF prog f64 (s64_A Ψ) Ψ [t, (.agg [(.int .i64 n_Kind), (.str n_Name), (.int .i64 n_L), (.int .i64 n_R)])] h = s64 Ψ t n_Kind n_Name n_L n_R h) H)

/- 66 dictum/force.has -/
def s66 (Ψ : AVal → Heap → Prop) (t : AVal) (id_ : Int) (h : Heap) : Prop :=
 callG prog 86 [t, (.int .i64 id_)] h fun v h_ =>
 tTup v fun l_ =>
 tCons l_ fun v1 l_1 =>
 tCons l_1 fun v2 l_2 =>
 tBool v2 fun v3 =>
 tNil l_2 (
 tAgg v1 fun l_3 =>
 tCons l_3 fun v4 l_4 =>
 tInt .i64 v4 fun v5 =>
 tCons l_4 fun v6 l_5 =>
 tStr v6 fun v7 =>
 tCons l_5 fun v8 l_6 =>
 tInt .i64 v8 fun v9 =>
 tCons l_6 fun v10 l_7 =>
 tInt .i64 v10 fun v11 =>
 tNil l_7 (
 Sym.newRow 4 [(.agg [(.int .i64 0), (.str (ByteArray.mk #[])), (.int .i64 0), (.int .i64 0)])] h_ fun r h_1 =>
 st false h_1 (.ptr r 0 0) [(.int .i64 v5), (.str v7), (.int .i64 v9), (.int .i64 v11)] fun h_2 =>
 retG (.bool v3) h_2 Ψ))

def s66_A (Ψ : AVal → Heap → Prop) : Ann :=
 .seq (rA 1)
 (.seq (rA 9)
 (.seq (rA 2)
 (.leaf)))

theorem s66_ok {Ψ : AVal → Heap → Prop} {t : AVal} {id_ : Int} {h : Heap} (H : s66 Ψ t id_ h) : ACalls prog 66 [t, (.int .i64 id_)] h Ψ :=
 calls_of_evF func66 (by kernel_rfl) (by kernel_rfl) (by kernel_rfl)
 (Eq.mpr (by as_aux_lemma => kernel_rfl : oblF prog f66 (s66_A Ψ) Ψ = (otP 21)) (otP_ok 21))
 (Eq.mpr (by as_aux_lemma => kernel_rfl : evF prog f66 (s66_A Ψ) Ψ [t, (.int .i64 id_)] h = s66 Ψ t id_ h) H)

/- 68 dictum/bits.Of -/
abbrev s68l1_T := AVal → AVal → AVal → Int → Int → Heap → Prop
abbrev s68l1_K : List Kd := [.any, .any, .any, .int .i64, .int .i64]
def s68l1_G (F : s68l1_T) : s68l1_T := GK s68l1_K F
def s68l1_E (F : Nat → s68l1_T) : s68l1_T := EK s68l1_K F
theorem s68l1_go {F : s68l1_T} {x0 x1 x2 : AVal} {x3 x4 : Int} {h : Heap} (H : F x0 x1 x2 x3 x4 h) : s68l1_G F x0 x1 x2 x3 x4 h := gJ_plain rfl H
theorem s68l1_in {F : Nat → s68l1_T} {x0 x1 x2 : AVal} {x3 x4 : Int} {h : Heap} (n : Nat) (H : F n x0 x1 x2 x3 x4 h) : s68l1_E F x0 x1 x2 x3 x4 h := gJ_plain rfl ⟨n, H⟩

def s68l1 (Ψ : AVal → Heap → Prop) : Nat → s68l1_T
 | 0, _, _, _, _, _, _ => False
 | n1 + 1, t2, b, t7, t8, t9, h =>
 ifT (decide (t9 < t8)) (
 ixS 1 t7 t9 fun p =>
 ld1 h p fun v =>
 tInt .i64 v fun v1 =>
 callG prog 100 [(.int .i64 v1)] h fun v2 h_2 =>
 tBool v2 fun v3 =>
 ifT (!v3) (
 st false h_2 t2 [(.int .u64 0), (.int .u64 0), (.int .u64 0), (.int .u64 0), (.int .u64 0), (.int .u64 0), (.int .u64 0), (.int .u64 0), (.int .u64 0), (.int .u64 0), (.int .u64 0), (.int .u64 0), (.int .u64 0), (.int .u64 0), (.int .u64 0), (.int .u64 0)] fun h_3 =>
 ldN 16 h_3 t2 fun l_1 =>
 retG (.tuple [(.agg l_1), (.int .i64 50)]) h_3 Ψ) (
 64 ≠ (0 : Int) ∧
 rg (Int.tdiv v1 64) (
 ixP 16 1 b (Int.tdiv v1 64) fun p1 =>
 ld1 h_2 p1 fun v4 =>
 tInt .u64 v4 fun v5 =>
 64 ≠ (0 : Int) ∧
 (0 : Int) ≤ (Int.tmod v1 64) ∧
 ixP 16 1 b (Int.tdiv v1 64) fun p2 =>
 st true h_2 p2 [(.int .u64 (bitsI .or .u64 v5 (IntKind.u64.wrap (1 * 2 ^ (min (Int.toNat (Int.tmod v1 64)) (IntKind.u64.bits))))))] fun h_4 =>
 rg (t9 + 1) (
 s68l1_G (s68l1 Ψ n1) t2 b t7 t8 (t9 + 1) h_4)))) (
 ldN 16 h b fun l_2 =>
 aggN 16 (.agg l_2) fun cs =>
 st false h t2 cs fun h_5 =>
 ldN 16 h_5 t2 fun l_3 =>
 retG (.tuple [(.agg l_3), (.int .i64 0)]) h_5 Ψ)

def s68 (Ψ : AVal → Heap → Prop) (l_ : AVal) (h : Heap) : Prop :=
 Sym.newRow 16 [(.agg [(.int .u64 0), (.int .u64 0), (.int .u64 0), (.int .u64 0), (.int .u64 0), (.int .u64 0), (.int .u64 0), (.int .u64 0), (.int .u64 0), (.int .u64 0), (.int .u64 0), (.int .u64 0), (.int .u64 0), (.int .u64 0), (.int .u64 0), (.int .u64 0)])] h fun r h_ =>
 Sym.newRow 16 [(.agg [(.int .u64 0), (.int .u64 0), (.int .u64 0), (.int .u64 0), (.int .u64 0), (.int .u64 0), (.int .u64 0), (.int .u64 0), (.int .u64 0), (.int .u64 0), (.int .u64 0), (.int .u64 0), (.int .u64 0), (.int .u64 0), (.int .u64 0), (.int .u64 0)])] h_ fun r1 h_1 =>
 lenN l_ fun n =>
 s68l1_E (s68l1 Ψ) (.ptr r 0 0) (.ptr r1 0 0) l_ n 0 h_1

def s68_A (Ψ : AVal → Heap → Prop) : Ann :=
 .seq (rA 2)
 (.seq (rA 1)
 (.seq (.seq (rA 3)
 (.block (loopK [2, 4, 7, 8, 9] s68l1_K (s68l1 Ψ) (fun L1 =>
 .seq (rA 1)
 (.seq (.cond (.leaf)
 (.leaf))
 (.seq (.block (.seq (rA 3)
 (.seq (.seq (rA 3)
 (.cond (.seq (rA 3)
 (.leaf))
 (.leaf)))
 (.draw [(0, false), (1, false), (2, false), (3, false), (4, false), (5, false), (6, false), (7, false), (8, false), (9, false)] [0, 1, 3, 7, 0, 16, 48, 127, 255, 511]))))
 (rA 2)))))))
 (.seq (rA 3)
 (.leaf))))

theorem s68_ok {Ψ : AVal → Heap → Prop} {l_ : AVal} {h : Heap} (H : s68 Ψ l_ h) : ACalls prog 68 [l_] h Ψ :=
 calls_of_evF func68 (by kernel_rfl) (by kernel_rfl) (by kernel_rfl)
 (Eq.mpr (by as_aux_lemma => kernel_rfl : oblF prog f68 (s68_A Ψ) Ψ = ((True) ∧ ((True) ∧ (((True) ∧ ((NK s68l1_K (s68l1 Ψ 0)) ∧ (∀ n1 : Nat, (QK s68l1_K (s68l1 Ψ (n1 + 1))) ∧ (otP 14029)))) ∧ (otP 1))))) (⟨trivial, ⟨trivial, ⟨⟨trivial, ⟨fun _ _ _ _ _ _ H => H, fun _ => ⟨oI, otP_ok 14029⟩⟩⟩, otP_ok 1⟩⟩⟩))
 (Eq.mpr (by as_aux_lemma => kernel_rfl : evF prog f68 (s68_A Ψ) Ψ [l_] h = s68 Ψ l_ h) H)

/- 70 dictum/worlds.asked -/
abbrev s70l1_T := AVal → AVal → AVal → Int → Int → Heap → Prop
abbrev s70l1_K : List Kd := [.any, .any, .any, .int .i64, .int .i64]
def s70l1_G (F : s70l1_T) : s70l1_T := GK s70l1_K F
def s70l1_E (F : Nat → s70l1_T) : s70l1_T := EK s70l1_K F
theorem s70l1_go {F : s70l1_T} {x0 x1 x2 : AVal} {x3 x4 : Int} {h : Heap} (H : F x0 x1 x2 x3 x4 h) : s70l1_G F x0 x1 x2 x3 x4 h := gJ_plain rfl H
theorem s70l1_in {F : Nat → s70l1_T} {x0 x1 x2 : AVal} {x3 x4 : Int} {h : Heap} (n : Nat) (H : F n x0 x1 x2 x3 x4 h) : s70l1_E F x0 x1 x2 x3 x4 h := gJ_plain rfl ⟨n, H⟩

abbrev s70c2_K : List Kd := [.any, .any, .any, .int .i64, .int .i64, .bool]
def s70c2 (Ψ : AVal → Heap → Prop) (L1 : s70l1_T) (m1 leq1 t17_1 : AVal) (t18_1 t19_1 : Int) (t31 : Bool) (h : Heap) : Prop :=
 ifT t31 (
 retG (.tuple [.nilfunc, (.int .i64 2)]) h Ψ) (
 rg (t19_1 + 1) (
 L1 m1 leq1 t17_1 t18_1 (t19_1 + 1) h))

def s70l1 (Ψ : AVal → Heap → Prop) : Nat → s70l1_T
 | 0, _, _, _, _, _, _ => False
 | n1 + 1, m, leq, t17, t18, t19, h =>
 ifT (decide (t19 < t18)) (
 ixS 1 t17 t19 fun p =>
 ld1 h p fun v4 =>
 tInt .i64 v4 fun v5 =>
 ifT (decide (v5 < 0)) (
 s70c2 Ψ (s70l1_G (s70l1 Ψ n1)) m leq t17 t18 t19 true h) (
 addOff m 0 fun p1 =>
 ld1 h p1 fun v6 =>
 lenN v6 fun n2 =>
 s70c2 Ψ (s70l1_G (s70l1 Ψ n1)) m leq t17 t18 t19 (decide (n2 ≤ v5)) h)) (
 retG (.tuple [leq, (.int .i64 0)]) h Ψ)

def s70 (Ψ : AVal → Heap → Prop) (m_Up : AVal) (m_Val : AVal) (worlds : AVal) (h : Heap) : Prop :=
 callG prog 103 [(.agg [m_Up, m_Val])] h fun v h_ =>
 tTup v fun l_ =>
 tCons l_ fun v1 l_1 =>
 tCons l_1 fun v2 l_2 =>
 tBool v2 fun v3 =>
 tNil l_2 (
 ifT (!v3) (
 retG (.tuple [.nilfunc, (.int .i64 170)]) h_ Ψ) (
 lenN worlds fun n =>
 s70l1_E (s70l1 Ψ) (.lptr [m_Up, m_Val]) v1 worlds n 0 h_))

def s70_A (Ψ : AVal → Heap → Prop) : Ann :=
 .seq (.reg [⟨none, [(0, true), (1, false), (2, false)]⟩])
 (.seq (rA 7)
 (.seq (.seq (rA 2)
 (.cond (.seq (rA 2)
 (.leaf))
 (.leaf)))
 (.seq (.seq (rA 3)
 (.block (loopK [2, 6, 17, 18, 19] s70l1_K (s70l1 Ψ) (fun L1 =>
 .seq (rA 1)
 (.seq (.cond (.leaf)
 (.leaf))
 (.seq (.block (.seq (rA 3)
 (cutK [2, 6, 17, 18, 19, 31] s70c2_K (s70c2 Ψ (LK s70l1_K L1)) (.reg [⟨none, [(0, false), (1, false), (2, false)]⟩, ⟨some (25, false), [(3, false), (4, false), (5, false), (6, false), (7, false)]⟩, ⟨none, [(8, false)]⟩])
 (.cond (.seq (rA 2)
 (.leaf))
 (.leaf)))))
 (rA 2)))))))
 (.seq (rA 3)
 (.leaf)))))

theorem s70_ok {Ψ : AVal → Heap → Prop} {m_Up : AVal} {m_Val : AVal} {worlds : AVal} {h : Heap} (H : s70 Ψ m_Up m_Val worlds h) : ACalls prog 70 [(.agg [m_Up, m_Val]), worlds] h Ψ :=
 calls_of_evF func70 (by kernel_rfl) (by kernel_rfl) (by kernel_rfl)
 (Eq.mpr (by as_aux_lemma => kernel_rfl : oblF prog f70 (s70_A Ψ) Ψ = ((True) ∧ ((True) ∧ ((otP 13) ∧ (((True) ∧ ((NK s70l1_K (s70l1 Ψ 0)) ∧ (∀ n1 : Nat, (QK s70l1_K (s70l1 Ψ (n1 + 1))) ∧ ((True) ∧ ((otP 1) ∧ (((True) ∧ ((True) ∧ ((QK s70c2_K (s70c2 Ψ (s70l1_G (s70l1 Ψ n1)))) ∧ (otP 3)))) ∧ (True))))))) ∧ (otP 1)))))) (⟨trivial, ⟨trivial, ⟨otP_ok 13, ⟨⟨trivial, ⟨fun _ _ _ _ _ _ H => H, fun _ => ⟨oI, ⟨trivial, ⟨otP_ok 1, ⟨⟨trivial, ⟨trivial, ⟨oI, otP_ok 3⟩⟩⟩, trivial⟩⟩⟩⟩⟩⟩, otP_ok 1⟩⟩⟩⟩))
 (Eq.mpr (by as_aux_lemma => kernel_rfl : evF prog f70 (s70_A Ψ) Ψ [(.agg [m_Up, m_Val]), worlds] h = s70 Ψ m_Up m_Val worlds h) H)

/- 72 dictum/worlds.Above$1 -/
def s72 (Ψ : AVal → Heap → Prop) (b : Int) (c0 : AVal) (c1 : AVal) (h : Heap) : Prop :=
 ld1 h c0 fun v =>
 ld1 h c1 fun v1 =>
 tInt .i64 v1 fun v2 =>
 callV prog v [(.int .i64 v2), (.int .i64 b)] h fun v3 h_ =>
 tBool v3 fun v4 =>
 retG (.bool v4) h_ Ψ

def s72_A (Ψ : AVal → Heap → Prop) : Ann :=
 .seq (rA 1)
 (.seq (rA 5)
 (.leaf))

theorem s72_ok {Ψ : AVal → Heap → Prop} {b : Int} {c0 : AVal} {c1 : AVal} {h : Heap} (H : s72 Ψ b c0 c1 h) : ACalls prog 72 [(.int .i64 b), c0, c1] h Ψ :=
 calls_of_evF func72 (by kernel_rfl) (by kernel_rfl) (by kernel_rfl)
 (Eq.mpr (by as_aux_lemma => kernel_rfl : oblF prog f72 (s72_A Ψ) Ψ = (otP 5)) (otP_ok 5))
 (Eq.mpr (by as_aux_lemma => kernel_rfl : evF prog f72 (s72_A Ψ) Ψ [(.int .i64 b), c0, c1] h = s72 Ψ b c0 c1 h) H)

/- 80 dictum/dictumref03.From -/
abbrev s80l1_T := AVal → AVal → Int → Heap → Prop
abbrev s80l1_K : List Kd := [.any, .any, .int .i64]
def s80l1_G (F : s80l1_T) : s80l1_T := GK s80l1_K F
def s80l1_E (F : Nat → s80l1_T) : s80l1_T := EK s80l1_K F
theorem s80l1_go {F : s80l1_T} {x0 x1 : AVal} {x2 : Int} {h : Heap} (H : F x0 x1 x2 h) : s80l1_G F x0 x1 x2 h := gJ_plain rfl H
theorem s80l1_in {F : Nat → s80l1_T} {x0 x1 : AVal} {x2 : Int} {h : Heap} (n : Nat) (H : F n x0 x1 x2 h) : s80l1_E F x0 x1 x2 h := gJ_plain rfl ⟨n, H⟩

def s80l1 (Ψ : AVal → Heap → Prop) : Nat → s80l1_T
 | 0, _, _, _, _ => False
 | n + 1, rows1, t, i, h =>
 lenN rows1 fun n1 =>
 ifT (decide (i < n1)) (
 ixS 4 rows1 i fun p =>
 ldN 4 h p fun l_ =>
 tCons l_ fun v l_1 =>
 tInt .i64 v fun v1 =>
 tCons l_1 fun v2 l_2 =>
 tStr v2 fun v3 =>
 tCons l_2 fun v4 l_3 =>
 tInt .i64 v4 fun v5 =>
 tCons l_3 fun v6 l_4 =>
 tInt .i64 v6 fun v7 =>
 tNil l_4 (
 callG prog 117 [t, (.agg [(.int .i64 v1), (.str v3), (.int .i64 v5), (.int .i64 v7)])] h fun v8 h_1 =>
 tTup v8 fun l_5 =>
 tCons l_5 fun v9 l_6 =>
 tInt .i64 v9 fun v10 =>
 tCons l_6 fun v11 l_7 =>
 tInt .i64 v11 fun v12 =>
 tNil l_7 (
 ifT (v12 != 0) (
 retG (.tuple [.nilptr, (.int .i64 v12)]) h_1 Ψ) (
 ifT (v10 != i) (
 retG (.tuple [.nilptr, (.int .i64 31)]) h_1 Ψ) (
 rg (i + 1) (
 s80l1_G (s80l1 Ψ n) rows1 t (i + 1) h_1)))))) (
 retG (.tuple [t, (.int .i64 0)]) h Ψ)

def s80 (Ψ : AVal → Heap → Prop) (rows : AVal) (h : Heap) : Prop :=
 Sym.newRow 1 [(.agg [.nilsl])] h fun r h_ =>
 s80l1_E (s80l1 Ψ) rows (.ptr r 0 0) 0 h_

def s80_A (Ψ : AVal → Heap → Prop) : Ann :=
 .seq (rA 2)
 (.seq (rA 3)
 (.seq (.seq (rA 1)
 (.block (loopK [0, 4, 5] s80l1_K (s80l1 Ψ) (fun L1 =>
 .seq (.seq (rA 4)
 (.cond (.leaf)
 (.leaf)))
 (.seq (.block (.seq (rA 11)
 (.seq (.seq (rA 2)
 (.cond (.seq (rA 3)
 (.leaf))
 (.leaf)))
 (.seq (rA 3)
 (.cond (.seq (rA 2)
 (.leaf))
 (.leaf))))))
 (rA 3))))))
 (.seq (rA 3)
 (.leaf))))

theorem s80_ok {Ψ : AVal → Heap → Prop} {rows : AVal} {h : Heap} (H : s80 Ψ rows h) : ACalls prog 80 [rows] h Ψ :=
 calls_of_evF func80 (by kernel_rfl) (by kernel_rfl) (by kernel_rfl)
 (Eq.mpr (by as_aux_lemma => kernel_rfl : oblF prog f80 (s80_A Ψ) Ψ = ((True) ∧ ((True) ∧ (((True) ∧ ((NK s80l1_K (s80l1 Ψ 0)) ∧ (∀ n1 : Nat, (QK s80l1_K (s80l1 Ψ (n1 + 1))) ∧ (otP 1717963)))) ∧ (otP 1))))) (⟨trivial, ⟨trivial, ⟨⟨trivial, ⟨fun _ _ _ _ H => H, fun _ => ⟨oI, otP_ok 1717963⟩⟩⟩, otP_ok 1⟩⟩⟩))
 (Eq.mpr (by as_aux_lemma => kernel_rfl : evF prog f80 (s80_A Ψ) Ψ [rows] h = s80 Ψ rows h) H)

/- 82 dictum/force.order -/
abbrev s82l1_T := AVal → AVal → Int → Int → Heap → Prop
abbrev s82l1_K : List Kd := [.any, .any, .int .i64, .int .i64]
def s82l1_G (F : s82l1_T) : s82l1_T := GK s82l1_K F
def s82l1_E (F : Nat → s82l1_T) : s82l1_T := EK s82l1_K F
theorem s82l1_in {F : Nat → s82l1_T} {x0 x1 : AVal} {x2 x3 : Int} {h : Heap} (n : Nat) (H : F n x0 x1 x2 x3 h) : s82l1_E F x0 x1 x2 x3 h := gJ_plain rfl ⟨n, H⟩

abbrev s82l2_T := AVal → AVal → Int → AVal → AVal → Int → Int → Heap → Prop
abbrev s82l2_K : List Kd := [.any, .any, .int .i64, .any, .any, .int .i64, .int .i64]
def s82l2_G (F : s82l2_T) : s82l2_T := GK s82l2_K F
def s82l2_E (F : Nat → s82l2_T) : s82l2_T := EK s82l2_K F
theorem s82l2_go {F : s82l2_T} {x0 x1 : AVal} {x2 : Int} {x3 x4 : AVal} {x5 x6 : Int} {h : Heap} (H : F x0 x1 x2 x3 x4 x5 x6 h) : s82l2_G F x0 x1 x2 x3 x4 x5 x6 h := gJ_plain rfl H
theorem s82l2_in {F : Nat → s82l2_T} {x0 x1 : AVal} {x2 : Int} {x3 x4 : AVal} {x5 x6 : Int} {h : Heap} (n : Nat) (H : F n x0 x1 x2 x3 x4 x5 x6 h) : s82l2_E F x0 x1 x2 x3 x4 x5 x6 h := gJ_plain rfl ⟨n, H⟩

abbrev s82l3_T := AVal → AVal → Int → AVal → AVal → Int → Int → AVal → Int → Int → Heap → Prop
abbrev s82l3_K : List Kd := [.any, .any, .int .i64, .any, .any, .int .i64, .int .i64, .any, .int .i64, .int .i64]
def s82l3_G (F : s82l3_T) : s82l3_T := GK s82l3_K F
def s82l3_E (F : Nat → s82l3_T) : s82l3_T := EK s82l3_K F
theorem s82l3_go {F : s82l3_T} {x0 x1 : AVal} {x2 : Int} {x3 x4 : AVal} {x5 x6 : Int} {x7 : AVal} {x8 x9 : Int} {h : Heap} (H : F x0 x1 x2 x3 x4 x5 x6 x7 x8 x9 h) : s82l3_G F x0 x1 x2 x3 x4 x5 x6 x7 x8 x9 h := gJ_plain rfl H
theorem s82l3_in {F : Nat → s82l3_T} {x0 x1 : AVal} {x2 : Int} {x3 x4 : AVal} {x5 x6 : Int} {x7 : AVal} {x8 x9 : Int} {h : Heap} (n : Nat) (H : F n x0 x1 x2 x3 x4 x5 x6 x7 x8 x9 h) : s82l3_E F x0 x1 x2 x3 x4 x5 x6 x7 x8 x9 h := gJ_plain rfl ⟨n, H⟩

abbrev s82c4_K : List Kd := [.any, .any, .int .i64, .any, .any, .int .i64, .int .i64, .any, .int .i64, .int .i64]
def s82c4 (Ψ : AVal → Heap → Prop) (L1 : s82l1_T) (L2 : s82l2_T) (L3 : s82l3_T) (m3 out3 : AVal) (w2 : Int) (in_2 wait2 : AVal) (t16_3 t17_3 : Int) (t36_1 : AVal) (t37_1 t38_1 : Int) (h : Heap) : Prop :=
 rg (t38_1 + 1) (
 L3 m3 out3 w2 in_2 wait2 t16_3 t17_3 t36_1 t37_1 (t38_1 + 1) h)

def s82l3 (Ψ : AVal → Heap → Prop) (L1 : s82l1_T) (L2 : s82l2_T) : Nat → s82l3_T
 | 0, _, _, _, _, _, _, _, _, _, _, _ => False
 | n6 + 1, m2, out2, w1, in_1, wait1, t16_2, t17_2, t36, t37, t38, h =>
 ifT (decide (t38 < t37)) (
 ixS 1 t36 t38 fun p3 =>
 ld1 h p3 fun v5 =>
 tInt .i64 v5 fun v6 =>
 mapGet (.int .i64 0) h in_1 (.int .i64 v6) fun v7 b =>
 tInt .i64 v7 fun v8 =>
 ifT (v8 == 0) (
 mapGet (.int .i64 0) h in_1 (.int .i64 v6) fun v9 b1 =>
 tInt .i64 v9 fun v10 =>
 rg (v10 + 1) (
 mapPut h in_1 (.int .i64 v6) (.int .i64 (v10 + 1)) fun h_4 =>
 appC 1 8 h_4 wait1 (.lsl 1 [(.int .i64 v6)]) fun v11 h_5 =>
 s82c4 Ψ L1 L2 (s82l3_G (s82l3 Ψ L1 L2 n6)) m2 out2 w1 in_1 v11 t16_2 t17_2 t36 t37 t38 h_5)) (
 s82c4 Ψ L1 L2 (s82l3_G (s82l3 Ψ L1 L2 n6)) m2 out2 w1 in_1 wait1 t16_2 t17_2 t36 t37 t38 h)) (
 slX 1 wait1 1 none fun v12 =>
 L2 m2 out2 w1 in_1 v12 t16_2 t17_2 h)

abbrev s82l5_T := AVal → AVal → Int → AVal → Int → Int → Int → Int → Heap → Prop
abbrev s82l5_K : List Kd := [.any, .any, .int .i64, .any, .int .i64, .int .i64, .int .i64, .int .i64]
def s82l5_G (F : s82l5_T) : s82l5_T := GK s82l5_K F
def s82l5_E (F : Nat → s82l5_T) : s82l5_T := EK s82l5_K F
theorem s82l5_go {F : s82l5_T} {x0 x1 : AVal} {x2 : Int} {x3 : AVal} {x4 x5 x6 x7 : Int} {h : Heap} (H : F x0 x1 x2 x3 x4 x5 x6 x7 h) : s82l5_G F x0 x1 x2 x3 x4 x5 x6 x7 h := gJ_plain rfl H
theorem s82l5_in {F : Nat → s82l5_T} {x0 x1 : AVal} {x2 : Int} {x3 : AVal} {x4 x5 x6 x7 : Int} {h : Heap} (n : Nat) (H : F n x0 x1 x2 x3 x4 x5 x6 x7 h) : s82l5_E F x0 x1 x2 x3 x4 x5 x6 x7 h := gJ_plain rfl ⟨n, H⟩

abbrev s82c6_K : List Kd := [.any, .any, .int .i64, .any, .int .i64, .int .i64, .int .i64, .int .i64]
def s82c6 (Ψ : AVal → Heap → Prop) (L1 : s82l1_T) (L5 : s82l5_T) (m5 out5 : AVal) (w4 : Int) (in_4 : AVal) (t16_5 t17_5 t57_1 t58_1 : Int) (h : Heap) : Prop :=
 rg (t58_1 + 1) (
 L5 m5 out5 w4 in_4 t16_5 t17_5 t57_1 (t58_1 + 1) h)

def s82l5 (Ψ : AVal → Heap → Prop) (L1 : s82l1_T) : Nat → s82l5_T
 | 0, _, _, _, _, _, _, _, _, _ => False
 | n9 + 1, m4, out4, w3, in_3, t16_4, t17_4, t57, t58, h =>
 ifT (decide (t58 < t57)) (
 mapGet (.int .i64 0) h in_3 (.int .i64 t58) fun v14 b2 =>
 tInt .i64 v14 fun v15 =>
 ifT (decide (0 < v15)) (
 ixS 1 out4 w3 fun p5 =>
 ld1 h p5 fun v16 =>
 appC 1 8 h v16 (.lsl 1 [(.int .i64 t58)]) fun v17 h_6 =>
 ixS 1 out4 w3 fun p6 =>
 chk (sc v17) (
 st true h_6 p6 [v17] fun h_7 =>
 s82c6 Ψ L1 (s82l5_G (s82l5 Ψ L1 n9)) m4 out4 w3 in_3 t16_4 t17_4 t57 t58 h_7)) (
 s82c6 Ψ L1 (s82l5_G (s82l5 Ψ L1 n9)) m4 out4 w3 in_3 t16_4 t17_4 t57 t58 h)) (
 rg (t17_4 + 1) (
 L1 m4 out4 t16_4 (t17_4 + 1) h))

def s82l2 (Ψ : AVal → Heap → Prop) (L1 : s82l1_T) : Nat → s82l2_T
 | 0, _, _, _, _, _, _, _, _ => False
 | n3 + 1, m1, out1, w, in_, wait, t16_1, t17_1, h =>
 lenN wait fun n4 =>
 ifT (decide (0 < n4)) (
 addOff m1 0 fun p =>
 ld1 h p fun v1 =>
 ixS 1 wait 0 fun p1 =>
 ld1 h p1 fun v2 =>
 tInt .i64 v2 fun v3 =>
 ixS 1 v1 v3 fun p2 =>
 ld1 h p2 fun v4 =>
 lenN v4 fun n5 =>
 s82l3_E (s82l3 Ψ L1 (s82l2_G (s82l2 Ψ L1 n3))) m1 out1 w in_ wait t16_1 t17_1 v4 n5 0 h) (
 addOff m1 0 fun p4 =>
 ld1 h p4 fun v13 =>
 lenN v13 fun n8 =>
 s82l5_E (s82l5 Ψ L1) m1 out1 w in_ t16_1 t17_1 n8 0 h)

def s82l1 (Ψ : AVal → Heap → Prop) : Nat → s82l1_T
 | 0, _, _, _, _, _ => False
 | n2 + 1, m, out, t16, t17, h =>
 ifT (decide (t17 < t16)) (
 newMap h fun r h_1 =>
 mapPut h_1 (.mapr r) (.int .i64 t17) (.int .i64 1) fun h_2 =>
 Sym.newRow 1 [(.int .i64 t17)] h_2 fun r1 h_3 =>
 s82l2_E (s82l2 Ψ (s82l1_G (s82l1 Ψ n2))) m out t17 (.mapr r) (.sl r1 1 0 1) t16 t17 h_3) (
 retG out h Ψ)

def s82 (Ψ : AVal → Heap → Prop) (m_Up : AVal) (m_Val : AVal) (h : Heap) : Prop :=
 lenN m_Up fun n =>
 mkS false 1 24 .nilsl h n n fun v h_ =>
 lenN m_Up fun n1 =>
 s82l1_E (s82l1 Ψ) (.lptr [m_Up, m_Val]) v n1 0 h_

def s82_A (Ψ : AVal → Heap → Prop) : Ann :=
 .seq (.reg [⟨none, [(0, true), (1, false)]⟩])
 (.seq (rA 5)
 (.seq (.seq (rA 4)
 (.block (loopK [1, 3, 16, 17] s82l1_K (s82l1 Ψ) (fun L1 =>
 .seq (rA 1)
 (.seq (.cond (.leaf)
 (.leaf))
 (.seq (.block (.seq (rA 2)
 (.seq (rA 5)
 (.seq (.seq (rA 3)
 (.block (loopK [1, 3, 4, 5, 6, 16, 17] s82l2_K (s82l2 Ψ (LK s82l1_K L1)) (fun L2 =>
 .seq (.seq (rA 3)
 (.cond (.leaf)
 (.leaf)))
 (.seq (.block (.seq (.draw [(0, false), (1, false), (2, false), (3, false), (4, false), (5, false), (6, false), (7, false), (8, false)] [0, 1, 0, 4, 12, 31, 63, 127, 0])
 (.block (loopK [1, 3, 4, 5, 6, 16, 17, 36, 37, 38] s82l3_K (s82l3 Ψ (LK s82l1_K L1) (LK s82l2_K L2)) (fun L3 =>
 .seq (rA 1)
 (.seq (.cond (.leaf)
 (.leaf))
 (cutK [1, 3, 4, 5, 6, 16, 17, 36, 37, 38] s82c4_K (s82c4 Ψ (LK s82l1_K L1) (LK s82l2_K L2) (LK s82l3_K L3)) (.block (.seq (rA 3)
 (.seq (rA 4)
 (.cond (.seq (rA 5)
 (.reg [⟨none, [(0, false), (1, false), (2, true), (3, false), (4, false)]⟩]))
 (.leaf)))))
 (rA 2))))))))
 (rA 3))))))
 (.seq (rA 4)
 (.block (loopK [1, 3, 4, 5, 16, 17, 57, 58] s82l5_K (s82l5 Ψ (LK s82l1_K L1)) (fun L5 =>
 .seq (rA 1)
 (.seq (.cond (.leaf)
 (.leaf))
 (cutK [1, 3, 4, 5, 16, 17, 57, 58] s82c6_K (s82c6 Ψ (LK s82l1_K L1) (LK s82l5_K L5)) (.block (.seq (rA 2)
 (.seq (rA 4)
 (.cond (.reg [⟨none, [(0, false), (1, false), (2, false), (3, false), (4, false), (5, false), (6, false), (7, true), (8, false), (9, false), (10, false)]⟩])
 (.leaf)))))
 (rA 2)))))))))))
 (rA 2)))))))
 (.seq (rA 2)
 (.leaf))))

theorem s82_ok {Ψ : AVal → Heap → Prop} {m_Up : AVal} {m_Val : AVal} {h : Heap} (H : s82 Ψ m_Up m_Val h) : ACalls prog 82 [(.agg [m_Up, m_Val])] h Ψ :=
 calls_of_evF func82 (by kernel_rfl) (by kernel_rfl) (by kernel_rfl)
 (Eq.mpr (by as_aux_lemma => kernel_rfl : oblF prog f82 (s82_A Ψ) Ψ = ((True) ∧ ((True) ∧ (((True) ∧ ((NK s82l1_K (s82l1 Ψ 0)) ∧ (∀ n1 : Nat, (QK s82l1_K (s82l1 Ψ (n1 + 1))) ∧ ((True) ∧ ((otP 1) ∧ (((True) ∧ ((True) ∧ (((True) ∧ ((NK s82l2_K (s82l2 Ψ (s82l1_G (s82l1 Ψ n1)) 0)) ∧ (∀ n2 : Nat, (QK s82l2_K (s82l2 Ψ (s82l1_G (s82l1 Ψ n1)) (n2 + 1))) ∧ ((otP 5) ∧ (((True) ∧ ((NK s82l3_K (s82l3 Ψ (s82l1_G (s82l1 Ψ n1)) (s82l2_G (s82l2 Ψ (s82l1_G (s82l1 Ψ n1)) n2)) 0)) ∧ (∀ n3 : Nat, (QK s82l3_K (s82l3 Ψ (s82l1_G (s82l1 Ψ n1)) (s82l2_G (s82l2 Ψ (s82l1_G (s82l1 Ψ n1)) n2)) (n3 + 1))) ∧ ((True) ∧ ((otP 1) ∧ ((otP 53) ∧ ((QK s82c4_K (s82c4 Ψ (s82l1_G (s82l1 Ψ n1)) (s82l2_G (s82l2 Ψ (s82l1_G (s82l1 Ψ n1)) n2)) (s82l3_G (s82l3 Ψ (s82l1_G (s82l1 Ψ n1)) (s82l2_G (s82l2 Ψ (s82l1_G (s82l1 Ψ n1)) n2)) n3)))) ∧ (True)))))))) ∧ (True)))))) ∧ ((True) ∧ ((NK s82l5_K (s82l5 Ψ (s82l1_G (s82l1 Ψ n1)) 0)) ∧ (∀ n5 : Nat, (QK s82l5_K (s82l5 Ψ (s82l1_G (s82l1 Ψ n1)) (n5 + 1))) ∧ ((True) ∧ ((otP 1) ∧ ((otP 21) ∧ ((QK s82c6_K (s82c6 Ψ (s82l1_G (s82l1 Ψ n1)) (s82l5_G (s82l5 Ψ (s82l1_G (s82l1 Ψ n1)) n5)))) ∧ (True))))))))))) ∧ (True))))))) ∧ (otP 1))))) (⟨trivial, ⟨trivial, ⟨⟨trivial, ⟨fun _ _ _ _ _ H => H, fun _ => ⟨oI, ⟨trivial, ⟨otP_ok 1, ⟨⟨trivial, ⟨trivial, ⟨⟨trivial, ⟨fun _ _ _ _ _ _ _ _ H => H, fun _ => ⟨oI, ⟨otP_ok 5, ⟨⟨trivial, ⟨fun _ _ _ _ _ _ _ _ _ _ _ H => H, fun _ => ⟨oI, ⟨trivial, ⟨otP_ok 1, ⟨otP_ok 53, ⟨oI, trivial⟩⟩⟩⟩⟩⟩⟩, trivial⟩⟩⟩⟩⟩, ⟨trivial, ⟨fun _ _ _ _ _ _ _ _ _ H => H, fun _ => ⟨oI, ⟨trivial, ⟨otP_ok 1, ⟨otP_ok 21, ⟨oI, trivial⟩⟩⟩⟩⟩⟩⟩⟩⟩⟩, trivial⟩⟩⟩⟩⟩⟩, otP_ok 1⟩⟩⟩))
 (Eq.mpr (by as_aux_lemma => kernel_rfl : evF prog f82 (s82_A Ψ) Ψ [(.agg [m_Up, m_Val])] h = s82 Ψ m_Up m_Val h) H)

/- 84 dictum/bits.All -/
def s84 (Ψ : AVal → Heap → Prop) (b : AVal) (h : Heap) : Prop :=
 aggN 16 b fun cs =>
 retG (.func (.func 119) [] [(.lptr cs)]) h Ψ

def s84_A (Ψ : AVal → Heap → Prop) : Ann :=
 .seq (.reg [⟨none, [(0, true), (1, false)]⟩])
 (.seq (rA 2)
 (.leaf))

theorem s84_ok {Ψ : AVal → Heap → Prop} {b : AVal} {h : Heap} (H : s84 Ψ b h) : ACalls prog 84 [b] h Ψ :=
 calls_of_evF func84 (by kernel_rfl) (by kernel_rfl) (by kernel_rfl)
 (Eq.mpr (by as_aux_lemma => kernel_rfl : oblF prog f84 (s84_A Ψ) Ψ = (otP 5)) (otP_ok 5))
 (Eq.mpr (by as_aux_lemma => kernel_rfl : evF prog f84 (s84_A Ψ) Ψ [b] h = s84 Ψ b h) H)

/- 86 (*dictum/formula.Table).Node -/
abbrev s86c1_K : List Kd := [.any, .int .i64, .any, .bool]
def s86c1 (Ψ : AVal → Heap → Prop) (t1 : AVal) (id_1 : Int) (t4 : AVal) (t14 : Bool) (h : Heap) : Prop :=
 ifT t14 (
 st false h t4 [(.int .i64 0), (.str (ByteArray.mk #[])), (.int .i64 0), (.int .i64 0)] fun h_1 =>
 ldN 4 h_1 t4 fun l_ =>
 tCons l_ fun v l_1 =>
 tInt .i64 v fun v1 =>
 tCons l_1 fun v2 l_2 =>
 tStr v2 fun v3 =>
 tCons l_2 fun v4 l_3 =>
 tInt .i64 v4 fun v5 =>
 tCons l_3 fun v6 l_4 =>
 tInt .i64 v6 fun v7 =>
 tNil l_4 (
 retG (.tuple [(.agg [(.int .i64 v1), (.str v3), (.int .i64 v5), (.int .i64 v7)]), (.bool false)]) h_1 Ψ)) (
 nilCheckA t1 fun p =>
 addOff p 0 fun p1 =>
 ld1 h p1 fun v8 =>
 ixS 4 v8 id_1 fun p2 =>
 ldN 4 h p2 fun l_5 =>
 tCons l_5 fun v9 l_6 =>
 tInt .i64 v9 fun v10 =>
 tCons l_6 fun v11 l_7 =>
 tStr v11 fun v12 =>
 tCons l_7 fun v13 l_8 =>
 tInt .i64 v13 fun v14 =>
 tCons l_8 fun v15 l_9 =>
 tInt .i64 v15 fun v16 =>
 tNil l_9 (
 st false h t4 [(.int .i64 v10), (.str v12), (.int .i64 v14), (.int .i64 v16)] fun h_2 =>
 ldN 4 h_2 t4 fun l_10 =>
 tCons l_10 fun v17 l_11 =>
 tInt .i64 v17 fun v18 =>
 tCons l_11 fun v19 l_12 =>
 tStr v19 fun v20 =>
 tCons l_12 fun v21 l_13 =>
 tInt .i64 v21 fun v22 =>
 tCons l_13 fun v23 l_14 =>
 tInt .i64 v23 fun v24 =>
 tNil l_14 (
 retG (.tuple [(.agg [(.int .i64 v18), (.str v20), (.int .i64 v22), (.int .i64 v24)]), (.bool true)]) h_2 Ψ)))

def s86 (Ψ : AVal → Heap → Prop) (t : AVal) (id_ : Int) (h : Heap) : Prop :=
 Sym.newRow 4 [(.agg [(.int .i64 0), (.str (ByteArray.mk #[])), (.int .i64 0), (.int .i64 0)])] h fun r h_ =>
 callG prog 98 [t] h_ fun v25 h_3 =>
 tBool v25 fun v26 =>
 ifT (!v26) (
 s86c1 Ψ t id_ (.ptr r 0 0) true h_3) (
 callG prog 120 [t, (.int .i64 id_)] h_3 fun v27 h_4 =>
 tBool v27 fun v28 =>
 s86c1 Ψ t id_ (.ptr r 0 0) (!v28) h_4)

def s86_A (Ψ : AVal → Heap → Prop) : Ann :=
 .seq (rA 2)
 (.seq (cutK [0, 1, 4, 14] s86c1_K (s86c1 Ψ) (.reg [⟨none, [(0, false), (1, false), (2, false), (3, false)]⟩, ⟨some (9, false), [(4, false), (5, false), (6, false), (7, false)]⟩, ⟨none, [(8, false)]⟩])
 (.cond (.seq (rA 3)
 (.leaf))
 (.leaf)))
 (.seq (rA 9)
 (.leaf)))

theorem s86_ok {Ψ : AVal → Heap → Prop} {t : AVal} {id_ : Int} {h : Heap} (H : s86 Ψ t id_ h) : ACalls prog 86 [t, (.int .i64 id_)] h Ψ :=
 calls_of_evF func86 (by kernel_rfl) (by kernel_rfl) (by kernel_rfl)
 (Eq.mpr (by as_aux_lemma => kernel_rfl : oblF prog f86 (s86_A Ψ) Ψ = ((True) ∧ (((True) ∧ ((QK s86c1_K (s86c1 Ψ)) ∧ (otP 3))) ∧ (otP 1)))) (⟨trivial, ⟨⟨trivial, ⟨oI, otP_ok 3⟩⟩, otP_ok 1⟩⟩))
 (Eq.mpr (by as_aux_lemma => kernel_rfl : evF prog f86 (s86_A Ψ) Ψ [t, (.int .i64 id_)] h = s86 Ψ t id_ h) H)

/- 94 (*dictum/formula.Table).Below -/
abbrev s94l1_T := AVal → AVal → Heap → Prop
abbrev s94l1_K : List Kd := [.any, .any]
def s94l1_G (F : s94l1_T) : s94l1_T := GK s94l1_K F
def s94l1_E (F : Nat → s94l1_T) : s94l1_T := EK s94l1_K F
theorem s94l1_go {F : s94l1_T} {x0 x1 : AVal} {h : Heap} (H : F x0 x1 h) : s94l1_G F x0 x1 h := gJ_plain rfl H
theorem s94l1_in {F : Nat → s94l1_T} {x0 x1 : AVal} {h : Heap} (n : Nat) (H : F n x0 x1 h) : s94l1_E F x0 x1 h := gJ_plain rfl ⟨n, H⟩

def s94l1 (Ψ : AVal → Heap → Prop) : Nat → s94l1_T
 | 0, _, _, _ => False
 | n + 1, l_, t25, h =>
 nextM h t25 fun v8 h_9 =>
 extractA v8 0 fun v9 =>
 tBool v9 fun v10 =>
 ifT v10 (
 entryA h_9 t25 fun v11 =>
 extractA v11 0 fun v12 =>
 tInt .i64 v12 fun v13 =>
 appC 1 8 h_9 l_ (.lsl 1 [(.int .i64 v13)]) fun v14 h_10 =>
 s94l1_G (s94l1 Ψ n) v14 t25 h_10) (
 callG prog 125 [l_] h_9 fun v15 h_11 =>
 retG (.tuple [l_, (.int .i64 0)]) h_11 Ψ)

def s94 (Ψ : AVal → Heap → Prop) (t : AVal) (id_ : Int) (h : Heap) : Prop :=
 chk (sc t) (
 callG prog 98 [t] h fun v h_ =>
 tBool v fun v1 =>
 ifT (!v1) (
 retG (.tuple [.nilsl, (.int .i64 1)]) h_ Ψ) (
 callG prog 120 [t, (.int .i64 id_)] h_ fun v2 h_1 =>
 tBool v2 fun v3 =>
 ifT (!v3) (
 retG (.tuple [.nilsl, (.int .i64 31)]) h_1 Ψ) (
 newMap h_1 fun r h_2 =>
 Sym.newRow 1 [.nilmap] h_2 fun r1 h_3 =>
 st true h_3 (.ptr r1 0 0) [(.mapr r)] fun h_4 =>
 Sym.newRow 1 [.nilfunc] h_4 fun r2 h_5 =>
 st true h_5 (.ptr r2 0 0) [(.func (.func 124) [] [(.ptr r1 0 0), (.lptr [t]), (.ptr r2 0 0)])] fun h_6 =>
 ld1 h_6 (.ptr r2 0 0) fun v4 =>
 callV prog v4 [(.int .i64 id_)] h_6 fun v5 h_7 =>
 ld1 h_7 (.ptr r1 0 0) fun v6 =>
 rangeM h_7 v6 fun v7 h_8 =>
 s94l1_E (s94l1 Ψ) .nilsl v7 h_8)))

def s94_A (Ψ : AVal → Heap → Prop) : Ann :=
 .seq (.reg [⟨none, [(0, true), (1, false), (2, false)]⟩])
 (.seq (.block (.seq (rA 4)
 (.cond (.seq (rA 2)
 (.leaf))
 (.seq (rA 5)
 (.cond (.seq (rA 2)
 (.leaf))
 (.leaf))))))
 (.seq (rA 3)
 (.seq (rA 1)
 (.seq (rA 2)
 (.seq (rA 3)
 (.seq (rA 1)
 (.seq (.seq (rA 2)
 (.block (loopK [8, 25] s94l1_K (s94l1 Ψ) (fun L1 =>
 .seq (rA 2)
 (.seq (.cond (.leaf)
 (.leaf))
 (.block (.seq (rA 3)
 (.reg [⟨none, [(0, false), (1, false), (2, true), (3, false), (4, false)]⟩]))))))))
 (.seq (rA 2)
 (.seq (rA 3)
 (.leaf))))))))))

theorem s94_ok {Ψ : AVal → Heap → Prop} {t : AVal} {id_ : Int} {h : Heap} (H : s94 Ψ t id_ h) : ACalls prog 94 [t, (.int .i64 id_)] h Ψ :=
 calls_of_evF func94 (by kernel_rfl) (by kernel_rfl) (by kernel_rfl)
 (Eq.mpr (by as_aux_lemma => kernel_rfl : oblF prog f94 (s94_A Ψ) Ψ = ((True) ∧ ((otP 845) ∧ ((True) ∧ ((True) ∧ ((True) ∧ ((True) ∧ ((True) ∧ (((True) ∧ ((NK s94l1_K (s94l1 Ψ 0)) ∧ (∀ n1 : Nat, (QK s94l1_K (s94l1 Ψ (n1 + 1))) ∧ (otP 77)))) ∧ (otP 5)))))))))) (⟨trivial, ⟨otP_ok 845, ⟨trivial, ⟨trivial, ⟨trivial, ⟨trivial, ⟨trivial, ⟨⟨trivial, ⟨fun _ _ _ H => H, fun _ => ⟨oI, otP_ok 77⟩⟩⟩, otP_ok 5⟩⟩⟩⟩⟩⟩⟩⟩))
 (Eq.mpr (by as_aux_lemma => kernel_rfl : evF prog f94 (s94_A Ψ) Ψ [t, (.int .i64 id_)] h = s94 Ψ t id_ h) H)

/- 96 dictum/force.upsets$1 -/
abbrev s96l1_T := AVal → AVal → Int → Int → Heap → Prop
abbrev s96l1_K : List Kd := [.any, .any, .int .u64, .int .u64]
def s96l1_G (F : s96l1_T) : s96l1_T := GK s96l1_K F
def s96l1_E (F : Nat → s96l1_T) : s96l1_T := EK s96l1_K F
theorem s96l1_go {F : s96l1_T} {x0 x1 : AVal} {x2 x3 : Int} {h : Heap} (H : F x0 x1 x2 x3 h) : s96l1_G F x0 x1 x2 x3 h := gJ_plain rfl H
theorem s96l1_in {F : Nat → s96l1_T} {x0 x1 : AVal} {x2 x3 : Int} {h : Heap} (n : Nat) (H : F n x0 x1 x2 x3 h) : s96l1_E F x0 x1 x2 x3 h := gJ_plain rfl ⟨n, H⟩

abbrev s96l2_T := AVal → AVal → Int → Bool → Int → Int → AVal → Int → Int → Heap → Prop
abbrev s96l2_K : List Kd := [.any, .any, .int .u64, .bool, .int .u64, .int .u64, .any, .int .i64, .int .i64]
def s96l2_G (F : s96l2_T) : s96l2_T := GK s96l2_K F
def s96l2_E (F : Nat → s96l2_T) : s96l2_T := EK s96l2_K F
theorem s96l2_go {F : s96l2_T} {x0 x1 : AVal} {x2 : Int} {x3 : Bool} {x4 x5 : Int} {x6 : AVal} {x7 x8 : Int} {h : Heap} (H : F x0 x1 x2 x3 x4 x5 x6 x7 x8 h) : s96l2_G F x0 x1 x2 x3 x4 x5 x6 x7 x8 h := gJ_plain rfl H
theorem s96l2_in {F : Nat → s96l2_T} {x0 x1 : AVal} {x2 : Int} {x3 : Bool} {x4 x5 : Int} {x6 : AVal} {x7 x8 : Int} {h : Heap} (n : Nat) (H : F n x0 x1 x2 x3 x4 x5 x6 x7 x8 h) : s96l2_E F x0 x1 x2 x3 x4 x5 x6 x7 x8 h := gJ_plain rfl ⟨n, H⟩

abbrev s96l3_T := AVal → AVal → Int → Bool → Int → Int → Int → AVal → Int → Int → AVal → Int → Int → Heap → Prop
abbrev s96l3_K : List Kd := [.any, .any, .int .u64, .bool, .int .i64, .int .u64, .int .u64, .any, .int .i64, .int .i64, .any, .int .i64, .int .i64]
def s96l3_G (F : s96l3_T) : s96l3_T := GK s96l3_K F
def s96l3_E (F : Nat → s96l3_T) : s96l3_T := EK s96l3_K F
theorem s96l3_go {F : s96l3_T} {x0 x1 : AVal} {x2 : Int} {x3 : Bool} {x4 x5 x6 : Int} {x7 : AVal} {x8 x9 : Int} {x10 : AVal} {x11 x12 : Int} {h : Heap} (H : F x0 x1 x2 x3 x4 x5 x6 x7 x8 x9 x10 x11 x12 h) : s96l3_G F x0 x1 x2 x3 x4 x5 x6 x7 x8 x9 x10 x11 x12 h := gJ_plain rfl H
theorem s96l3_in {F : Nat → s96l3_T} {x0 x1 : AVal} {x2 : Int} {x3 : Bool} {x4 x5 x6 : Int} {x7 : AVal} {x8 x9 : Int} {x10 : AVal} {x11 x12 : Int} {h : Heap} (n : Nat) (H : F n x0 x1 x2 x3 x4 x5 x6 x7 x8 x9 x10 x11 x12 h) : s96l3_E F x0 x1 x2 x3 x4 x5 x6 x7 x8 x9 x10 x11 x12 h := gJ_plain rfl ⟨n, H⟩

abbrev s96c4_K : List Kd := [.any, .any, .int .u64, .bool, .int .i64, .int .u64, .int .u64, .any, .int .i64, .int .i64, .any, .int .i64, .int .i64]
def s96c4 (Ψ : AVal → Heap → Prop) (L1 : s96l1_T) (L2 : s96l2_T) (L3 : s96l3_T) (yield4 t1_3 : AVal) (set_2 : Int) (closed2 : Bool) (w1 t11_3 t12_3 : Int) (t15_2 : AVal) (t16_2 t17_2 : Int) (t22_1 : AVal) (t23_1 t24_1 : Int) (h : Heap) : Prop :=
 rg (t24_1 + 1) (
 L3 yield4 t1_3 set_2 closed2 w1 t11_3 t12_3 t15_2 t16_2 t17_2 t22_1 t23_1 (t24_1 + 1) h)

def s96l3 (Ψ : AVal → Heap → Prop) (L1 : s96l1_T) (L2 : s96l2_T) : Nat → s96l3_T
 | 0, _, _, _, _, _, _, _, _, _, _, _, _, _, _ => False
 | n5 + 1, yield3, t1_2, set_1, closed1, w, t11_2, t12_2, t15_1, t16_1, t17_1, t22, t23, t24, h =>
 ifT (decide (t24 < t23)) (
 ixS 1 t22 t24 fun p1 =>
 ld1 h p1 fun v3 =>
 tInt .i64 v3 fun v4 =>
 ifT closed1 (
 (0 : Int) ≤ w ∧
 ifT ((bitsI .and .u64 (Int.fdiv set_1 (2 ^ (min (Int.toNat w) (IntKind.u64.bits)))) 1) == 0) (
 s96c4 Ψ L1 L2 (s96l3_G (s96l3 Ψ L1 L2 n5)) yield3 t1_2 set_1 true w t11_2 t12_2 t15_1 t16_1 t17_1 t22 t23 t24 h) (
 (0 : Int) ≤ v4 ∧
 s96c4 Ψ L1 L2 (s96l3_G (s96l3 Ψ L1 L2 n5)) yield3 t1_2 set_1 ((bitsI .and .u64 (Int.fdiv set_1 (2 ^ (min (Int.toNat v4) (IntKind.u64.bits)))) 1) == 1) w t11_2 t12_2 t15_1 t16_1 t17_1 t22 t23 t24 h)) (
 s96c4 Ψ L1 L2 (s96l3_G (s96l3 Ψ L1 L2 n5)) yield3 t1_2 set_1 false w t11_2 t12_2 t15_1 t16_1 t17_1 t22 t23 t24 h)) (
 rg (t17_1 + 1) (
 L2 yield3 t1_2 set_1 closed1 t11_2 t12_2 t15_1 t16_1 (t17_1 + 1) h))

abbrev s96c5_K : List Kd := [.any, .any, .int .u64, .int .u64, .bool]
def s96c5 (Ψ : AVal → Heap → Prop) (L1 : s96l1_T) (yield5 t1_4 : AVal) (t11_4 t12_4 : Int) (t51 : Bool) (h : Heap) : Prop :=
 ifT t51 (
 retG (.tuple []) h Ψ) (
 L1 yield5 t1_4 t11_4 (IntKind.u64.wrap (t12_4 + 1)) h)

def s96l2 (Ψ : AVal → Heap → Prop) (L1 : s96l1_T) : Nat → s96l2_T
 | 0, _, _, _, _, _, _, _, _, _, _ => False
 | n3 + 1, yield2, t1_1, set_, closed, t11_1, t12_1, t15, t16, t17, h =>
 ifT (decide (t17 < t16)) (
 ixS 1 t15 t17 fun p =>
 ld1 h p fun v2 =>
 lenN v2 fun n4 =>
 s96l3_E (s96l3 Ψ L1 (s96l2_G (s96l2 Ψ L1 n3))) yield2 t1_1 set_ closed t17 t11_1 t12_1 t15 t16 t17 v2 n4 0 h) (
 ifT closed (
 callV prog yield2 [(.int .u64 set_)] h fun v5 h_ =>
 tBool v5 fun v6 =>
 s96c5 Ψ L1 yield2 t1_1 t11_1 t12_1 (!v6) h_) (
 s96c5 Ψ L1 yield2 t1_1 t11_1 t12_1 false h))

def s96l1 (Ψ : AVal → Heap → Prop) : Nat → s96l1_T
 | 0, _, _, _, _, _ => False
 | n1 + 1, yield1, t1, t11, t12, h =>
 ifT (decide (t12 < t11)) (
 ld1 h t1 fun v1 =>
 lenN v1 fun n2 =>
 s96l2_E (s96l2 Ψ (s96l1_G (s96l1 Ψ n1))) yield1 t1 t12 true t11 t12 v1 n2 0 h) (
 retG (.tuple []) h Ψ)

def s96 (Ψ : AVal → Heap → Prop) (yield : AVal) (c0 : AVal) (h : Heap) : Prop :=
 ld1 h c0 fun v =>
 lenN v fun n =>
 (0 : Int) ≤ n ∧
 s96l1_E (s96l1 Ψ) yield c0 (IntKind.u64.wrap (1 * 2 ^ (min (Int.toNat n) (IntKind.u64.bits)))) 0 h

def s96_A (Ψ : AVal → Heap → Prop) : Ann :=
 .seq (rA 4)
 (.block (loopK [0, 1, 11, 12] s96l1_K (s96l1 Ψ) (fun L1 =>
 .seq (rA 1)
 (.seq (.cond (.leaf)
 (.leaf))
 (.seq (.block (.seq (rA 2)
 (.seq (rA 1)
 (.seq (.seq (rA 3)
 (.block (loopK [0, 1, 3, 4, 11, 12, 15, 16, 17] s96l2_K (s96l2 Ψ (LK s96l1_K L1)) (fun L2 =>
 .seq (rA 1)
 (.seq (.cond (.leaf)
 (.leaf))
 (.seq (.block (.seq (rA 5)
 (.seq (rA 3)
 (.block (loopK [0, 1, 3, 4, 5, 11, 12, 15, 16, 17, 22, 23, 24] s96l3_K (s96l3 Ψ (LK s96l1_K L1) (LK s96l2_K L2)) (fun L3 =>
 .seq (rA 1)
 (.seq (.cond (.leaf)
 (.leaf))
 (cutK [0, 1, 3, 4, 5, 11, 12, 15, 16, 17, 22, 23, 24] s96c4_K (s96c4 Ψ (LK s96l1_K L1) (LK s96l2_K L2) (LK s96l3_K L3)) (.block (.seq (rA 3)
 (.reg [⟨none, [(0, false), (1, false)]⟩, ⟨some (29, true), [(2, false), (3, false), (4, false), (5, false), (6, false), (7, false)]⟩, ⟨some (35, false), [(8, false), (9, false), (10, false), (11, false), (12, false)]⟩, ⟨some (29, true), [(13, false)]⟩, ⟨none, [(14, false), (15, false)]⟩])))
 (rA 2)))))))))
 (rA 2)))))))
 (cutK [0, 1, 11, 12, 51] s96c5_K (s96c5 Ψ (LK s96l1_K L1)) (.reg [⟨none, [(0, false), (1, false)]⟩, ⟨some (46, true), [(2, false), (3, false), (4, false), (5, false)]⟩, ⟨none, [(6, false)]⟩])
 (.cond (.leaf)
 (.leaf)))))))
 (rA 2))))))

theorem s96_ok {Ψ : AVal → Heap → Prop} {yield : AVal} {c0 : AVal} {h : Heap} (H : s96 Ψ yield c0 h) : ACalls prog 96 [yield, c0] h Ψ :=
 calls_of_evF func96 (by kernel_rfl) (by kernel_rfl) (by kernel_rfl)
 (Eq.mpr (by as_aux_lemma => kernel_rfl : oblF prog f96 (s96_A Ψ) Ψ = ((True) ∧ ((NK s96l1_K (s96l1 Ψ 0)) ∧ (∀ n1 : Nat, (QK s96l1_K (s96l1 Ψ (n1 + 1))) ∧ ((True) ∧ ((otP 1) ∧ (((True) ∧ ((True) ∧ (((True) ∧ ((NK s96l2_K (s96l2 Ψ (s96l1_G (s96l1 Ψ n1)) 0)) ∧ (∀ n2 : Nat, (QK s96l2_K (s96l2 Ψ (s96l1_G (s96l1 Ψ n1)) (n2 + 1))) ∧ ((True) ∧ ((otP 1) ∧ (((True) ∧ ((True) ∧ ((NK s96l3_K (s96l3 Ψ (s96l1_G (s96l1 Ψ n1)) (s96l2_G (s96l2 Ψ (s96l1_G (s96l1 Ψ n1)) n2)) 0)) ∧ (∀ n3 : Nat, (QK s96l3_K (s96l3 Ψ (s96l1_G (s96l1 Ψ n1)) (s96l2_G (s96l2 Ψ (s96l1_G (s96l1 Ψ n1)) n2)) (n3 + 1))) ∧ ((True) ∧ ((otP 1) ∧ ((otP 1) ∧ ((QK s96c4_K (s96c4 Ψ (s96l1_G (s96l1 Ψ n1)) (s96l2_G (s96l2 Ψ (s96l1_G (s96l1 Ψ n1)) n2)) (s96l3_G (s96l3 Ψ (s96l1_G (s96l1 Ψ n1)) (s96l2_G (s96l2 Ψ (s96l1_G (s96l1 Ψ n1)) n2)) n3)))) ∧ (True))))))))) ∧ (True))))))) ∧ ((True) ∧ ((QK s96c5_K (s96c5 Ψ (s96l1_G (s96l1 Ψ n1)))) ∧ (otP 1)))))) ∧ (True)))))))) (⟨trivial, ⟨fun _ _ _ _ _ H => H, fun _ => ⟨oI, ⟨trivial, ⟨otP_ok 1, ⟨⟨trivial, ⟨trivial, ⟨⟨trivial, ⟨fun _ _ _ _ _ _ _ _ _ _ H => H, fun _ => ⟨oI, ⟨trivial, ⟨otP_ok 1, ⟨⟨trivial, ⟨trivial, ⟨fun _ _ _ _ _ _ _ _ _ _ _ _ _ _ H => H, fun _ => ⟨oI, ⟨trivial, ⟨otP_ok 1, ⟨otP_ok 1, ⟨oI, trivial⟩⟩⟩⟩⟩⟩⟩⟩, trivial⟩⟩⟩⟩⟩⟩, ⟨trivial, ⟨oI, otP_ok 1⟩⟩⟩⟩⟩, trivial⟩⟩⟩⟩⟩⟩))
 (Eq.mpr (by as_aux_lemma => kernel_rfl : evF prog f96 (s96_A Ψ) Ψ [yield, c0] h = s96 Ψ yield c0 h) H)

/- 98 (*dictum/formula.Table).alive -/
def s98 (Ψ : AVal → Heap → Prop) (t : AVal) (h : Heap) : Prop :=
 nilP t fun b =>
 ifT (!b) (
 nilCheckA t fun p =>
 addOff p 1 fun p1 =>
 ld1 h p1 fun v =>
 nilM v fun b1 =>
 retG (.bool (!b1)) h Ψ) (
 retG (.bool false) h Ψ)

def s98_A (Ψ : AVal → Heap → Prop) : Ann :=
 .seq (rA 1)
 (.seq (.reg [⟨none, [(0, false), (1, false), (2, false)]⟩, ⟨some (5, true), [(3, false), (4, false), (5, false), (6, false), (7, false)]⟩, ⟨none, [(8, false), (9, false)]⟩])
 (.leaf))

theorem s98_ok {Ψ : AVal → Heap → Prop} {t : AVal} {h : Heap} (H : s98 Ψ t h) : ACalls prog 98 [t] h Ψ :=
 calls_of_evF func98 (by kernel_rfl) (by kernel_rfl) (by kernel_rfl)
 (Eq.mpr (by as_aux_lemma => kernel_rfl : oblF prog f98 (s98_A Ψ) Ψ = (otP 5)) (otP_ok 5))
 (Eq.mpr (by as_aux_lemma => kernel_rfl : evF prog f98 (s98_A Ψ) Ψ [t] h = s98 Ψ t h) H)

/- 100 dictum/bits.inside -/
def s100 (Ψ : AVal → Heap → Prop) (n : Int) (h : Heap) : Prop :=
 ifT (decide (0 ≤ n)) (
 retG (.bool (decide (n < 1024))) h Ψ) (
 retG (.bool false) h Ψ)

def s100_A (Ψ : AVal → Heap → Prop) : Ann :=
 .seq (rA 1)
 (.seq (.reg [⟨none, [(0, false), (1, false), (2, false)]⟩, ⟨some (5, true), [(3, false), (4, false)]⟩, ⟨none, [(5, false), (6, false)]⟩])
 (.leaf))

theorem s100_ok {Ψ : AVal → Heap → Prop} {n : Int} {h : Heap} (H : s100 Ψ n h) : ACalls prog 100 [(.int .i64 n)] h Ψ :=
 calls_of_evF func100 (by kernel_rfl) (by kernel_rfl) (by kernel_rfl)
 (Eq.mpr (by as_aux_lemma => kernel_rfl : oblF prog f100 (s100_A Ψ) Ψ = (otP 5)) (otP_ok 5))
 (Eq.mpr (by as_aux_lemma => kernel_rfl : evF prog f100 (s100_A Ψ) Ψ [(.int .i64 n)] h = s100 Ψ n h) H)

/- 104 slices.Index[[]string,string] -/
abbrev s104l1_T := AVal → ByteArray → Int → Int → Heap → Prop
abbrev s104l1_K : List Kd := [.any, .str, .int .i64, .int .i64]
def s104l1_G (F : s104l1_T) : s104l1_T := GK s104l1_K F
def s104l1_E (F : Nat → s104l1_T) : s104l1_T := EK s104l1_K F
theorem s104l1_go {F : s104l1_T} {x0 : AVal} {x1 : ByteArray} {x2 x3 : Int} {h : Heap} (H : F x0 x1 x2 x3 h) : s104l1_G F x0 x1 x2 x3 h := gJ_plain rfl H
theorem s104l1_in {F : Nat → s104l1_T} {x0 : AVal} {x1 : ByteArray} {x2 x3 : Int} {h : Heap} (n : Nat) (H : F n x0 x1 x2 x3 h) : s104l1_E F x0 x1 x2 x3 h := gJ_plain rfl ⟨n, H⟩

def s104l1 (Ψ : AVal → Heap → Prop) : Nat → s104l1_T
 | 0, _, _, _, _, _ => False
 | n1 + 1, s1, v1, t7, t8, h =>
 ifT (decide (t8 < t7)) (
 ixS 1 s1 t8 fun p =>
 ld1 h p fun v2 =>
 tStr v2 fun v3 =>
 ifT (strEq v1 v3) (
 retG (.int .i64 t8) h Ψ) (
 rg (t8 + 1) (
 s104l1_G (s104l1 Ψ n1) s1 v1 t7 (t8 + 1) h))) (
 retG (.int .i64 (-1)) h Ψ)

def s104 (Ψ : AVal → Heap → Prop) (s : AVal) (v : ByteArray) (h : Heap) : Prop :=
 lenN s fun n =>
 s104l1_E (s104l1 Ψ) s v n 0 h

def s104_A (Ψ : AVal → Heap → Prop) : Ann :=
 .seq (rA 1)
 (.seq (.seq (rA 3)
 (.block (loopK [0, 1, 7, 8] s104l1_K (s104l1 Ψ) (fun L1 =>
 .seq (rA 1)
 (.seq (.cond (.leaf)
 (.leaf))
 (.seq (.block (.seq (rA 2)
 (.seq (rA 6)
 (.cond (.seq (rA 2)
 (.leaf))
 (.leaf)))))
 (rA 2)))))))
 (.seq (rA 1)
 (.leaf)))

theorem s104_ok {Ψ : AVal → Heap → Prop} {s : AVal} {v : ByteArray} {h : Heap} (H : s104 Ψ s v h) : ACalls prog 104 [s, (.str v)] h Ψ :=
 calls_of_evF func104 (by kernel_rfl) (by kernel_rfl) (by kernel_rfl)
 (Eq.mpr (by as_aux_lemma => kernel_rfl : oblF prog f104 (s104_A Ψ) Ψ = ((True) ∧ (((True) ∧ ((NK s104l1_K (s104l1 Ψ 0)) ∧ (∀ n1 : Nat, (QK s104l1_K (s104l1 Ψ (n1 + 1))) ∧ (otP 6861)))) ∧ (otP 1)))) (⟨trivial, ⟨⟨trivial, ⟨fun _ _ _ _ _ H => H, fun _ => ⟨oI, otP_ok 6861⟩⟩⟩, otP_ok 1⟩⟩))
 (Eq.mpr (by as_aux_lemma => kernel_rfl : evF prog f104 (s104_A Ψ) Ψ [s, (.str v)] h = s104 Ψ s v h) H)

/- 119 dictum/bits.All$1 -/
abbrev s119l1_T := AVal → AVal → Int → Bool → Heap → Prop
abbrev s119l1_K : List Kd := [.any, .any, .int .i64, .bool]
def s119l1_G (F : s119l1_T) : s119l1_T := GK s119l1_K F
def s119l1_E (F : Nat → s119l1_T) : s119l1_T := EK s119l1_K F
theorem s119l1_go {F : s119l1_T} {x0 x1 : AVal} {x2 : Int} {x3 : Bool} {h : Heap} (H : F x0 x1 x2 x3 h) : s119l1_G F x0 x1 x2 x3 h := gJ_plain rfl H
theorem s119l1_in {F : Nat → s119l1_T} {x0 x1 : AVal} {x2 : Int} {x3 : Bool} {h : Heap} (n : Nat) (H : F n x0 x1 x2 x3 h) : s119l1_E F x0 x1 x2 x3 h := gJ_plain rfl ⟨n, H⟩

def s119l1 (Ψ : AVal → Heap → Prop) : Nat → s119l1_T
 | 0, _, _, _, _, _ => False
 | n1 + 1, yield1, t1, n, more, h =>
 ifT more (
 callV prog yield1 [(.int .i64 n)] h fun v5 h_1 =>
 tBool v5 fun v6 =>
 ifT (!v6) (
 retG (.tuple []) h_1 Ψ) (
 ldN 16 h_1 t1 fun l_4 =>
 rg (n + 1) (
 callG prog 83 [(.agg l_4), (.int .i64 (n + 1))] h_1 fun v7 h_2 =>
 tTup v7 fun l_5 =>
 tCons l_5 fun v8 l_6 =>
 tInt .i64 v8 fun v9 =>
 tCons l_6 fun v10 l_7 =>
 tBool v10 fun v11 =>
 tNil l_7 (
 s119l1_G (s119l1 Ψ n1) yield1 t1 v9 v11 h_2)))) (
 retG (.tuple []) h Ψ)

def s119 (Ψ : AVal → Heap → Prop) (yield : AVal) (c0 : AVal) (h : Heap) : Prop :=
 ldN 16 h c0 fun l_ =>
 callG prog 83 [(.agg l_), (.int .i64 0)] h fun v h_ =>
 tTup v fun l_1 =>
 tCons l_1 fun v1 l_2 =>
 tInt .i64 v1 fun v2 =>
 tCons l_2 fun v3 l_3 =>
 tBool v3 fun v4 =>
 tNil l_3 (
 s119l1_E (s119l1 Ψ) yield c0 v2 v4 h_)

def s119_A (Ψ : AVal → Heap → Prop) : Ann :=
 .seq (rA 7)
 (.block (loopK [0, 1, 3, 4] s119l1_K (s119l1 Ψ) (fun L1 =>
 .seq (.seq (rA 1)
 (.cond (.leaf)
 (.leaf)))
 (.seq (.block (.seq (rA 4)
 (.cond (.leaf)
 (.leaf))))
 (rA 9)))))

theorem s119_ok {Ψ : AVal → Heap → Prop} {yield : AVal} {c0 : AVal} {h : Heap} (H : s119 Ψ yield c0 h) : ACalls prog 119 [yield, c0] h Ψ :=
 calls_of_evF func119 (by kernel_rfl) (by kernel_rfl) (by kernel_rfl)
 (Eq.mpr (by as_aux_lemma => kernel_rfl : oblF prog f119 (s119_A Ψ) Ψ = ((True) ∧ ((NK s119l1_K (s119l1 Ψ 0)) ∧ (∀ n1 : Nat, (QK s119l1_K (s119l1 Ψ (n1 + 1))) ∧ (otP 715))))) (⟨trivial, ⟨fun _ _ _ _ _ H => H, fun _ => ⟨oI, otP_ok 715⟩⟩⟩))
 (Eq.mpr (by as_aux_lemma => kernel_rfl : evF prog f119 (s119_A Ψ) Ψ [yield, c0] h = s119 Ψ yield c0 h) H)

/- 121 dictum/dictumref03.Word -/
abbrev s121l2_T := ByteArray → Int → Heap → Prop
abbrev s121l2_K : List Kd := [.str, .int .i64]
def s121l2_G (F : s121l2_T) : s121l2_T := GK s121l2_K F
def s121l2_E (F : Nat → s121l2_T) : s121l2_T := EK s121l2_K F
theorem s121l2_go {F : s121l2_T} {x0 : ByteArray} {x1 : Int} {h : Heap} (H : F x0 x1 h) : s121l2_G F x0 x1 h := gJ_plain rfl H
theorem s121l2_in {F : Nat → s121l2_T} {x0 : ByteArray} {x1 : Int} {h : Heap} (n : Nat) (H : F n x0 x1 h) : s121l2_E F x0 x1 h := gJ_plain rfl ⟨n, H⟩

abbrev s121c3_K : List Kd := [.str, .int .i64, .bool]
def s121c3 (Ψ : AVal → Heap → Prop) (L2 : s121l2_T) (s3 : ByteArray) (i1 : Int) (t55 : Bool) (h : Heap) : Prop :=
 ifT t55 (
 retG (.bool false) h Ψ) (
 rg (i1 + 1) (
 L2 s3 (i1 + 1) h))

abbrev s121l4_T := ByteArray → AVal → Int → Heap → Prop
abbrev s121l4_K : List Kd := [.str, .any, .int .i64]
def s121l4_G (F : s121l4_T) : s121l4_T := GK s121l4_K F
def s121l4_E (F : Nat → s121l4_T) : s121l4_T := EK s121l4_K F
theorem s121l4_go {F : s121l4_T} {x0 : ByteArray} {x1 : AVal} {x2 : Int} {h : Heap} (H : F x0 x1 x2 h) : s121l4_G F x0 x1 x2 h := gJ_plain rfl H
theorem s121l4_in {F : Nat → s121l4_T} {x0 : ByteArray} {x1 : AVal} {x2 : Int} {h : Heap} (n : Nat) (H : F n x0 x1 x2 h) : s121l4_E F x0 x1 x2 h := gJ_plain rfl ⟨n, H⟩

def s121l4 (Ψ : AVal → Heap → Prop) : Nat → s121l4_T
 | 0, _, _, _, _ => False
 | n1 + 1, s4, l_, i2, h =>
 lenN l_ fun n2 =>
 ifT (decide (i2 < n2)) (
 ixS 1 l_ i2 fun p =>
 ld1 h p fun v3 =>
 tStr v3 fun v4 =>
 ifT (strEq v4 s4) (
 retG (.bool false) h Ψ) (
 rg (i2 + 1) (
 s121l4_G (s121l4 Ψ n1) s4 l_ (i2 + 1) h))) (
 retG (.bool true) h Ψ)

def s121l2 (Ψ : AVal → Heap → Prop) : Nat → s121l2_T
 | 0, _, _, _ => False
 | n + 1, s2, i, h =>
 ifT (decide (i < (s2.size : Int))) (
 ((0 : Int) ≤ i ∧ i < (s2.size : Int)) ∧
 callG prog 141 [(.int .u8 (btA s2 i))] h fun v h_ =>
 tBool v fun v1 =>
 ifT (!v1) (
 ((0 : Int) ≤ i ∧ i < (s2.size : Int)) ∧
 ifT (decide (48 ≤ (btA s2 i))) (
 ((0 : Int) ≤ i ∧ i < (s2.size : Int)) ∧
 ifT (!(decide ((btA s2 i) ≤ 57))) (
 ((0 : Int) ≤ i ∧ i < (s2.size : Int)) ∧
 ifT ((btA s2 i) != 95) (
 ((0 : Int) ≤ i ∧ i < (s2.size : Int)) ∧
 s121c3 Ψ (s121l2_G (s121l2 Ψ n)) s2 i ((btA s2 i) != 39) h_) (
 s121c3 Ψ (s121l2_G (s121l2 Ψ n)) s2 i false h_)) (
 s121c3 Ψ (s121l2_G (s121l2 Ψ n)) s2 i false h_)) (
 ((0 : Int) ≤ i ∧ i < (s2.size : Int)) ∧
 ifT ((btA s2 i) != 95) (
 ((0 : Int) ≤ i ∧ i < (s2.size : Int)) ∧
 s121c3 Ψ (s121l2_G (s121l2 Ψ n)) s2 i ((btA s2 i) != 39) h_) (
 s121c3 Ψ (s121l2_G (s121l2 Ψ n)) s2 i false h_))) (
 s121c3 Ψ (s121l2_G (s121l2 Ψ n)) s2 i false h_)) (
 callG prog 142 [] h fun v2 h_1 =>
 s121l4_E (s121l4 Ψ) s2 v2 0 h_1)

abbrev s121c1_K : List Kd := [.str, .bool]
def s121c1 (Ψ : AVal → Heap → Prop) (s1 : ByteArray) (t19 : Bool) (h : Heap) : Prop :=
 ifT t19 (
 retG (.bool false) h Ψ) (
 s121l2_E (s121l2 Ψ) s1 1 h)

def s121 (Ψ : AVal → Heap → Prop) (s : ByteArray) (h : Heap) : Prop :=
 ifT (decide ((s.size : Int) < 1)) (
 s121c1 Ψ s true h) (
 ifT (decide (31 < (s.size : Int))) (
 s121c1 Ψ s true h) (
 ((0 : Int) ≤ 0 ∧ 0 < (s.size : Int)) ∧
 callG prog 141 [(.int .u8 (btA s 0))] h fun v5 h_2 =>
 tBool v5 fun v6 =>
 s121c1 Ψ s (!v6) h_2))

def s121_A (Ψ : AVal → Heap → Prop) : Ann :=
 .seq (rA 1)
 (.seq (cutK [0, 19] s121c1_K (s121c1 Ψ) (.reg [⟨none, [(0, false), (1, false), (2, false), (3, false)]⟩, ⟨some (9, false), [(4, false), (5, false), (6, false)]⟩, ⟨none, [(7, false), (8, false)]⟩, ⟨some (14, false), [(9, false), (10, false), (11, false), (12, false)]⟩, ⟨none, [(13, false)]⟩])
 (.cond (.seq (rA 1)
 (.leaf))
 (.leaf)))
 (.seq (.seq (rA 1)
 (.block (loopK [0, 3] s121l2_K (s121l2 Ψ) (fun L2 =>
 .seq (.seq (rA 4)
 (.cond (.leaf)
 (.leaf)))
 (.seq (.block (cutK [0, 3, 55] s121c3_K (s121c3 Ψ (LK s121l2_K L2)) (.reg [⟨none, [(0, false), (1, false), (2, false), (3, false), (4, false), (5, false)]⟩, ⟨some (31, true), [(6, false), (7, false), (8, false), (9, false), (10, false)]⟩, ⟨some (36, true), [(11, false), (12, false), (13, false), (14, false)]⟩, ⟨some (31, true), [(15, false), (16, false)]⟩, ⟨none, [(17, false), (18, false)]⟩, ⟨some (44, true), [(19, false), (20, false), (21, false), (22, false)]⟩, ⟨none, [(23, false), (24, false)]⟩, ⟨some (50, true), [(25, false), (26, false), (27, false), (28, false)]⟩, ⟨none, [(29, false)]⟩])
 (.cond (.seq (rA 1)
 (.leaf))
 (.leaf))))
 (rA 3))))))
 (.seq (rA 2)
 (.seq (.seq (rA 1)
 (.block (loopK [0, 4, 5] s121l4_K (s121l4 Ψ) (fun L4 =>
 .seq (.seq (rA 4)
 (.cond (.leaf)
 (.leaf)))
 (.seq (.block (.seq (rA 6)
 (.cond (.seq (rA 1)
 (.leaf))
 (.leaf))))
 (rA 3))))))
 (.seq (rA 1)
 (.leaf))))))

theorem s121_ok {Ψ : AVal → Heap → Prop} {s : ByteArray} {h : Heap} (H : s121 Ψ s h) : ACalls prog 121 [(.str s)] h Ψ :=
 calls_of_evF func121 (by kernel_rfl) (by kernel_rfl) (by kernel_rfl)
 (Eq.mpr (by as_aux_lemma => kernel_rfl : oblF prog f121 (s121_A Ψ) Ψ = ((True) ∧ (((True) ∧ ((QK s121c1_K (s121c1 Ψ)) ∧ (otP 3))) ∧ (((True) ∧ ((NK s121l2_K (s121l2 Ψ 0)) ∧ (∀ n2 : Nat, (QK s121l2_K (s121l2 Ψ (n2 + 1))) ∧ ((otP 5) ∧ (((True) ∧ ((QK s121c3_K (s121c3 Ψ (s121l2_G (s121l2 Ψ n2)))) ∧ (otP 3))) ∧ (True)))))) ∧ ((True) ∧ (((True) ∧ ((NK s121l4_K (s121l4 Ψ 0)) ∧ (∀ n4 : Nat, (QK s121l4_K (s121l4 Ψ (n4 + 1))) ∧ (otP 1739)))) ∧ (otP 1))))))) (⟨trivial, ⟨⟨trivial, ⟨oI, otP_ok 3⟩⟩, ⟨⟨trivial, ⟨fun _ _ _ H => H, fun _ => ⟨oI, ⟨otP_ok 5, ⟨⟨trivial, ⟨oI, otP_ok 3⟩⟩, trivial⟩⟩⟩⟩⟩, ⟨trivial, ⟨⟨trivial, ⟨fun _ _ _ _ H => H, fun _ => ⟨oI, otP_ok 1739⟩⟩⟩, otP_ok 1⟩⟩⟩⟩⟩))
 (Eq.mpr (by as_aux_lemma => kernel_rfl : evF prog f121 (s121_A Ψ) Ψ [(.str s)] h = s121 Ψ s h) H)

/- 126 slices.pdqsortOrdered[string] -/
abbrev s126l1_T := AVal → Int → Int → Int → Bool → Bool → Heap → Prop
abbrev s126l1_K : List Kd := [.any, .int .i64, .int .i64, .int .i64, .bool, .bool]
def s126l1_G (F : s126l1_T) : s126l1_T := GK s126l1_K F
def s126l1_E (F : Nat → s126l1_T) : s126l1_T := EK s126l1_K F
theorem s126l1_in {F : Nat → s126l1_T} {x0 : AVal} {x1 x2 x3 : Int} {x4 x5 : Bool} {h : Heap} (n : Nat) (H : F n x0 x1 x2 x3 x4 x5 h) : s126l1_E F x0 x1 x2 x3 x4 x5 h := gJ_plain rfl ⟨n, H⟩

abbrev s126c5_K : List Kd := [.any, .int .i64, .int .i64, .int .i64, .bool, .bool, .int .i64, .int .i64, .bool]
def s126c5 (Ψ : AVal → Heap → Prop) (L1 : s126l1_T) (data5 : AVal) (a5 b5 limit5 : Int) (wasBalanced4 wasPartitioned4 : Bool) (length3 pivot2 : Int) (t87 : Bool) (h : Heap) : Prop :=
 ifT t87 (
 callG prog 151 [data5, (.int .i64 a5), (.int .i64 b5), (.int .i64 pivot2)] h fun v7 h_3 =>
 tInt .i64 v7 fun v8 =>
 L1 data5 v8 b5 limit5 wasBalanced4 wasPartitioned4 h_3) (
 callG prog 152 [data5, (.int .i64 a5), (.int .i64 b5), (.int .i64 pivot2)] h fun v9 h_4 =>
 tTup v9 fun l_3 =>
 tCons l_3 fun v10 l_4 =>
 tInt .i64 v10 fun v11 =>
 tCons l_4 fun v12 l_5 =>
 tBool v12 fun v13 =>
 tNil l_5 (
 rg (v11 - a5) (
 rg (b5 - v11) (
 8 ≠ (0 : Int) ∧
 rg (Int.tdiv length3 8) (
 ifT (decide ((v11 - a5) < (b5 - v11))) (
 callG prog 126 [data5, (.int .i64 a5), (.int .i64 v11), (.int .i64 limit5)] h_4 fun v14 h_5 =>
 rg (v11 + 1) (
 L1 data5 (v11 + 1) b5 limit5 (decide ((Int.tdiv length3 8) ≤ (v11 - a5))) v13 h_5)) (
 rg (v11 + 1) (
 callG prog 126 [data5, (.int .i64 (v11 + 1)), (.int .i64 b5), (.int .i64 limit5)] h_4 fun v15 h_6 =>
 L1 data5 a5 v11 limit5 (decide ((Int.tdiv length3 8) ≤ (b5 - v11))) v13 h_6)))))))

abbrev s126c4_K : List Kd := [.any, .int .i64, .int .i64, .int .i64, .bool, .bool, .int .i64, .int .i64]
def s126c4 (Ψ : AVal → Heap → Prop) (L1 : s126l1_T) (data4 : AVal) (a4 b4 limit4 : Int) (wasBalanced3 wasPartitioned3 : Bool) (length2 pivot1 : Int) (h : Heap) : Prop :=
 ifT (decide (0 < a4)) (
 rg (a4 - 1) (
 ixS 1 data4 (a4 - 1) fun p =>
 ld1 h p fun v16 =>
 tStr v16 fun v17 =>
 ixS 1 data4 pivot1 fun p1 =>
 ld1 h p1 fun v18 =>
 tStr v18 fun v19 =>
 callG prog 150 [(.str v17), (.str v19)] h fun v20 h_7 =>
 tBool v20 fun v21 =>
 s126c5 Ψ L1 data4 a4 b4 limit4 wasBalanced3 wasPartitioned3 length2 pivot1 (!v21) h_7)) (
 s126c5 Ψ L1 data4 a4 b4 limit4 wasBalanced3 wasPartitioned3 length2 pivot1 false h)

abbrev s126c6_K : List Kd := [.any, .int .i64, .int .i64, .int .i64, .bool, .bool, .int .i64, .int .i64, .bool]
def s126c6 (Ψ : AVal → Heap → Prop) (L1 : s126l1_T) (data6 : AVal) (a6 b6 limit6 : Int) (wasBalanced5 wasPartitioned5 : Bool) (length4 pivot3 : Int) (t68 : Bool) (h : Heap) : Prop :=
 ifT t68 (
 callG prog 149 [data6, (.int .i64 a6), (.int .i64 b6)] h fun v22 h_8 =>
 tBool v22 fun v23 =>
 ifT v23 (
 retG (.tuple []) h_8 Ψ) (
 s126c4 Ψ L1 data6 a6 b6 limit6 wasBalanced5 wasPartitioned5 length4 pivot3 h_8)) (
 s126c4 Ψ L1 data6 a6 b6 limit6 wasBalanced5 wasPartitioned5 length4 pivot3 h)

abbrev s126c3_K : List Kd := [.any, .int .i64, .int .i64, .int .i64, .bool, .bool, .int .i64, .int .i64, .int .i64]
def s126c3 (Ψ : AVal → Heap → Prop) (L1 : s126l1_T) (data3 : AVal) (a3 b3 limit3 : Int) (wasBalanced2 wasPartitioned2 : Bool) (length1 pivot hint : Int) (h : Heap) : Prop :=
 ifT wasBalanced2 (
 ifT wasPartitioned2 (
 s126c6 Ψ L1 data3 a3 b3 limit3 wasBalanced2 wasPartitioned2 length1 pivot (hint == 1) h) (
 s126c6 Ψ L1 data3 a3 b3 limit3 wasBalanced2 wasPartitioned2 length1 pivot false h)) (
 s126c6 Ψ L1 data3 a3 b3 limit3 wasBalanced2 wasPartitioned2 length1 pivot false h)

abbrev s126c2_K : List Kd := [.any, .int .i64, .int .i64, .int .i64, .bool, .bool, .int .i64]
def s126c2 (Ψ : AVal → Heap → Prop) (L1 : s126l1_T) (data2 : AVal) (a2 b2 limit2 : Int) (wasBalanced1 wasPartitioned1 : Bool) (length : Int) (h : Heap) : Prop :=
 callG prog 147 [data2, (.int .i64 a2), (.int .i64 b2)] h fun v2 h_2 =>
 tTup v2 fun l_ =>
 tCons l_ fun v3 l_1 =>
 tInt .i64 v3 fun v4 =>
 tCons l_1 fun v5 l_2 =>
 tInt .i64 v5 fun v6 =>
 tNil l_2 (
 ifT (v6 == 2) (
 callG prog 148 [data2, (.int .i64 a2), (.int .i64 b2)] h_2 fun v24 h_9 =>
 rg (b2 - 1) (
 rg (v4 - a2) (
 rg ((b2 - 1) - (v4 - a2)) (
 s126c3 Ψ L1 data2 a2 b2 limit2 wasBalanced1 wasPartitioned1 length ((b2 - 1) - (v4 - a2)) 1 h_9)))) (
 s126c3 Ψ L1 data2 a2 b2 limit2 wasBalanced1 wasPartitioned1 length v4 v6 h_2))

def s126l1 (Ψ : AVal → Heap → Prop) : Nat → s126l1_T
 | 0, _, _, _, _, _, _, _ => False
 | n + 1, data1, a1, b1, limit1, wasBalanced, wasPartitioned, h =>
 rg (b1 - a1) (
 ifT (decide ((b1 - a1) ≤ 12)) (
 callG prog 144 [data1, (.int .i64 a1), (.int .i64 b1)] h fun v h_ =>
 retG (.tuple []) h_ Ψ) (
 ifT (limit1 == 0) (
 callG prog 145 [data1, (.int .i64 a1), (.int .i64 b1)] h fun v1 h_1 =>
 retG (.tuple []) h_1 Ψ) (
 ifT (!wasBalanced) (
 callG prog 146 [data1, (.int .i64 a1), (.int .i64 b1)] h fun v25 h_10 =>
 rg (limit1 - 1) (
 s126c2 Ψ (s126l1_G (s126l1 Ψ n)) data1 a1 b1 (limit1 - 1) wasBalanced wasPartitioned (b1 - a1) h_10)) (
 s126c2 Ψ (s126l1_G (s126l1 Ψ n)) data1 a1 b1 limit1 wasBalanced wasPartitioned (b1 - a1) h))))

def s126 (Ψ : AVal → Heap → Prop) (data : AVal) (a : Int) (b : Int) (limit : Int) (h : Heap) : Prop :=
 s126l1_E (s126l1 Ψ) data a b limit true true h

def s126_A (Ψ : AVal → Heap → Prop) : Ann :=
 .seq (rA 1)
 (.seq (rA 1)
 (.block (loopK [0, 1, 2, 3, 8, 9] s126l1_K (s126l1 Ψ) (fun L1 =>
 .block (.seq (rA 4)
 (.seq (.seq (rA 2)
 (.cond (.seq (rA 4)
 (.leaf))
 (.leaf)))
 (.seq (.seq (rA 2)
 (.cond (.seq (rA 4)
 (.leaf))
 (.leaf)))
 (cutK [0, 1, 2, 3, 8, 9, 10] s126c2_K (s126c2 Ψ (LK s126l1_K L1)) (.seq (rA 2)
 (.cond (.seq (rA 4)
 (rA 3))
 (.leaf)))
 (.seq (rA 9)
 (cutK [0, 1, 2, 3, 8, 9, 10, 11, 12] s126c3_K (s126c3 Ψ (LK s126l1_K L1)) (.seq (rA 2)
 (.cond (.seq (rA 4)
 (.seq (rA 7)
 (rA 1)))
 (.leaf)))
 (cutK [0, 1, 2, 3, 8, 9, 10, 11] s126c4_K (s126c4 Ψ (LK s126l1_K L1)) (cutK [0, 1, 2, 3, 8, 9, 10, 11, 68] s126c6_K (s126c6 Ψ (LK s126l1_K L1)) (.reg [⟨none, [(0, false), (1, false)]⟩, ⟨some (62, true), [(2, false)]⟩, ⟨none, [(3, false), (4, false)]⟩, ⟨some (65, true), [(5, false), (6, false)]⟩, ⟨none, [(7, false)]⟩])
 (.cond (.seq (rA 4)
 (.cond (.leaf)
 (.leaf)))
 (.leaf)))
 (.seq (cutK [0, 1, 2, 3, 8, 9, 10, 11, 87] s126c5_K (s126c5 Ψ (LK s126l1_K L1)) (.draw [(0, false), (1, false), (2, false), (3, false), (4, false), (5, false), (6, false), (7, false), (8, false), (9, false), (10, false), (11, false), (12, false), (13, false), (14, false)] [0, 1, 3, 7, 7, 23, 63, 127, 7, 7, 775, 1799, 4095, 8191, 16383])
 (.cond (.seq (rA 6)
 (.seq (rA 2)
 (.leaf)))
 (.leaf)))
 (.seq (rA 10)
 (.seq (rA 2)
 (.seq (rA 8)
 (.seq (rA 3)
 (.seq (rA 3)
 (.cond (.seq (rA 4)
 (.seq (rA 5)
 (rA 3)))
 (.seq (rA 4)
 (.seq (rA 6)
 (rA 2)))))))))))))))))))))

theorem s126_ok {Ψ : AVal → Heap → Prop} {data : AVal} {a : Int} {b : Int} {limit : Int} {h : Heap} (H : s126 Ψ data a b limit h) : ACalls prog 126 [data, (.int .i64 a), (.int .i64 b), (.int .i64 limit)] h Ψ :=
 calls_of_evF func126 (by kernel_rfl) (by kernel_rfl) (by kernel_rfl)
 (Eq.mpr (by as_aux_lemma => kernel_rfl : oblF prog f126 (s126_A Ψ) Ψ = ((True) ∧ ((True) ∧ ((NK s126l1_K (s126l1 Ψ 0)) ∧ (∀ n1 : Nat, (QK s126l1_K (s126l1 Ψ (n1 + 1))) ∧ ((True) ∧ ((otP 13) ∧ ((otP 13) ∧ ((otP 13) ∧ ((QK s126c2_K (s126c2 Ψ (s126l1_G (s126l1 Ψ n1)))) ∧ ((True) ∧ ((otP 45) ∧ ((QK s126c3_K (s126c3 Ψ (s126l1_G (s126l1 Ψ n1)))) ∧ (((True) ∧ ((QK s126c6_K (s126c6 Ψ (s126l1_G (s126l1 Ψ n1)))) ∧ (otP 11))) ∧ ((QK s126c4_K (s126c4 Ψ (s126l1_G (s126l1 Ψ n1)))) ∧ (((True) ∧ ((QK s126c5_K (s126c5 Ψ (s126l1_G (s126l1 Ψ n1)))) ∧ (otP 11))) ∧ (otP 339285))))))))))))))))) (⟨trivial, ⟨trivial, ⟨fun _ _ _ _ _ _ _ H => H, fun _ => ⟨oI, ⟨trivial, ⟨otP_ok 13, ⟨otP_ok 13, ⟨otP_ok 13, ⟨oI, ⟨trivial, ⟨otP_ok 45, ⟨oI, ⟨⟨trivial, ⟨oI, otP_ok 11⟩⟩, ⟨oI, ⟨⟨trivial, ⟨oI, otP_ok 11⟩⟩, otP_ok 339285⟩⟩⟩⟩⟩⟩⟩⟩⟩⟩⟩⟩⟩⟩⟩))
 (Eq.mpr (by as_aux_lemma => kernel_rfl : evF prog f126 (s126_A Ψ) Ψ [data, (.int .i64 a), (.int .i64 b), (.int .i64 limit)] h = s126 Ψ data a b limit h) H)

/- 128 dictum/formula.Word -/
abbrev s128l1_T := ByteArray → Int → Int → Heap → Prop
abbrev s128l1_K : List Kd := [.str, .int .i64, .int .i64]
def s128l1_G (F : s128l1_T) : s128l1_T := GK s128l1_K F
def s128l1_E (F : Nat → s128l1_T) : s128l1_T := EK s128l1_K F
theorem s128l1_go {F : s128l1_T} {x0 : ByteArray} {x1 x2 : Int} {h : Heap} (H : F x0 x1 x2 h) : s128l1_G F x0 x1 x2 h := gJ_plain rfl H
theorem s128l1_in {F : Nat → s128l1_T} {x0 : ByteArray} {x1 x2 : Int} {h : Heap} (n : Nat) (H : F n x0 x1 x2 h) : s128l1_E F x0 x1 x2 h := gJ_plain rfl ⟨n, H⟩

abbrev s128c3_K : List Kd := [.str, .int .i64, .int .i64, .bool]
def s128c3 (Ψ : AVal → Heap → Prop) (L1 : s128l1_T) (name3 : ByteArray) (t8_2 t9_2 : Int) (t44 : Bool) (h : Heap) : Prop :=
 ifT t44 (
 retG (.bool false) h Ψ) (
 rg (t9_2 + 1) (
 L1 name3 t8_2 (t9_2 + 1) h))

abbrev s128c2_K : List Kd := [.str, .int .i64, .int .u8, .bool, .int .i64, .int .i64]
def s128c2 (Ψ : AVal → Heap → Prop) (L1 : s128l1_T) (name2 : ByteArray) (i c : Int) (letter : Bool) (t8_1 t9_1 : Int) (h : Heap) : Prop :=
 ifT (!letter) (
 ifT (i == 0) (
 s128c3 Ψ L1 name2 t8_1 t9_1 true h) (
 ifT (c != 95) (
 ifT (c != 39) (
 ifT (decide (c < 48)) (
 s128c3 Ψ L1 name2 t8_1 t9_1 true h) (
 s128c3 Ψ L1 name2 t8_1 t9_1 (decide (57 < c)) h)) (
 s128c3 Ψ L1 name2 t8_1 t9_1 false h)) (
 s128c3 Ψ L1 name2 t8_1 t9_1 false h))) (
 s128c3 Ψ L1 name2 t8_1 t9_1 false h)

def s128l1 (Ψ : AVal → Heap → Prop) : Nat → s128l1_T
 | 0, _, _, _, _ => False
 | n + 1, name1, t8, t9, h =>
 ifT (decide (t9 < t8)) (
 ((0 : Int) ≤ t9 ∧ t9 < (name1.size : Int)) ∧
 ifT (decide (97 ≤ (bitsI .or .u8 (btA name1 t9) 32))) (
 s128c2 Ψ (s128l1_G (s128l1 Ψ n)) name1 t9 (btA name1 t9) (decide ((bitsI .or .u8 (btA name1 t9) 32) ≤ 122)) t8 t9 h) (
 s128c2 Ψ (s128l1_G (s128l1 Ψ n)) name1 t9 (btA name1 t9) false t8 t9 h)) (
 ifT (!strEq name1 (ByteArray.mk #[])) (
 ifT (decide ((name1.size : Int) ≤ 31)) (
 callG prog 155 [(.str name1)] h fun v h_ =>
 tBool v fun v1 =>
 retG (.bool (!v1)) h_ Ψ) (
 retG (.bool false) h Ψ)) (
 retG (.bool false) h Ψ))

def s128 (Ψ : AVal → Heap → Prop) (name : ByteArray) (h : Heap) : Prop :=
 s128l1_E (s128l1 Ψ) name (name.size : Int) 0 h

def s128_A (Ψ : AVal → Heap → Prop) : Ann :=
 .seq (rA 1)
 (.seq (.seq (rA 3)
 (.block (loopK [0, 8, 9] s128l1_K (s128l1 Ψ) (fun L1 =>
 .seq (rA 1)
 (.seq (.cond (.leaf)
 (.leaf))
 (.seq (.block (.seq (rA 2)
 (.seq (rA 4)
 (.seq (rA 3)
 (cutK [0, 3, 4, 6, 8, 9] s128c2_K (s128c2 Ψ (LK s128l1_K L1)) (.reg [⟨none, [(0, false), (1, false), (2, false)]⟩, ⟨some (19, true), [(3, false), (4, false)]⟩, ⟨none, [(5, false), (6, false)]⟩])
 (cutK [0, 8, 9, 44] s128c3_K (s128c3 Ψ (LK s128l1_K L1)) (.reg [⟨none, [(0, false), (1, false), (2, false)]⟩, ⟨some (25, true), [(3, false), (4, false), (5, false)]⟩, ⟨some (28, false), [(6, false), (7, false), (8, false)]⟩, ⟨some (31, true), [(9, false), (10, false)]⟩, ⟨some (28, false), [(11, false), (12, false)]⟩, ⟨some (35, true), [(13, false), (14, false), (15, false)]⟩, ⟨some (38, false), [(16, false), (17, false)]⟩, ⟨some (35, true), [(18, false)]⟩, ⟨some (28, false), [(19, false)]⟩, ⟨some (25, true), [(20, false)]⟩, ⟨none, [(21, false)]⟩])
 (.cond (.seq (rA 1)
 (.leaf))
 (.leaf))))))))
 (rA 2)))))))
 (.seq (.reg [⟨none, [(0, false), (1, false), (2, false)]⟩, ⟨some (48, true), [(3, false), (4, false), (5, false)]⟩, ⟨none, [(6, false), (7, false)]⟩, ⟨some (53, true), [(8, false), (9, false), (10, false)]⟩, ⟨none, [(11, false), (12, false)]⟩])
 (.leaf)))

theorem s128_ok {Ψ : AVal → Heap → Prop} {name : ByteArray} {h : Heap} (H : s128 Ψ name h) : ACalls prog 128 [(.str name)] h Ψ :=
 calls_of_evF func128 (by kernel_rfl) (by kernel_rfl) (by kernel_rfl)
 (Eq.mpr (by as_aux_lemma => kernel_rfl : oblF prog f128 (s128_A Ψ) Ψ = ((True) ∧ (((True) ∧ ((NK s128l1_K (s128l1 Ψ 0)) ∧ (∀ n1 : Nat, (QK s128l1_K (s128l1 Ψ (n1 + 1))) ∧ ((True) ∧ ((otP 1) ∧ (((True) ∧ ((True) ∧ ((True) ∧ ((True) ∧ ((QK s128c2_K (s128c2 Ψ (s128l1_G (s128l1 Ψ n1)))) ∧ ((True) ∧ ((QK s128c3_K (s128c3 Ψ (s128l1_G (s128l1 Ψ n1)))) ∧ (otP 3)))))))) ∧ (True))))))) ∧ (otP 1)))) (⟨trivial, ⟨⟨trivial, ⟨fun _ _ _ _ H => H, fun _ => ⟨oI, ⟨trivial, ⟨otP_ok 1, ⟨⟨trivial, ⟨trivial, ⟨trivial, ⟨trivial, ⟨oI, ⟨trivial, ⟨oI, otP_ok 3⟩⟩⟩⟩⟩⟩⟩, trivial⟩⟩⟩⟩⟩⟩, otP_ok 1⟩⟩))
 (Eq.mpr (by as_aux_lemma => kernel_rfl : evF prog f128 (s128_A Ψ) Ψ [(.str name)] h = s128 Ψ name h) H)

/- 130 dictum/worlds.reckon -/
abbrev s130l1_T := AVal → Int → AVal → Int → Int → Heap → Prop
abbrev s130l1_K : List Kd := [.any, .int .i64, .any, .int .i64, .int .i64]
def s130l1_G (F : s130l1_T) : s130l1_T := GK s130l1_K F
def s130l1_E (F : Nat → s130l1_T) : s130l1_T := EK s130l1_K F
theorem s130l1_in {F : Nat → s130l1_T} {x0 : AVal} {x1 : Int} {x2 : AVal} {x3 x4 : Int} {h : Heap} (n : Nat) (H : F n x0 x1 x2 x3 x4 h) : s130l1_E F x0 x1 x2 x3 x4 h := gJ_plain rfl ⟨n, H⟩

abbrev s130l2_T := AVal → Int → AVal → AVal → AVal → Int → Int → Heap → Prop
abbrev s130l2_K : List Kd := [.any, .int .i64, .any, .any, .any, .int .i64, .int .i64]
def s130l2_G (F : s130l2_T) : s130l2_T := GK s130l2_K F
def s130l2_E (F : Nat → s130l2_T) : s130l2_T := EK s130l2_K F
theorem s130l2_go {F : s130l2_T} {x0 : AVal} {x1 : Int} {x2 x3 x4 : AVal} {x5 x6 : Int} {h : Heap} (H : F x0 x1 x2 x3 x4 x5 x6 h) : s130l2_G F x0 x1 x2 x3 x4 x5 x6 h := gJ_plain rfl H
theorem s130l2_in {F : Nat → s130l2_T} {x0 : AVal} {x1 : Int} {x2 x3 x4 : AVal} {x5 x6 : Int} {h : Heap} (n : Nat) (H : F n x0 x1 x2 x3 x4 x5 x6 h) : s130l2_E F x0 x1 x2 x3 x4 x5 x6 h := gJ_plain rfl ⟨n, H⟩

abbrev s130l3_T := AVal → Int → AVal → AVal → AVal → Int → Int → AVal → Int → Int → Heap → Prop
abbrev s130l3_K : List Kd := [.any, .int .i64, .any, .any, .any, .int .i64, .int .i64, .any, .int .i64, .int .i64]
def s130l3_G (F : s130l3_T) : s130l3_T := GK s130l3_K F
def s130l3_E (F : Nat → s130l3_T) : s130l3_T := EK s130l3_K F
theorem s130l3_go {F : s130l3_T} {x0 : AVal} {x1 : Int} {x2 x3 x4 : AVal} {x5 x6 : Int} {x7 : AVal} {x8 x9 : Int} {h : Heap} (H : F x0 x1 x2 x3 x4 x5 x6 x7 x8 x9 h) : s130l3_G F x0 x1 x2 x3 x4 x5 x6 x7 x8 x9 h := gJ_plain rfl H
theorem s130l3_in {F : Nat → s130l3_T} {x0 : AVal} {x1 : Int} {x2 x3 x4 : AVal} {x5 x6 : Int} {x7 : AVal} {x8 x9 : Int} {h : Heap} (n : Nat) (H : F n x0 x1 x2 x3 x4 x5 x6 x7 x8 x9 h) : s130l3_E F x0 x1 x2 x3 x4 x5 x6 x7 x8 x9 h := gJ_plain rfl ⟨n, H⟩

abbrev s130c4_K : List Kd := [.any, .int .i64, .any, .any, .any, .int .i64, .int .i64, .any, .int .i64, .int .i64]
def s130c4 (Ψ : AVal → Heap → Prop) (L1 : s130l1_T) (L2 : s130l2_T) (L3 : s130l3_T) (m3 : AVal) (n12 : Int) (above3 row2 stack2 : AVal) (t18_3 t19_3 : Int) (t51_1 : AVal) (t52_1 t53_1 : Int) (h : Heap) : Prop :=
 rg (t53_1 + 1) (
 L3 m3 n12 above3 row2 stack2 t18_3 t19_3 t51_1 t52_1 (t53_1 + 1) h)

abbrev s130c5_K : List Kd := [.any, .int .i64, .any, .any, .any, .int .i64, .int .i64, .int .i64, .any, .int .i64, .int .i64, .bool]
def s130c5 (Ψ : AVal → Heap → Prop) (L1 : s130l1_T) (L2 : s130l2_T) (L3 : s130l3_T) (m4 : AVal) (n13 : Int) (above4 row3 stack3 : AVal) (b t18_4 t19_4 : Int) (t51_2 : AVal) (t52_2 t53_2 : Int) (t63 : Bool) (h : Heap) : Prop :=
 ifT t63 (
 retG (.tuple [.nilfunc, (.bool false)]) h Ψ) (
 ixS 1 row3 b fun p6 =>
 ld1 h p6 fun v11 =>
 tBool v11 fun v12 =>
 ifT (!v12) (
 ixS 1 row3 b fun p7 =>
 st true h p7 [(.bool true)] fun h_7 =>
 appC 1 8 h_7 stack3 (.lsl 1 [(.int .i64 b)]) fun v13 h_8 =>
 s130c4 Ψ L1 L2 L3 m4 n13 above4 row3 v13 t18_4 t19_4 t51_2 t52_2 t53_2 h_8) (
 s130c4 Ψ L1 L2 L3 m4 n13 above4 row3 stack3 t18_4 t19_4 t51_2 t52_2 t53_2 h))

def s130l3 (Ψ : AVal → Heap → Prop) (L1 : s130l1_T) (L2 : s130l2_T) : Nat → s130l3_T
 | 0, _, _, _, _, _, _, _, _, _, _, _ => False
 | n11 + 1, m2, n10, above2, row1, stack1, t18_2, t19_2, t51, t52, t53, h =>
 ifT (decide (t53 < t52)) (
 ixS 1 t51 t53 fun p5 =>
 ld1 h p5 fun v9 =>
 tInt .i64 v9 fun v10 =>
 ifT (decide (v10 < 0)) (
 s130c5 Ψ L1 L2 (s130l3_G (s130l3 Ψ L1 L2 n11)) m2 n10 above2 row1 stack1 v10 t18_2 t19_2 t51 t52 t53 true h) (
 s130c5 Ψ L1 L2 (s130l3_G (s130l3 Ψ L1 L2 n11)) m2 n10 above2 row1 stack1 v10 t18_2 t19_2 t51 t52 t53 (decide (n10 ≤ v10)) h)) (
 L2 m2 n10 above2 row1 stack1 t18_2 t19_2 h)

def s130l2 (Ψ : AVal → Heap → Prop) (L1 : s130l1_T) : Nat → s130l2_T
 | 0, _, _, _, _, _, _, _, _ => False
 | n5 + 1, m1, n4, above1, row, stack, t18_1, t19_1, h =>
 lenN stack fun n6 =>
 ifT (decide (0 < n6)) (
 lenN stack fun n7 =>
 rg (n7 - 1) (
 ixS 1 stack (n7 - 1) fun p2 =>
 ld1 h p2 fun v4 =>
 tInt .i64 v4 fun v5 =>
 lenN stack fun n8 =>
 rg (n8 - 1) (
 slX 1 stack 0 (some (n8 - 1)) fun v6 =>
 addOff m1 0 fun p3 =>
 ld1 h p3 fun v7 =>
 ixS 1 v7 v5 fun p4 =>
 ld1 h p4 fun v8 =>
 lenN v8 fun n9 =>
 s130l3_E (s130l3 Ψ L1 (s130l2_G (s130l2 Ψ L1 n5))) m1 n4 above1 row v6 t18_1 t19_1 v8 n9 0 h))) (
 rg (t19_1 + 1) (
 L1 m1 n4 above1 t18_1 (t19_1 + 1) h))

def s130l1 (Ψ : AVal → Heap → Prop) : Nat → s130l1_T
 | 0, _, _, _, _, _, _ => False
 | n3 + 1, m, n2, above, t18, t19, h =>
 ifT (decide (t19 < t18)) (
 mkS false 1 1 (.bool false) h n2 n2 fun v2 h_3 =>
 ld1 h_3 above fun v3 =>
 ixS 1 v3 t19 fun p =>
 chk (sc v2) (
 st true h_3 p [v2] fun h_4 =>
 ixS 1 v2 t19 fun p1 =>
 st true h_4 p1 [(.bool true)] fun h_5 =>
 Sym.newRow 1 [(.int .i64 t19)] h_5 fun r1 h_6 =>
 s130l2_E (s130l2 Ψ (s130l1_G (s130l1 Ψ n3))) m n2 above v2 (.sl r1 1 0 1) t18 t19 h_6)) (
 retG (.tuple [(.func (.func 156) [] [above]), (.bool true)]) h Ψ)

def s130 (Ψ : AVal → Heap → Prop) (m_Up : AVal) (m_Val : AVal) (h : Heap) : Prop :=
 lenN m_Up fun n =>
 mkS false 1 24 .nilsl h n n fun v h_ =>
 Sym.newRow 1 [.nilsl] h_ fun r h_1 =>
 chk (sc v) (
 st true h_1 (.ptr r 0 0) [v] fun h_2 =>
 ld1 h_2 (.ptr r 0 0) fun v1 =>
 lenN v1 fun n1 =>
 s130l1_E (s130l1 Ψ) (.lptr [m_Up, m_Val]) n (.ptr r 0 0) n1 0 h_2)

def s130_A (Ψ : AVal → Heap → Prop) : Ann :=
 .seq (.reg [⟨none, [(0, true), (1, false), (2, false)]⟩])
 (.seq (rA 4)
 (.seq (rA 4)
 (.seq (.seq (rA 3)
 (.block (loopK [1, 4, 5, 18, 19] s130l1_K (s130l1 Ψ) (fun L1 =>
 .seq (rA 1)
 (.seq (.cond (.leaf)
 (.leaf))
 (.seq (.block (.seq (rA 2)
 (.seq (rA 3)
 (.seq (rA 5)
 (.seq (rA 4)
 (.seq (rA 3)
 (.block (loopK [1, 4, 5, 7, 8, 18, 19] s130l2_K (s130l2 Ψ (LK s130l1_K L1)) (fun L2 =>
 .seq (.seq (rA 3)
 (.cond (.leaf)
 (.leaf)))
 (.block (.seq (rA 7)
 (.seq (rA 6)
 (.seq (rA 7)
 (.block (loopK [1, 4, 5, 7, 8, 18, 19, 51, 52, 53] s130l3_K (s130l3 Ψ (LK s130l1_K L1) (LK s130l2_K L2)) (fun L3 =>
 .seq (rA 1)
 (.seq (.cond (.leaf)
 (.leaf))
 (cutK [1, 4, 5, 7, 8, 18, 19, 51, 52, 53] s130c4_K (s130c4 Ψ (LK s130l1_K L1) (LK s130l2_K L2) (LK s130l3_K L3)) (.block (.seq (rA 3)
 (.seq (cutK [1, 4, 5, 7, 8, 11, 18, 19, 51, 52, 53, 63] s130c5_K (s130c5 Ψ (LK s130l1_K L1) (LK s130l2_K L2) (LK s130l3_K L3)) (.reg [⟨none, [(0, false), (1, false), (2, false)]⟩, ⟨some (59, false), [(3, false), (4, false), (5, false)]⟩, ⟨none, [(6, false)]⟩])
 (.cond (.seq (rA 2)
 (.leaf))
 (.leaf)))
 (.seq (rA 5)
 (.cond (.seq (rA 4)
 (.reg [⟨none, [(0, false), (1, false), (2, true), (3, false), (4, false)]⟩]))
 (.leaf))))))
 (rA 2)))))))))))))))))))
 (rA 2)))))))
 (.seq (rA 3)
 (.leaf)))))

theorem s130_ok {Ψ : AVal → Heap → Prop} {m_Up : AVal} {m_Val : AVal} {h : Heap} (H : s130 Ψ m_Up m_Val h) : ACalls prog 130 [(.agg [m_Up, m_Val])] h Ψ :=
 calls_of_evF func130 (by kernel_rfl) (by kernel_rfl) (by kernel_rfl)
 (Eq.mpr (by as_aux_lemma => kernel_rfl : oblF prog f130 (s130_A Ψ) Ψ = ((True) ∧ ((True) ∧ ((True) ∧ (((True) ∧ ((NK s130l1_K (s130l1 Ψ 0)) ∧ (∀ n1 : Nat, (QK s130l1_K (s130l1 Ψ (n1 + 1))) ∧ ((True) ∧ ((otP 1) ∧ (((True) ∧ ((True) ∧ ((True) ∧ ((True) ∧ ((True) ∧ ((NK s130l2_K (s130l2 Ψ (s130l1_G (s130l1 Ψ n1)) 0)) ∧ (∀ n2 : Nat, (QK s130l2_K (s130l2 Ψ (s130l1_G (s130l1 Ψ n1)) (n2 + 1))) ∧ ((otP 5) ∧ ((True) ∧ ((True) ∧ ((True) ∧ ((NK s130l3_K (s130l3 Ψ (s130l1_G (s130l1 Ψ n1)) (s130l2_G (s130l2 Ψ (s130l1_G (s130l1 Ψ n1)) n2)) 0)) ∧ (∀ n3 : Nat, (QK s130l3_K (s130l3 Ψ (s130l1_G (s130l1 Ψ n1)) (s130l2_G (s130l2 Ψ (s130l1_G (s130l1 Ψ n1)) n2)) (n3 + 1))) ∧ ((True) ∧ ((otP 1) ∧ (((True) ∧ (((True) ∧ ((QK s130c5_K (s130c5 Ψ (s130l1_G (s130l1 Ψ n1)) (s130l2_G (s130l2 Ψ (s130l1_G (s130l1 Ψ n1)) n2)) (s130l3_G (s130l3 Ψ (s130l1_G (s130l1 Ψ n1)) (s130l2_G (s130l2 Ψ (s130l1_G (s130l1 Ψ n1)) n2)) n3)))) ∧ (otP 3))) ∧ (otP 13))) ∧ ((QK s130c4_K (s130c4 Ψ (s130l1_G (s130l1 Ψ n1)) (s130l2_G (s130l2 Ψ (s130l1_G (s130l1 Ψ n1)) n2)) (s130l3_G (s130l3 Ψ (s130l1_G (s130l1 Ψ n1)) (s130l2_G (s130l2 Ψ (s130l1_G (s130l1 Ψ n1)) n2)) n3)))) ∧ (True)))))))))))))))))) ∧ (True))))))) ∧ (otP 1)))))) (⟨trivial, ⟨trivial, ⟨trivial, ⟨⟨trivial, ⟨fun _ _ _ _ _ _ H => H, fun _ => ⟨oI, ⟨trivial, ⟨otP_ok 1, ⟨⟨trivial, ⟨trivial, ⟨trivial, ⟨trivial, ⟨trivial, ⟨fun _ _ _ _ _ _ _ _ H => H, fun _ => ⟨oI, ⟨otP_ok 5, ⟨trivial, ⟨trivial, ⟨trivial, ⟨fun _ _ _ _ _ _ _ _ _ _ _ H => H, fun _ => ⟨oI, ⟨trivial, ⟨otP_ok 1, ⟨⟨trivial, ⟨⟨trivial, ⟨oI, otP_ok 3⟩⟩, otP_ok 13⟩⟩, ⟨oI, trivial⟩⟩⟩⟩⟩⟩⟩⟩⟩⟩⟩⟩⟩⟩⟩⟩⟩, trivial⟩⟩⟩⟩⟩⟩, otP_ok 1⟩⟩⟩⟩))
 (Eq.mpr (by as_aux_lemma => kernel_rfl : evF prog f130 (s130_A Ψ) Ψ [(.agg [m_Up, m_Val])] h = s130 Ψ m_Up m_Val h) H)

/- 132 slices.ContainsFunc[[]string,string] -/
def s132 (Ψ : AVal → Heap → Prop) (s : AVal) (f : AVal) (h : Heap) : Prop :=
 callG prog 157 [s, f] h fun v h_ =>
 tInt .i64 v fun v1 =>
 retG (.bool (decide (0 ≤ v1))) h_ Ψ

def s132_A (Ψ : AVal → Heap → Prop) : Ann :=
 .seq (rA 1)
 (.seq (rA 5)
 (.leaf))

theorem s132_ok {Ψ : AVal → Heap → Prop} {s : AVal} {f : AVal} {h : Heap} (H : s132 Ψ s f h) : ACalls prog 132 [s, f] h Ψ :=
 calls_of_evF func132 (by kernel_rfl) (by kernel_rfl) (by kernel_rfl)
 (Eq.mpr (by as_aux_lemma => kernel_rfl : oblF prog f132 (s132_A Ψ) Ψ = (otP 5)) (otP_ok 5))
 (Eq.mpr (by as_aux_lemma => kernel_rfl : evF prog f132 (s132_A Ψ) Ψ [s, f] h = s132 Ψ s f h) H)

/- 140 (*dictum/dictumref03.T).Find -/
abbrev s140l1_T := AVal → AVal → Int → Heap → Prop
abbrev s140l1_K : List Kd := [.any, .any, .int .i64]
def s140l1_G (F : s140l1_T) : s140l1_T := GK s140l1_K F
def s140l1_E (F : Nat → s140l1_T) : s140l1_T := EK s140l1_K F
theorem s140l1_go {F : s140l1_T} {x0 x1 : AVal} {x2 : Int} {h : Heap} (H : F x0 x1 x2 h) : s140l1_G F x0 x1 x2 h := gJ_plain rfl H
theorem s140l1_in {F : Nat → s140l1_T} {x0 x1 : AVal} {x2 : Int} {h : Heap} (n : Nat) (H : F n x0 x1 x2 h) : s140l1_E F x0 x1 x2 h := gJ_plain rfl ⟨n, H⟩

def s140l1 (Ψ : AVal → Heap → Prop) : Nat → s140l1_T
 | 0, _, _, _, _ => False
 | n1 + 1, t1, n, i, h =>
 nilCheckA t1 fun p =>
 addOff p 0 fun p1 =>
 ld1 h p1 fun v =>
 lenN v fun n2 =>
 ifT (decide (i < n2)) (
 nilCheckA t1 fun p2 =>
 addOff p2 0 fun p3 =>
 ld1 h p3 fun v1 =>
 ixS 4 v1 i fun p4 =>
 ldN 4 h p4 fun l_ =>
 tCons l_ fun v2 l_1 =>
 tInt .i64 v2 fun v3 =>
 tCons l_1 fun v4 l_2 =>
 tStr v4 fun v5 =>
 tCons l_2 fun v6 l_3 =>
 tInt .i64 v6 fun v7 =>
 tCons l_3 fun v8 l_4 =>
 tInt .i64 v8 fun v9 =>
 tNil l_4 (
 ldN 4 h n fun l_5 =>
 tCons l_5 fun v10 l_6 =>
 tInt .i64 v10 fun v11 =>
 tCons l_6 fun v12 l_7 =>
 tStr v12 fun v13 =>
 tCons l_7 fun v14 l_8 =>
 tInt .i64 v14 fun v15 =>
 tCons l_8 fun v16 l_9 =>
 tInt .i64 v16 fun v17 =>
 tNil l_9 (
 eqQ prog 83 (.agg [(.int .i64 v3), (.str v5), (.int .i64 v7), (.int .i64 v9)]) (.agg [(.int .i64 v11), (.str v13), (.int .i64 v15), (.int .i64 v17)]) fun b =>
 ifT b (
 retG (.tuple [(.int .i64 i), (.bool true)]) h Ψ) (
 rg (i + 1) (
 s140l1_G (s140l1 Ψ n1) t1 n (i + 1) h))))) (
 retG (.tuple [(.int .i64 0), (.bool false)]) h Ψ)

def s140 (Ψ : AVal → Heap → Prop) (t : AVal) (n_Kind : Int) (n_Name : ByteArray) (n_L : Int) (n_R : Int) (h : Heap) : Prop :=
 s140l1_E (s140l1 Ψ) t (.lptr [(.int .i64 n_Kind), (.str n_Name), (.int .i64 n_L), (.int .i64 n_R)]) 0 h

def s140_A (Ψ : AVal → Heap → Prop) : Ann :=
 .seq (.reg [⟨none, [(0, true), (1, false), (2, false)]⟩])
 (.seq (.seq (rA 1)
 (.block (loopK [0, 3, 6] s140l1_K (s140l1 Ψ) (fun L1 =>
 .seq (.seq (rA 7)
 (.cond (.leaf)
 (.leaf)))
 (.seq (.block (.seq (.draw [(0, false), (1, false), (2, false), (3, false), (4, false), (5, false), (6, false), (7, false), (8, false)] [0, 1, 3, 7, 0, 31, 63, 0, 255])
 (.cond (.seq (rA 3)
 (.leaf))
 (.leaf))))
 (rA 3))))))
 (.seq (rA 2)
 (.leaf)))

theorem s140_ok {Ψ : AVal → Heap → Prop} {t : AVal} {n_Kind : Int} {n_Name : ByteArray} {n_L : Int} {n_R : Int} {h : Heap} (H : s140 Ψ t n_Kind n_Name n_L n_R h) : ACalls prog 140 [t, (.agg [(.int .i64 n_Kind), (.str n_Name), (.int .i64 n_L), (.int .i64 n_R)])] h Ψ :=
 calls_of_evF func140 (by kernel_rfl) (by kernel_rfl) (by kernel_rfl)
 (Eq.mpr (by as_aux_lemma => kernel_rfl : oblF prog f140 (s140_A Ψ) Ψ = ((True) ∧ (((True) ∧ ((NK s140l1_K (s140l1 Ψ 0)) ∧ (∀ n1 : Nat, (QK s140l1_K (s140l1 Ψ (n1 + 1))) ∧ (otP 1739)))) ∧ (otP 1)))) (⟨trivial, ⟨⟨trivial, ⟨fun _ _ _ _ H => H, fun _ => ⟨oI, otP_ok 1739⟩⟩⟩, otP_ok 1⟩⟩))
 (Eq.mpr (by as_aux_lemma => kernel_rfl : evF prog f140 (s140_A Ψ) Ψ [t, (.agg [(.int .i64 n_Kind), (.str n_Name), (.int .i64 n_L), (.int .i64 n_R)])] h = s140 Ψ t n_Kind n_Name n_L n_R h) H)

/- 142 dictum/dictumref03.Reserved -/
def s142 (Ψ : AVal → Heap → Prop) (h : Heap) : Prop :=
 retG (.lsl 1 [(.str (ByteArray.mk #[97, 98, 111, 114, 116])), (.str (ByteArray.mk #[99, 97, 115, 101])), (.str (ByteArray.mk #[102, 97, 108, 115, 101])), (.str (ByteArray.mk #[102, 115, 116])), (.str (ByteArray.mk #[102, 117, 110])), (.str (ByteArray.mk #[105, 110])), (.str (ByteArray.mk #[105, 110, 108])), (.str (ByteArray.mk #[105, 110, 114])), (.str (ByteArray.mk #[108, 101, 116])), (.str (ByteArray.mk #[111, 102])), (.str (ByteArray.mk #[115, 110, 100])), (.str (ByteArray.mk #[116, 114, 117, 101]))]) h Ψ

def s142_A (Ψ : AVal → Heap → Prop) : Ann :=
 .seq (rA 1)
 (.seq (.reg [⟨none, [(0, true), (1, false)]⟩])
 (.leaf))

theorem s142_ok {Ψ : AVal → Heap → Prop} {h : Heap} (H : s142 Ψ  h) : ACalls prog 142 [] h Ψ :=
 calls_of_evF func142 (by kernel_rfl) (by kernel_rfl) (by kernel_rfl)
 (Eq.mpr (by as_aux_lemma => kernel_rfl : oblF prog f142 (s142_A Ψ) Ψ = (otP 5)) (otP_ok 5))
 (Eq.mpr (by as_aux_lemma => kernel_rfl : evF prog f142 (s142_A Ψ) Ψ [] h = s142 Ψ  h) H)

/- 154 math/bits.Len64 -/
abbrev s154c3_K : List Kd := [.int .u64, .int .i64]
def s154c3 (Ψ : AVal → Heap → Prop) (x3 n2 : Int) (h : Heap) : Prop :=
 ((0 : Int) ≤ (IntKind.u8.wrap x3) ∧ (IntKind.u8.wrap x3) < ((ByteArray.mk #[0, 1, 2, 2, 3, 3, 3, 3, 4, 4, 4, 4, 4, 4, 4, 4, 5, 5, 5, 5, 5, 5, 5, 5, 5, 5, 5, 5, 5, 5, 5, 5, 6, 6, 6, 6, 6, 6, 6, 6, 6, 6, 6, 6, 6, 6, 6, 6, 6, 6, 6, 6, 6, 6, 6, 6, 6, 6, 6, 6, 6, 6, 6, 6, 7, 7, 7, 7, 7, 7, 7, 7, 7, 7, 7, 7, 7, 7, 7, 7, 7, 7, 7, 7, 7, 7, 7, 7, 7, 7, 7, 7, 7, 7, 7, 7, 7, 7, 7, 7, 7, 7, 7, 7, 7, 7, 7, 7, 7, 7, 7, 7, 7, 7, 7, 7, 7, 7, 7, 7, 7, 7, 7, 7, 7, 7, 7, 7, 8, 8, 8, 8, 8, 8, 8, 8, 8, 8, 8, 8, 8, 8, 8, 8, 8, 8, 8, 8, 8, 8, 8, 8, 8, 8, 8, 8, 8, 8, 8, 8, 8, 8, 8, 8, 8, 8, 8, 8, 8, 8, 8, 8, 8, 8, 8, 8, 8, 8, 8, 8, 8, 8, 8, 8, 8, 8, 8, 8, 8, 8, 8, 8, 8, 8, 8, 8, 8, 8, 8, 8, 8, 8, 8, 8, 8, 8, 8, 8, 8, 8, 8, 8, 8, 8, 8, 8, 8, 8, 8, 8, 8, 8, 8, 8, 8, 8, 8, 8, 8, 8, 8, 8, 8, 8, 8, 8, 8, 8, 8, 8, 8, 8, 8, 8, 8, 8, 8, 8, 8, 8, 8, 8, 8, 8, 8, 8]).size : Int)) ∧
 rg (btA (ByteArray.mk #[0, 1, 2, 2, 3, 3, 3, 3, 4, 4, 4, 4, 4, 4, 4, 4, 5, 5, 5, 5, 5, 5, 5, 5, 5, 5, 5, 5, 5, 5, 5, 5, 6, 6, 6, 6, 6, 6, 6, 6, 6, 6, 6, 6, 6, 6, 6, 6, 6, 6, 6, 6, 6, 6, 6, 6, 6, 6, 6, 6, 6, 6, 6, 6, 7, 7, 7, 7, 7, 7, 7, 7, 7, 7, 7, 7, 7, 7, 7, 7, 7, 7, 7, 7, 7, 7, 7, 7, 7, 7, 7, 7, 7, 7, 7, 7, 7, 7, 7, 7, 7, 7, 7, 7, 7, 7, 7, 7, 7, 7, 7, 7, 7, 7, 7, 7, 7, 7, 7, 7, 7, 7, 7, 7, 7, 7, 7, 7, 8, 8, 8, 8, 8, 8, 8, 8, 8, 8, 8, 8, 8, 8, 8, 8, 8, 8, 8, 8, 8, 8, 8, 8, 8, 8, 8, 8, 8, 8, 8, 8, 8, 8, 8, 8, 8, 8, 8, 8, 8, 8, 8, 8, 8, 8, 8, 8, 8, 8, 8, 8, 8, 8, 8, 8, 8, 8, 8, 8, 8, 8, 8, 8, 8, 8, 8, 8, 8, 8, 8, 8, 8, 8, 8, 8, 8, 8, 8, 8, 8, 8, 8, 8, 8, 8, 8, 8, 8, 8, 8, 8, 8, 8, 8, 8, 8, 8, 8, 8, 8, 8, 8, 8, 8, 8, 8, 8, 8, 8, 8, 8, 8, 8, 8, 8, 8, 8, 8, 8, 8, 8, 8, 8, 8, 8, 8, 8]) (IntKind.u8.wrap x3)) (
 rg (n2 + (btA (ByteArray.mk #[0, 1, 2, 2, 3, 3, 3, 3, 4, 4, 4, 4, 4, 4, 4, 4, 5, 5, 5, 5, 5, 5, 5, 5, 5, 5, 5, 5, 5, 5, 5, 5, 6, 6, 6, 6, 6, 6, 6, 6, 6, 6, 6, 6, 6, 6, 6, 6, 6, 6, 6, 6, 6, 6, 6, 6, 6, 6, 6, 6, 6, 6, 6, 6, 7, 7, 7, 7, 7, 7, 7, 7, 7, 7, 7, 7, 7, 7, 7, 7, 7, 7, 7, 7, 7, 7, 7, 7, 7, 7, 7, 7, 7, 7, 7, 7, 7, 7, 7, 7, 7, 7, 7, 7, 7, 7, 7, 7, 7, 7, 7, 7, 7, 7, 7, 7, 7, 7, 7, 7, 7, 7, 7, 7, 7, 7, 7, 7, 8, 8, 8, 8, 8, 8, 8, 8, 8, 8, 8, 8, 8, 8, 8, 8, 8, 8, 8, 8, 8, 8, 8, 8, 8, 8, 8, 8, 8, 8, 8, 8, 8, 8, 8, 8, 8, 8, 8, 8, 8, 8, 8, 8, 8, 8, 8, 8, 8, 8, 8, 8, 8, 8, 8, 8, 8, 8, 8, 8, 8, 8, 8, 8, 8, 8, 8, 8, 8, 8, 8, 8, 8, 8, 8, 8, 8, 8, 8, 8, 8, 8, 8, 8, 8, 8, 8, 8, 8, 8, 8, 8, 8, 8, 8, 8, 8, 8, 8, 8, 8, 8, 8, 8, 8, 8, 8, 8, 8, 8, 8, 8, 8, 8, 8, 8, 8, 8, 8, 8, 8, 8, 8, 8, 8, 8, 8, 8]) (IntKind.u8.wrap x3))) (
 retG (.int .i64 (n2 + (btA (ByteArray.mk #[0, 1, 2, 2, 3, 3, 3, 3, 4, 4, 4, 4, 4, 4, 4, 4, 5, 5, 5, 5, 5, 5, 5, 5, 5, 5, 5, 5, 5, 5, 5, 5, 6, 6, 6, 6, 6, 6, 6, 6, 6, 6, 6, 6, 6, 6, 6, 6, 6, 6, 6, 6, 6, 6, 6, 6, 6, 6, 6, 6, 6, 6, 6, 6, 7, 7, 7, 7, 7, 7, 7, 7, 7, 7, 7, 7, 7, 7, 7, 7, 7, 7, 7, 7, 7, 7, 7, 7, 7, 7, 7, 7, 7, 7, 7, 7, 7, 7, 7, 7, 7, 7, 7, 7, 7, 7, 7, 7, 7, 7, 7, 7, 7, 7, 7, 7, 7, 7, 7, 7, 7, 7, 7, 7, 7, 7, 7, 7, 8, 8, 8, 8, 8, 8, 8, 8, 8, 8, 8, 8, 8, 8, 8, 8, 8, 8, 8, 8, 8, 8, 8, 8, 8, 8, 8, 8, 8, 8, 8, 8, 8, 8, 8, 8, 8, 8, 8, 8, 8, 8, 8, 8, 8, 8, 8, 8, 8, 8, 8, 8, 8, 8, 8, 8, 8, 8, 8, 8, 8, 8, 8, 8, 8, 8, 8, 8, 8, 8, 8, 8, 8, 8, 8, 8, 8, 8, 8, 8, 8, 8, 8, 8, 8, 8, 8, 8, 8, 8, 8, 8, 8, 8, 8, 8, 8, 8, 8, 8, 8, 8, 8, 8, 8, 8, 8, 8, 8, 8, 8, 8, 8, 8, 8, 8, 8, 8, 8, 8, 8, 8, 8, 8, 8, 8, 8, 8]) (IntKind.u8.wrap x3)))) h Ψ))

abbrev s154c2_K : List Kd := [.int .u64, .int .i64]
def s154c2 (Ψ : AVal → Heap → Prop) (x2 n1 : Int) (h : Heap) : Prop :=
 ifT (decide (256 ≤ x2)) (
 (0 : Int) ≤ 8 ∧
 rg (n1 + 8) (
 s154c3 Ψ (Int.fdiv x2 (2 ^ (min (Int.toNat 8) (IntKind.u64.bits)))) (n1 + 8) h)) (
 s154c3 Ψ x2 n1 h)

abbrev s154c1_K : List Kd := [.int .u64, .int .i64]
def s154c1 (Ψ : AVal → Heap → Prop) (x1 n : Int) (h : Heap) : Prop :=
 ifT (decide (65536 ≤ x1)) (
 (0 : Int) ≤ 16 ∧
 rg (n + 16) (
 s154c2 Ψ (Int.fdiv x1 (2 ^ (min (Int.toNat 16) (IntKind.u64.bits)))) (n + 16) h)) (
 s154c2 Ψ x1 n h)

def s154 (Ψ : AVal → Heap → Prop) (x : Int) (h : Heap) : Prop :=
 ifT (decide (4294967296 ≤ x)) (
 (0 : Int) ≤ 32 ∧
 s154c1 Ψ (Int.fdiv x (2 ^ (min (Int.toNat 32) (IntKind.u64.bits)))) 32 h) (
 s154c1 Ψ x 0 h)

def s154_A (Ψ : AVal → Heap → Prop) : Ann :=
 .seq (rA 1)
 (cutK [0, 2] s154c1_K (s154c1 Ψ) (.seq (rA 2)
 (.cond (.seq (rA 3)
 (rA 1))
 (.leaf)))
 (cutK [0, 2] s154c2_K (s154c2 Ψ) (.seq (rA 2)
 (.cond (.seq (rA 3)
 (rA 3))
 (.leaf)))
 (cutK [0, 2] s154c3_K (s154c3 Ψ) (.seq (rA 2)
 (.cond (.seq (rA 3)
 (rA 3))
 (.leaf)))
 (.seq (rA 7)
 (.leaf)))))

theorem s154_ok {Ψ : AVal → Heap → Prop} {x : Int} {h : Heap} (H : s154 Ψ x h) : ACalls prog 154 [(.int .u64 x)] h Ψ :=
 calls_of_evF func154 (by kernel_rfl) (by kernel_rfl) (by kernel_rfl)
 (Eq.mpr (by as_aux_lemma => kernel_rfl : oblF prog f154 (s154_A Ψ) Ψ = ((True) ∧ ((otP 13) ∧ ((QK s154c1_K (s154c1 Ψ)) ∧ ((otP 13) ∧ ((QK s154c2_K (s154c2 Ψ)) ∧ ((otP 13) ∧ ((QK s154c3_K (s154c3 Ψ)) ∧ (otP 1))))))))) (⟨trivial, ⟨otP_ok 13, ⟨oI, ⟨otP_ok 13, ⟨oI, ⟨otP_ok 13, ⟨oI, otP_ok 1⟩⟩⟩⟩⟩⟩⟩))
 (Eq.mpr (by as_aux_lemma => kernel_rfl : evF prog f154 (s154_A Ψ) Ψ [(.int .u64 x)] h = s154 Ψ x h) H)

/- 156 dictum/worlds.reckon$1 -/
def s156 (Ψ : AVal → Heap → Prop) (a : Int) (b : Int) (c0 : AVal) (h : Heap) : Prop :=
 ld1 h c0 fun v =>
 ixS 1 v a fun p =>
 ld1 h p fun v1 =>
 ixS 1 v1 b fun p1 =>
 ld1 h p1 fun v2 =>
 tBool v2 fun v3 =>
 retG (.bool v3) h Ψ

def s156_A (Ψ : AVal → Heap → Prop) : Ann :=
 .seq (rA 1)
 (.seq (rA 8)
 (.leaf))

theorem s156_ok {Ψ : AVal → Heap → Prop} {a : Int} {b : Int} {c0 : AVal} {h : Heap} (H : s156 Ψ a b c0 h) : ACalls prog 156 [(.int .i64 a), (.int .i64 b), c0] h Ψ :=
 calls_of_evF func156 (by kernel_rfl) (by kernel_rfl) (by kernel_rfl)
 (Eq.mpr (by as_aux_lemma => kernel_rfl : oblF prog f156 (s156_A Ψ) Ψ = (otP 5)) (otP_ok 5))
 (Eq.mpr (by as_aux_lemma => kernel_rfl : evF prog f156 (s156_A Ψ) Ψ [(.int .i64 a), (.int .i64 b), c0] h = s156 Ψ a b c0 h) H)

end Go.Proofs.YtaopdcjjcpgebaaGreatDoor

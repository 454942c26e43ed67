/- The functions that the proof meets, each as a text that Lean has checked against the program. No condition. -/
import Derived.Test.YtljglglbfcgjpaaGreatM3
import Derived.Test.YtljglglbfcgjpaaGreatChecked
namespace Go.Proofs.YtljglglbfcgjpaaGreat
open Go Go.Sym Go.Proofs.Tryz
set_option maxRecDepth 100000
set_option linter.unusedVariables false

/- 3 dictum/dictumlaw23.HeytingUps -/
abbrev s3c2_K : List Kd := [.int .i64, .any, .bool]
def s3c2 (Ψ : AVal → Heap → Prop) (n2 : Int) (a1 : AVal) (t72 : Bool) (h : Heap) : Prop :=
 ifT t72 (
 retG (.bool false) h Ψ) (
 ldN 1 h a1 fun l_24 =>
 tCons l_24 fun v24 l_25 =>
 tNil l_25 (
 callG prog 13 [(.agg [v24])] h fun v25 h_8 =>
 tTup v25 fun l_26 =>
 tCons l_26 fun v26 l_27 =>
 tCons l_27 fun v27 l_28 =>
 tCons l_28 fun v28 l_29 =>
 tInt .i64 v28 fun v29 =>
 tNil l_29 (
 tAgg v26 fun l_30 =>
 tCons l_30 fun v30 l_31 =>
 tCons l_31 fun v31 l_32 =>
 tNil l_32 (
 Sym.newRow 2 [(.agg [.nilsl, .nilsl])] h_8 fun r2 h_9 =>
 st false h_9 (.ptr r2 0 0) [v30, v31] fun h_10 =>
 ldN 1 h_10 a1 fun l_33 =>
 tCons l_33 fun v32 l_34 =>
 tNil l_34 (
 callG prog 14 [(.agg [v32])] h_10 fun v33 h_11 =>
 tTup v33 fun l_35 =>
 tCons l_35 fun v34 l_36 =>
 tCons l_36 fun v35 l_37 =>
 tCons l_37 fun v36 l_38 =>
 tInt .i64 v36 fun v37 =>
 tNil l_38 (
 tAgg v34 fun l_39 =>
 tCons l_39 fun v38 l_40 =>
 tCons l_40 fun v39 l_41 =>
 tNil l_41 (
 Sym.newRow 2 [(.agg [.nilsl, .nilsl])] h_11 fun r3 h_12 =>
 st false h_12 (.ptr r3 0 0) [v38, v39] fun h_13 =>
 callG prog 15 [(.int .i64 n2)] h_13 fun v40 h_14 =>
 tTup v40 fun l_42 =>
 tCons l_42 fun v41 l_43 =>
 tCons l_43 fun v42 l_44 =>
 tInt .i64 v42 fun v43 =>
 tNil l_44 (
 tAgg v41 fun l_45 =>
 tCons l_45 fun v44 l_46 =>
 tNil l_46 (
 Sym.newRow 1 [(.agg [.nilsl])] h_14 fun r4 h_15 =>
 st false h_15 (.ptr r4 0 0) [v44] fun h_16 =>
 callG prog 16 [(.int .i64 n2)] h_16 fun v45 h_17 =>
 tTup v45 fun l_47 =>
 tCons l_47 fun v46 l_48 =>
 tCons l_48 fun v47 l_49 =>
 tInt .i64 v47 fun v48 =>
 tNil l_49 (
 tAgg v46 fun l_50 =>
 tCons l_50 fun v49 l_51 =>
 tNil l_51 (
 Sym.newRow 1 [(.agg [.nilsl])] h_17 fun r5 h_18 =>
 st false h_18 (.ptr r5 0 0) [v49] fun h_19 =>
 ldN 2 h_19 (.ptr r2 0 0) fun l_52 =>
 tCons l_52 fun v50 l_53 =>
 tCons l_53 fun v51 l_54 =>
 tNil l_54 (
 ldN 2 h_19 (.ptr r3 0 0) fun l_55 =>
 tCons l_55 fun v52 l_56 =>
 tCons l_56 fun v53 l_57 =>
 tNil l_57 (
 callG prog 17 [(.agg [v50, v51]), (.agg [v52, v53])] h_19 fun v54 h_20 =>
 tBool v54 fun v55 =>
 ifT v55 (
 callG prog 18 [v27, v35] h_20 fun v56 h_21 =>
 tBool v56 fun v57 =>
 ifT v57 (
 ifT (v29 == v37) (
 ldN 1 h_21 (.ptr r4 0 0) fun l_58 =>
 tCons l_58 fun v58 l_59 =>
 tNil l_59 (
 ldN 1 h_21 (.ptr r5 0 0) fun l_60 =>
 tCons l_60 fun v59 l_61 =>
 tNil l_61 (
 callG prog 8 [(.agg [v58]), (.agg [v59])] h_21 fun v60 h_22 =>
 tBool v60 fun v61 =>
 ifT v61 (
 ifT (v43 == v48) (
 callG prog 19 [] h_22 fun v62 h_23 =>
 tBool v62 fun v63 =>
 retG (.bool v63) h_23 Ψ) (
 retG (.bool false) h_22 Ψ)) (
 retG (.bool false) h_22 Ψ)))) (
 retG (.bool false) h_21 Ψ)) (
 retG (.bool false) h_21 Ψ)) (
 retG (.bool false) h_20 Ψ))))))))))))))

abbrev s3c1_K : List Kd := [.int .i64, .any, .any, .bool]
def s3c1 (Ψ : AVal → Heap → Prop) (n1 : Int) (m a : AVal) (t53 : Bool) (h : Heap) : Prop :=
 ifT t53 (
 retG (.bool false) h Ψ) (
 ldN 2 h m fun l_12 =>
 tCons l_12 fun v12 l_13 =>
 tCons l_13 fun v13 l_14 =>
 tNil l_14 (
 callG prog 10 [(.agg [v12, v13])] h fun v14 h_6 =>
 tTup v14 fun l_15 =>
 tCons l_15 fun v15 l_16 =>
 tCons l_16 fun v16 l_17 =>
 tInt .i64 v16 fun v17 =>
 tNil l_17 (
 ldN 2 h_6 m fun l_18 =>
 tCons l_18 fun v18 l_19 =>
 tCons l_19 fun v19 l_20 =>
 tNil l_20 (
 callG prog 11 [(.agg [v18, v19])] h_6 fun v20 h_7 =>
 tTup v20 fun l_21 =>
 tCons l_21 fun v21 l_22 =>
 tCons l_22 fun v22 l_23 =>
 tInt .i64 v22 fun v23 =>
 tNil l_23 (
 callG prog 12 [v15, v21] h_7 fun v64 h_24 =>
 tBool v64 fun v65 =>
 ifT (!v65) (
 s3c2 Ψ n1 a true h_24) (
 s3c2 Ψ n1 a (v17 != v23) h_24))))))

def s3 (Ψ : AVal → Heap → Prop) (m_Up : AVal) (m_Val : AVal) (a_Leq : AVal) (n : Int) (h : Heap) : Prop :=
 callG prog 6 [(.agg [m_Up, m_Val])] h fun v h_ =>
 tTup v fun l_ =>
 tCons l_ fun v1 l_1 =>
 tCons l_1 fun v2 l_2 =>
 tCons l_2 fun v3 l_3 =>
 tInt .i64 v3 fun v4 =>
 tNil l_3 (
 tAgg v1 fun l_4 =>
 tCons l_4 fun v5 l_5 =>
 tNil l_5 (
 Sym.newRow 1 [(.agg [.nilsl])] h_ fun r h_1 =>
 st false h_1 (.ptr r 0 0) [v5] fun h_2 =>
 callG prog 7 [(.agg [m_Up, m_Val])] h_2 fun v6 h_3 =>
 tTup v6 fun l_6 =>
 tCons l_6 fun v7 l_7 =>
 tCons l_7 fun v8 l_8 =>
 tCons l_8 fun v9 l_9 =>
 tInt .i64 v9 fun v10 =>
 tNil l_9 (
 tAgg v7 fun l_10 =>
 tCons l_10 fun v11 l_11 =>
 tNil l_11 (
 Sym.newRow 1 [(.agg [.nilsl])] h_3 fun r1 h_4 =>
 st false h_4 (.ptr r1 0 0) [v11] fun h_5 =>
 ldN 1 h_5 (.ptr r 0 0) fun l_62 =>
 tCons l_62 fun v66 l_63 =>
 tNil l_63 (
 ldN 1 h_5 (.ptr r1 0 0) fun l_64 =>
 tCons l_64 fun v67 l_65 =>
 tNil l_65 (
 callG prog 8 [(.agg [v66]), (.agg [v67])] h_5 fun v68 h_25 =>
 tBool v68 fun v69 =>
 ifT (!v69) (
 s3c1 Ψ n (.lptr [m_Up, m_Val]) (.lptr [a_Leq]) true h_25) (
 callG prog 9 [v2, v8] h_25 fun v70 h_26 =>
 tBool v70 fun v71 =>
 ifT (!v71) (
 s3c1 Ψ n (.lptr [m_Up, m_Val]) (.lptr [a_Leq]) true h_26) (
 s3c1 Ψ n (.lptr [m_Up, m_Val]) (.lptr [a_Leq]) (v4 != v10) h_26))))))))

def s3_A (Ψ : AVal → Heap → Prop) : Ann :=
 .seq (.reg [⟨none, [(0, true), (1, true), (2, false)]⟩])
 (.seq (rA 10)
 (.seq (rA 10)
 (.seq (cutK [2, 3, 4, 53] s3c1_K (s3c1 Ψ) (.reg [⟨none, [(0, false), (1, false), (2, false), (3, false), (4, false)]⟩, ⟨some (43, false), [(5, false), (6, false), (7, false), (8, false)]⟩, ⟨none, [(9, false), (10, false)]⟩, ⟨some (49, false), [(11, false), (12, false), (13, false)]⟩, ⟨none, [(14, false)]⟩])
 (.cond (.seq (rA 1)
 (.leaf))
 (.leaf)))
 (.seq (rA 7)
 (.seq (rA 7)
 (.seq (cutK [2, 4, 72] s3c2_K (s3c2 Ψ) (.reg [⟨none, [(0, false), (1, false), (2, false), (3, false), (4, false)]⟩, ⟨some (68, false), [(5, false), (6, false), (7, false)]⟩, ⟨none, [(8, false)]⟩])
 (.cond (.seq (rA 1)
 (.leaf))
 (.leaf)))
 (.seq (rA 10)
 (.seq (rA 10)
 (.seq (rA 8)
 (.seq (rA 8)
 (.seq (.reg [⟨none, [(0, false), (1, false), (2, false), (3, false)]⟩, ⟨some (98, true), [(4, false), (5, false), (6, false)]⟩, ⟨none, [(7, false), (8, false)]⟩, ⟨some (103, true), [(9, false), (10, false), (11, false)]⟩, ⟨none, [(12, false), (13, false)]⟩, ⟨some (108, true), [(14, false), (15, false), (16, false)]⟩, ⟨none, [(17, false), (18, false)]⟩, ⟨some (113, true), [(19, false), (20, false), (21, false)]⟩, ⟨none, [(22, false), (23, false)]⟩, ⟨some (118, true), [(24, false)]⟩, ⟨none, [(25, false), (26, false)]⟩])
 (.leaf))))))))))))

theorem s3_ok {Ψ : AVal → Heap → Prop} {m_Up : AVal} {m_Val : AVal} {a_Leq : AVal} {n : Int} {h : Heap} (H : s3 Ψ m_Up m_Val a_Leq n h) : ACalls prog 3 [(.agg [m_Up, m_Val]), (.agg [a_Leq]), (.int .i64 n)] h Ψ :=
 calls_of_evF func3 (by kernel_rfl) (by kernel_rfl) (by kernel_rfl)
 (Eq.mpr (by as_aux_lemma => kernel_rfl : oblF prog f3 (s3_A Ψ) Ψ = ((True) ∧ ((True) ∧ ((True) ∧ (((True) ∧ ((QK s3c1_K (s3c1 Ψ)) ∧ (otP 3))) ∧ ((True) ∧ ((True) ∧ (((True) ∧ ((QK s3c2_K (s3c2 Ψ)) ∧ (otP 3))) ∧ (otP 341))))))))) (⟨trivial, ⟨trivial, ⟨trivial, ⟨⟨trivial, ⟨oI, otP_ok 3⟩⟩, ⟨trivial, ⟨trivial, ⟨⟨trivial, ⟨oI, otP_ok 3⟩⟩, otP_ok 341⟩⟩⟩⟩⟩⟩⟩))
 (Eq.mpr (by as_aux_lemma => kernel_rfl : evF prog f3 (s3_A Ψ) Ψ [(.agg [m_Up, m_Val]), (.agg [a_Leq]), (.int .i64 n)] h = s3 Ψ m_Up m_Val a_Leq n h) H)

/- 7 dictum/dictumref23.Ups -/
abbrev s7l1_T := AVal → AVal → AVal → AVal → AVal → Int → Heap → Prop
abbrev s7l1_K : List Kd := [.any, .any, .any, .any, .any, .int .i64]
def s7l1_G (F : s7l1_T) : s7l1_T := GK s7l1_K F
def s7l1_E (F : Nat → s7l1_T) : s7l1_T := EK s7l1_K F
theorem s7l1_in {F : Nat → s7l1_T} {x0 x1 x2 x3 x4 : AVal} {x5 : Int} {h : Heap} (n : Nat) (H : F n x0 x1 x2 x3 x4 x5 h) : s7l1_E F x0 x1 x2 x3 x4 x5 h := gJ_plain rfl ⟨n, H⟩

abbrev s7l2_T := AVal → AVal → AVal → AVal → AVal → Int → AVal → AVal → Int → Heap → Prop
abbrev s7l2_K : List Kd := [.any, .any, .any, .any, .any, .int .i64, .any, .any, .int .i64]
def s7l2_G (F : s7l2_T) : s7l2_T := GK s7l2_K F
def s7l2_E (F : Nat → s7l2_T) : s7l2_T := EK s7l2_K F
theorem s7l2_go {F : s7l2_T} {x0 x1 x2 x3 x4 : AVal} {x5 : Int} {x6 x7 : AVal} {x8 : Int} {h : Heap} (H : F x0 x1 x2 x3 x4 x5 x6 x7 x8 h) : s7l2_G F x0 x1 x2 x3 x4 x5 x6 x7 x8 h := gJ_plain rfl H
theorem s7l2_in {F : Nat → s7l2_T} {x0 x1 x2 x3 x4 : AVal} {x5 : Int} {x6 x7 : AVal} {x8 : Int} {h : Heap} (n : Nat) (H : F n x0 x1 x2 x3 x4 x5 x6 x7 x8 h) : s7l2_E F x0 x1 x2 x3 x4 x5 x6 x7 x8 h := gJ_plain rfl ⟨n, H⟩

abbrev s7l3_T := AVal → AVal → AVal → AVal → AVal → Int → AVal → AVal → Int → Heap → Prop
abbrev s7l3_K : List Kd := [.any, .any, .any, .any, .any, .int .i64, .any, .any, .int .i64]
def s7l3_G (F : s7l3_T) : s7l3_T := GK s7l3_K F
def s7l3_E (F : Nat → s7l3_T) : s7l3_T := EK s7l3_K F
theorem s7l3_go {F : s7l3_T} {x0 x1 x2 x3 x4 : AVal} {x5 : Int} {x6 x7 : AVal} {x8 : Int} {h : Heap} (H : F x0 x1 x2 x3 x4 x5 x6 x7 x8 h) : s7l3_G F x0 x1 x2 x3 x4 x5 x6 x7 x8 h := gJ_plain rfl H
theorem s7l3_in {F : Nat → s7l3_T} {x0 x1 x2 x3 x4 : AVal} {x5 : Int} {x6 x7 : AVal} {x8 : Int} {h : Heap} (n : Nat) (H : F n x0 x1 x2 x3 x4 x5 x6 x7 x8 h) : s7l3_E F x0 x1 x2 x3 x4 x5 x6 x7 x8 h := gJ_plain rfl ⟨n, H⟩

abbrev s7c4_K : List Kd := [.any, .any, .any, .any, .any, .int .i64, .any, .any, .int .i64]
def s7c4 (Ψ : AVal → Heap → Prop) (L1 : s7l1_T) (L3 : s7l3_T) (t2_3 o3 l_13 a3 worlds3 : AVal) (i3 : Int) (row2 ws2 : AVal) (w1 : Int) (h : Heap) : Prop :=
 rg (w1 + 1) (
 L3 t2_3 o3 l_13 a3 worlds3 i3 row2 ws2 (w1 + 1) h)

def s7l3 (Ψ : AVal → Heap → Prop) (L1 : s7l1_T) : Nat → s7l3_T
 | 0, _, _, _, _, _, _, _, _, _, _ => False
 | n4 + 1, t2_2, o2, l_12, a2, worlds2, i2, row1, ws1, w, h =>
 lenN o2 fun n5 =>
 ifT (decide (w < n5)) (
 ixS 1 l_12 i2 fun p2 =>
 ld1 h p2 fun v15 =>
 tInt .u64 v15 fun v16 =>
 (0 : Int) ≤ (IntKind.u64.wrap w) ∧
 ifT ((bitsI .and .u64 (Int.fdiv v16 (2 ^ (min (Int.toNat (IntKind.u64.wrap w)) (IntKind.u64.bits)))) 1) == 1) (
 appC 1 8 h ws1 (.lsl 1 [(.int .i64 w)]) fun v17 h_8 =>
 s7c4 Ψ L1 (s7l3_G (s7l3 Ψ L1 n4)) t2_2 o2 l_12 a2 worlds2 i2 row1 v17 w h_8) (
 s7c4 Ψ L1 (s7l3_G (s7l3 Ψ L1 n4)) t2_2 o2 l_12 a2 worlds2 i2 row1 ws1 w h)) (
 addOff a2 0 fun p3 =>
 ld1 h p3 fun v18 =>
 chk (sc row1) (
 appC 1 24 h v18 (.lsl 1 [row1]) fun v19 h_9 =>
 addOff a2 0 fun p4 =>
 chk (sc v19) (
 st true h_9 p4 [v19] fun h_10 =>
 chk (sc ws1) (
 appC 1 24 h_10 worlds2 (.lsl 1 [ws1]) fun v20 h_11 =>
 rg (i2 + 1) (
 L1 t2_2 o2 l_12 a2 v20 (i2 + 1) h_11)))))

def s7l2 (Ψ : AVal → Heap → Prop) (L1 : s7l1_T) : Nat → s7l2_T
 | 0, _, _, _, _, _, _, _, _, _, _ => False
 | n2 + 1, t2_1, o1, l_11, a1, worlds1, i1, row, ws, k, h =>
 lenN l_11 fun n3 =>
 ifT (decide (k < n3)) (
 ixS 1 l_11 i1 fun p =>
 ld1 h p fun v10 =>
 tInt .u64 v10 fun v11 =>
 ixS 1 l_11 k fun p1 =>
 ld1 h p1 fun v12 =>
 tInt .u64 v12 fun v13 =>
 appC 1 1 h row (.lsl 1 [(.bool ((bitsI .andNot .u64 v11 v13) == 0))]) fun v14 h_7 =>
 rg (k + 1) (
 s7l2_G (s7l2 Ψ L1 n2) t2_1 o1 l_11 a1 worlds1 i1 v14 ws (k + 1) h_7)) (
 s7l3_E (s7l3 Ψ L1) t2_1 o1 l_11 a1 worlds1 i1 row ws 0 h)

def s7l1 (Ψ : AVal → Heap → Prop) : Nat → s7l1_T
 | 0, _, _, _, _, _, _, _ => False
 | n + 1, t2, o, l_10, a, worlds, i, h =>
 lenN l_10 fun n1 =>
 ifT (decide (i < n1)) (
 s7l2_E (s7l2 Ψ (s7l1_G (s7l1 Ψ n))) t2 o l_10 a worlds i .nilsl .nilsl 0 h) (
 ldN 1 h a fun l_14 =>
 tCons l_14 fun v21 l_15 =>
 tNil l_15 (
 st false h t2 [v21] fun h_12 =>
 ldN 1 h_12 t2 fun l_16 =>
 tCons l_16 fun v22 l_17 =>
 tNil l_17 (
 retG (.tuple [(.agg [v22]), worlds, (.int .i64 0)]) h_12 Ψ)))

def s7 (Ψ : AVal → Heap → Prop) (m_Up : AVal) (m_Val : AVal) (h : Heap) : Prop :=
 Sym.newRow 1 [(.agg [.nilsl])] h fun r h_ =>
 callG prog 29 [(.agg [m_Up, m_Val])] h_ fun v h_1 =>
 tTup v fun l_ =>
 tCons l_ fun v1 l_1 =>
 tCons l_1 fun v2 l_2 =>
 tBool v2 fun v3 =>
 tNil l_2 (
 ifT (!v3) (
 st false h_1 (.ptr r 0 0) [.nilsl] fun h_2 =>
 ldN 1 h_2 (.ptr r 0 0) fun l_3 =>
 tCons l_3 fun v4 l_4 =>
 tNil l_4 (
 retG (.tuple [(.agg [v4]), .nilsl, (.int .i64 170)]) h_2 Ψ)) (
 callG prog 30 [v1] h_1 fun v5 h_3 =>
 tTup v5 fun l_5 =>
 tCons l_5 fun v6 l_6 =>
 tCons l_6 fun v7 l_7 =>
 tBool v7 fun v8 =>
 tNil l_7 (
 ifT (!v8) (
 st false h_3 (.ptr r 0 0) [.nilsl] fun h_4 =>
 ldN 1 h_4 (.ptr r 0 0) fun l_8 =>
 tCons l_8 fun v9 l_9 =>
 tNil l_9 (
 retG (.tuple [(.agg [v9]), .nilsl, (.int .i64 231)]) h_4 Ψ)) (
 Sym.newRow 1 [(.agg [.nilsl])] h_3 fun r1 h_5 =>
 st false h_5 (.ptr r1 0 0) [.nilsl] fun h_6 =>
 s7l1_E (s7l1 Ψ) (.ptr r 0 0) v1 v6 (.ptr r1 0 0) .nilsl 0 h_6))))

def s7_A (Ψ : AVal → Heap → Prop) : Ann :=
 .seq (.reg [⟨none, [(0, true), (1, false), (2, false), (3, false)]⟩])
 (.seq (rA 7)
 (.seq (.seq (rA 2)
 (.cond (.seq (rA 4)
 (.leaf))
 (.leaf)))
 (.seq (rA 7)
 (.seq (.seq (rA 2)
 (.cond (.seq (rA 4)
 (.leaf))
 (.leaf)))
 (.seq (rA 3)
 (.seq (rA 1)
 (.seq (.seq (rA 1)
 (.block (loopK [2, 5, 7, 9, 10, 11] s7l1_K (s7l1 Ψ) (fun L1 =>
 .seq (.seq (rA 4)
 (.cond (.leaf)
 (.leaf)))
 (.seq (.block (.seq (rA 1)
 (.seq (rA 1)
 (.seq (.seq (rA 1)
 (.block (loopK [2, 5, 7, 9, 10, 11, 12, 13, 14] s7l2_K (s7l2 Ψ (LK s7l1_K L1)) (fun L2 =>
 .seq (.seq (rA 4)
 (.cond (.leaf)
 (.leaf)))
 (.seq (.block (.draw [(0, false), (1, false), (2, false), (3, false), (4, false), (5, false), (6, false), (7, false), (8, false), (9, false), (10, false), (11, true), (12, false), (13, false)] [0, 0, 0, 6, 14, 0, 0, 96, 224, 510, 1022, 2046, 4095, 8191]))
 (rA 3))))))
 (.seq (.seq (rA 1)
 (.block (loopK [2, 5, 7, 9, 10, 11, 12, 13, 15] s7l3_K (s7l3 Ψ (LK s7l1_K L1)) (fun L3 =>
 .seq (.seq (rA 4)
 (.cond (.leaf)
 (.leaf)))
 (cutK [2, 5, 7, 9, 10, 11, 12, 13, 15] s7c4_K (s7c4 Ψ (LK s7l1_K L1) (LK s7l3_K L3)) (.block (.seq (rA 9)
 (.cond (.reg [⟨none, [(0, false), (1, false), (2, true), (3, false), (4, false)]⟩])
 (.leaf))))
 (rA 3))))))
 (.seq (.reg [⟨none, [(0, false), (1, false), (2, false), (3, true), (4, false), (5, false), (6, false)]⟩])
 (.reg [⟨none, [(0, false), (1, false), (2, true), (3, false), (4, false)]⟩])))))))
 (rA 3))))))
 (.seq (rA 5)
 (.leaf)))))))))

theorem s7_ok {Ψ : AVal → Heap → Prop} {m_Up : AVal} {m_Val : AVal} {h : Heap} (H : s7 Ψ m_Up m_Val h) : ACalls prog 7 [(.agg [m_Up, m_Val])] h Ψ :=
 calls_of_evF func7 (by kernel_rfl) (by kernel_rfl) (by kernel_rfl)
 (Eq.mpr (by as_aux_lemma => kernel_rfl : oblF prog f7 (s7_A Ψ) Ψ = ((True) ∧ ((True) ∧ ((otP 13) ∧ ((True) ∧ ((otP 13) ∧ ((True) ∧ ((True) ∧ (((True) ∧ ((NK s7l1_K (s7l1 Ψ 0)) ∧ (∀ n1 : Nat, (QK s7l1_K (s7l1 Ψ (n1 + 1))) ∧ ((otP 5) ∧ (((True) ∧ ((True) ∧ (((True) ∧ ((NK s7l2_K (s7l2 Ψ (s7l1_G (s7l1 Ψ n1)) 0)) ∧ (∀ n2 : Nat, (QK s7l2_K (s7l2 Ψ (s7l1_G (s7l1 Ψ n1)) (n2 + 1))) ∧ (otP 75)))) ∧ (((True) ∧ ((NK s7l3_K (s7l3 Ψ (s7l1_G (s7l1 Ψ n1)) 0)) ∧ (∀ n3 : Nat, (QK s7l3_K (s7l3 Ψ (s7l1_G (s7l1 Ψ n1)) (n3 + 1))) ∧ ((otP 5) ∧ ((otP 5) ∧ ((QK s7c4_K (s7c4 Ψ (s7l1_G (s7l1 Ψ n1)) (s7l3_G (s7l3 Ψ (s7l1_G (s7l1 Ψ n1)) n3)))) ∧ (True))))))) ∧ (otP 1))))) ∧ (True)))))) ∧ (otP 1)))))))))) (⟨trivial, ⟨trivial, ⟨otP_ok 13, ⟨trivial, ⟨otP_ok 13, ⟨trivial, ⟨trivial, ⟨⟨trivial, ⟨fun _ _ _ _ _ _ _ H => H, fun _ => ⟨oI, ⟨otP_ok 5, ⟨⟨trivial, ⟨trivial, ⟨⟨trivial, ⟨fun _ _ _ _ _ _ _ _ _ _ H => H, fun _ => ⟨oI, otP_ok 75⟩⟩⟩, ⟨⟨trivial, ⟨fun _ _ _ _ _ _ _ _ _ _ H => H, fun _ => ⟨oI, ⟨otP_ok 5, ⟨otP_ok 5, ⟨oI, trivial⟩⟩⟩⟩⟩⟩, otP_ok 1⟩⟩⟩⟩, trivial⟩⟩⟩⟩⟩, otP_ok 1⟩⟩⟩⟩⟩⟩⟩⟩))
 (Eq.mpr (by as_aux_lemma => kernel_rfl : evF prog f7 (s7_A Ψ) Ψ [(.agg [m_Up, m_Val])] h = s7 Ψ m_Up m_Val h) H)

/- 9 dictum/dictumlaw23.lists -/
abbrev s9l1_T := AVal → AVal → Int → Heap → Prop
abbrev s9l1_K : List Kd := [.any, .any, .int .i64]
def s9l1_G (F : s9l1_T) : s9l1_T := GK s9l1_K F
def s9l1_E (F : Nat → s9l1_T) : s9l1_T := EK s9l1_K F
theorem s9l1_go {F : s9l1_T} {x0 x1 : AVal} {x2 : Int} {h : Heap} (H : F x0 x1 x2 h) : s9l1_G F x0 x1 x2 h := gJ_plain rfl H
theorem s9l1_in {F : Nat → s9l1_T} {x0 x1 : AVal} {x2 : Int} {h : Heap} (n : Nat) (H : F n x0 x1 x2 h) : s9l1_E F x0 x1 x2 h := gJ_plain rfl ⟨n, H⟩

def s9l1 (Ψ : AVal → Heap → Prop) : Nat → s9l1_T
 | 0, _, _, _, _ => False
 | n2 + 1, a1, b1, i, h =>
 lenN a1 fun n3 =>
 ifT (decide (i < n3)) (
 ixS 1 a1 i fun p =>
 ld1 h p fun v =>
 ixS 1 b1 i fun p1 =>
 ld1 h p1 fun v1 =>
 callG prog 18 [v, v1] h fun v2 h_ =>
 tBool v2 fun v3 =>
 ifT (!v3) (
 retG (.bool false) h_ Ψ) (
 rg (i + 1) (
 s9l1_G (s9l1 Ψ n2) a1 b1 (i + 1) h_))) (
 retG (.bool true) h Ψ)

def s9 (Ψ : AVal → Heap → Prop) (a : AVal) (b : AVal) (h : Heap) : Prop :=
 lenN a fun n =>
 lenN b fun n1 =>
 ifT (n != n1) (
 retG (.bool false) h Ψ) (
 s9l1_E (s9l1 Ψ) a b 0 h)

def s9_A (Ψ : AVal → Heap → Prop) : Ann :=
 .seq (rA 1)
 (.seq (.seq (rA 5)
 (.cond (.seq (rA 1)
 (.leaf))
 (.leaf)))
 (.seq (.seq (rA 1)
 (.block (loopK [0, 1, 5] s9l1_K (s9l1 Ψ) (fun L1 =>
 .seq (.seq (rA 4)
 (.cond (.leaf)
 (.leaf)))
 (.seq (.block (.seq (.draw [(0, false), (1, false), (2, false), (3, false), (4, false), (5, false), (6, false), (7, false), (8, false), (9, false)] [0, 0, 3, 7, 0, 0, 48, 112, 255, 511])
 (.cond (.seq (rA 1)
 (.leaf))
 (.leaf))))
 (rA 3))))))
 (.seq (rA 1)
 (.leaf))))

theorem s9_ok {Ψ : AVal → Heap → Prop} {a : AVal} {b : AVal} {h : Heap} (H : s9 Ψ a b h) : ACalls prog 9 [a, b] h Ψ :=
 calls_of_evF func9 (by kernel_rfl) (by kernel_rfl) (by kernel_rfl)
 (Eq.mpr (by as_aux_lemma => kernel_rfl : oblF prog f9 (s9_A Ψ) Ψ = ((True) ∧ ((otP 13) ∧ (((True) ∧ ((NK s9l1_K (s9l1 Ψ 0)) ∧ (∀ n1 : Nat, (QK s9l1_K (s9l1 Ψ (n1 + 1))) ∧ (otP 1739)))) ∧ (otP 1))))) (⟨trivial, ⟨otP_ok 13, ⟨⟨trivial, ⟨fun _ _ _ _ H => H, fun _ => ⟨oI, otP_ok 1739⟩⟩⟩, otP_ok 1⟩⟩⟩))
 (Eq.mpr (by as_aux_lemma => kernel_rfl : evF prog f9 (s9_A Ψ) Ψ [a, b] h = s9 Ψ a b h) H)

/- 11 dictum/dictumref23.Atoms -/
abbrev s11l1_T := AVal → AVal → AVal → Int → Heap → Prop
abbrev s11l1_K : List Kd := [.any, .any, .any, .int .i64]
def s11l1_G (F : s11l1_T) : s11l1_T := GK s11l1_K F
def s11l1_E (F : Nat → s11l1_T) : s11l1_T := EK s11l1_K F
theorem s11l1_go {F : s11l1_T} {x0 x1 x2 : AVal} {x3 : Int} {h : Heap} (H : F x0 x1 x2 x3 h) : s11l1_G F x0 x1 x2 x3 h := gJ_plain rfl H
abbrev s11l2_T := AVal → AVal → AVal → Int → Int → Heap → Prop
abbrev s11l2_K : List Kd := [.any, .any, .any, .int .i64, .int .i64]
def s11l2_G (F : s11l2_T) : s11l2_T := GK s11l2_K F
def s11l2_E (F : Nat → s11l2_T) : s11l2_T := EK s11l2_K F
theorem s11l2_go {F : s11l2_T} {x0 x1 x2 : AVal} {x3 x4 : Int} {h : Heap} (H : F x0 x1 x2 x3 x4 h) : s11l2_G F x0 x1 x2 x3 x4 h := gJ_plain rfl H
theorem s11l2_in {F : Nat → s11l2_T} {x0 x1 x2 : AVal} {x3 x4 : Int} {h : Heap} (n : Nat) (H : F n x0 x1 x2 x3 x4 h) : s11l2_E F x0 x1 x2 x3 x4 h := gJ_plain rfl ⟨n, H⟩

def s11l2 (Ψ : AVal → Heap → Prop) (L1 : s11l1_T) : Nat → s11l2_T
 | 0, _, _, _, _, _, _ => False
 | n2 + 1, m1, worlds1, names1, w1, k, h =>
 addOff m1 1 fun p1 =>
 ld1 h p1 fun v7 =>
 ixS 1 v7 w1 fun p2 =>
 ld1 h p2 fun v8 =>
 lenN v8 fun n3 =>
 ifT (decide (k < n3)) (
 addOff m1 1 fun p3 =>
 ld1 h p3 fun v9 =>
 ixS 1 v9 w1 fun p4 =>
 ld1 h p4 fun v10 =>
 ixS 1 v10 k fun p5 =>
 ld1 h p5 fun v11 =>
 tStr v11 fun v12 =>
 callG prog 33 [names1, (.str v12)] h fun v13 h_3 =>
 rg (k + 1) (
 s11l2_G (s11l2 Ψ L1 n2) m1 worlds1 v13 w1 (k + 1) h_3)) (
 rg (w1 + 1) (
 L1 m1 worlds1 names1 (w1 + 1) h))

abbrev s11l3_T := AVal → AVal → AVal → AVal → Int → Heap → Prop
abbrev s11l3_K : List Kd := [.any, .any, .any, .any, .int .i64]
def s11l3_G (F : s11l3_T) : s11l3_T := GK s11l3_K F
def s11l3_E (F : Nat → s11l3_T) : s11l3_T := EK s11l3_K F
theorem s11l3_go {F : s11l3_T} {x0 x1 x2 x3 : AVal} {x4 : Int} {h : Heap} (H : F x0 x1 x2 x3 x4 h) : s11l3_G F x0 x1 x2 x3 x4 h := gJ_plain rfl H
theorem s11l3_in {F : Nat → s11l3_T} {x0 x1 x2 x3 : AVal} {x4 : Int} {h : Heap} (n : Nat) (H : F n x0 x1 x2 x3 x4 h) : s11l3_E F x0 x1 x2 x3 x4 h := gJ_plain rfl ⟨n, H⟩

abbrev s11l4_T := AVal → AVal → AVal → AVal → Int → AVal → Int → Heap → Prop
abbrev s11l4_K : List Kd := [.any, .any, .any, .any, .int .i64, .any, .int .i64]
def s11l4_G (F : s11l4_T) : s11l4_T := GK s11l4_K F
def s11l4_E (F : Nat → s11l4_T) : s11l4_T := EK s11l4_K F
theorem s11l4_go {F : s11l4_T} {x0 x1 x2 x3 : AVal} {x4 : Int} {x5 : AVal} {x6 : Int} {h : Heap} (H : F x0 x1 x2 x3 x4 x5 x6 h) : s11l4_G F x0 x1 x2 x3 x4 x5 x6 h := gJ_plain rfl H
theorem s11l4_in {F : Nat → s11l4_T} {x0 x1 x2 x3 : AVal} {x4 : Int} {x5 : AVal} {x6 : Int} {h : Heap} (n : Nat) (H : F n x0 x1 x2 x3 x4 x5 x6 h) : s11l4_E F x0 x1 x2 x3 x4 x5 x6 h := gJ_plain rfl ⟨n, H⟩

abbrev s11c5_K : List Kd := [.any, .any, .any, .any, .int .i64, .any, .int .i64]
def s11c5 (Ψ : AVal → Heap → Prop) (L3 : s11l3_T) (L4 : s11l4_T) (m4 worlds4 names4 out2 : AVal) (i2 : Int) (on1 : AVal) (w3 : Int) (h : Heap) : Prop :=
 rg (w3 + 1) (
 L4 m4 worlds4 names4 out2 i2 on1 (w3 + 1) h)

abbrev s11l6_T := AVal → AVal → AVal → AVal → Int → AVal → Int → Heap → Prop
abbrev s11l6_K : List Kd := [.any, .any, .any, .any, .int .i64, .any, .int .i64]
def s11l6_G (F : s11l6_T) : s11l6_T := GK s11l6_K F
def s11l6_E (F : Nat → s11l6_T) : s11l6_T := EK s11l6_K F
theorem s11l6_go {F : s11l6_T} {x0 x1 x2 x3 : AVal} {x4 : Int} {x5 : AVal} {x6 : Int} {h : Heap} (H : F x0 x1 x2 x3 x4 x5 x6 h) : s11l6_G F x0 x1 x2 x3 x4 x5 x6 h := gJ_plain rfl H
abbrev s11c7_K : List Kd := [.any, .any, .any, .any, .int .i64, .any, .int .i64]
def s11c7 (Ψ : AVal → Heap → Prop) (L3 : s11l3_T) (L6 : s11l6_T) (m6 worlds6 names6 out4 : AVal) (i4 : Int) (on3 : AVal) (k2 : Int) (h : Heap) : Prop :=
 rg (k2 + 1) (
 L6 m6 worlds6 names6 out4 i4 on3 (k2 + 1) h)

def s11l6 (Ψ : AVal → Heap → Prop) (L3 : s11l3_T) : Nat → s11l6_T
 | 0, _, _, _, _, _, _, _, _ => False
 | n9 + 1, m5, worlds5, names5, out3, i3, on2, k1, h =>
 lenN worlds5 fun n10 =>
 ifT (decide (k1 < n10)) (
 ixS 1 worlds5 k1 fun p8 =>
 ld1 h p8 fun v25 =>
 callG prog 18 [v25, on2] h fun v26 h_6 =>
 tBool v26 fun v27 =>
 ifT v27 (
 ixS 1 names5 i3 fun p9 =>
 ld1 h_6 p9 fun v28 =>
 tStr v28 fun v29 =>
 appC 2 24 h_6 out3 (.lsl 2 [(.agg [(.str v29), (.int .i64 k1)])]) fun v30 h_7 =>
 s11c7 Ψ L3 (s11l6_G (s11l6 Ψ L3 n9)) m5 worlds5 names5 v30 i3 on2 k1 h_7) (
 s11c7 Ψ L3 (s11l6_G (s11l6 Ψ L3 n9)) m5 worlds5 names5 out3 i3 on2 k1 h_6)) (
 rg (i3 + 1) (
 L3 m5 worlds5 names5 out3 (i3 + 1) h))

def s11l4 (Ψ : AVal → Heap → Prop) (L3 : s11l3_T) : Nat → s11l4_T
 | 0, _, _, _, _, _, _, _, _ => False
 | n7 + 1, m3, worlds3, names3, out1, i1, on, w2, h =>
 addOff m3 1 fun p6 =>
 ld1 h p6 fun v14 =>
 lenN v14 fun n8 =>
 ifT (decide (w2 < n8)) (
 ldN 2 h m3 fun l_6 =>
 tCons l_6 fun v15 l_7 =>
 tCons l_7 fun v16 l_8 =>
 tNil l_8 (
 ixS 1 names3 i1 fun p7 =>
 ld1 h p7 fun v17 =>
 tStr v17 fun v18 =>
 callG prog 34 [(.agg [v15, v16]), (.int .i64 w2), (.str v18)] h fun v19 h_4 =>
 tTup v19 fun l_9 =>
 tCons l_9 fun v20 l_10 =>
 tBool v20 fun v21 =>
 tCons l_10 fun v22 l_11 =>
 tInt .i64 v22 fun v23 =>
 tNil l_11 (
 ifT v21 (
 appC 1 8 h_4 on (.lsl 1 [(.int .i64 w2)]) fun v24 h_5 =>
 s11c5 Ψ L3 (s11l4_G (s11l4 Ψ L3 n7)) m3 worlds3 names3 out1 i1 v24 w2 h_5) (
 s11c5 Ψ L3 (s11l4_G (s11l4 Ψ L3 n7)) m3 worlds3 names3 out1 i1 on w2 h_4)))) (
 s11l6_E (s11l6 Ψ L3) m3 worlds3 names3 out1 i1 on 0 h)

def s11l3 (Ψ : AVal → Heap → Prop) : Nat → s11l3_T
 | 0, _, _, _, _, _, _ => False
 | n5 + 1, m2, worlds2, names2, out, i, h =>
 lenN names2 fun n6 =>
 ifT (decide (i < n6)) (
 s11l4_E (s11l4 Ψ (s11l3_G (s11l3 Ψ n5))) m2 worlds2 names2 out i .nilsl 0 h) (
 retG (.tuple [out, (.int .i64 0)]) h Ψ)

def s11l1 (Ψ : AVal → Heap → Prop) : Nat → s11l1_T
 | 0, _, _, _, _, _ => False
 | n + 1, m, worlds, names, w, h =>
 addOff m 1 fun p =>
 ld1 h p fun v6 =>
 lenN v6 fun n1 =>
 ifT (decide (w < n1)) (
 s11l2_E (s11l2 Ψ (s11l1_G (s11l1 Ψ n))) m worlds names w 0 h) (
 s11l3_E (s11l3 Ψ) m worlds names .nilsl 0 h)

def s11 (Ψ : AVal → Heap → Prop) (m_Up : AVal) (m_Val : AVal) (h : Heap) : Prop :=
 callG prog 7 [(.agg [m_Up, m_Val])] h fun v h_ =>
 tTup v fun l_ =>
 tCons l_ fun v1 l_1 =>
 tCons l_1 fun v2 l_2 =>
 tCons l_2 fun v3 l_3 =>
 tInt .i64 v3 fun v4 =>
 tNil l_3 (
 tAgg v1 fun l_4 =>
 tCons l_4 fun v5 l_5 =>
 tNil l_5 (
 Sym.newRow 1 [(.agg [.nilsl])] h_ fun r h_1 =>
 st false h_1 (.ptr r 0 0) [v5] fun h_2 =>
 ifT (v4 != 0) (
 retG (.tuple [.nilsl, (.int .i64 v4)]) h_2 Ψ) (
 s11l1_E (s11l1 Ψ) (.lptr [m_Up, m_Val]) v2 .nilsl 0 h_2)))

def s11_A (Ψ : AVal → Heap → Prop) : Ann :=
 .seq (.reg [⟨none, [(0, true), (1, false), (2, false)]⟩])
 (.seq (rA 10)
 (.seq (.seq (rA 2)
 (.cond (.seq (rA 3)
 (.leaf))
 (.leaf)))
 (.seq (rA 1)
 (.seq (.seq (rA 1)
 (.block (loopK [1, 5, 7, 8] s11l1_K (s11l1 Ψ) (fun L1 =>
 .seq (.seq (rA 5)
 (.cond (.leaf)
 (.leaf)))
 (.seq (.block (.seq (rA 1)
 (.block (loopK [1, 5, 7, 8, 9] s11l2_K (s11l2 Ψ (LK s11l1_K L1)) (fun L2 =>
 .seq (.seq (rA 8)
 (.cond (.leaf)
 (.leaf)))
 (.seq (.block (rA 11))
 (rA 3)))))))
 (rA 3))))))
 (.seq (rA 1)
 (.seq (.seq (rA 1)
 (.block (loopK [1, 5, 7, 10, 11] s11l3_K (s11l3 Ψ) (fun L3 =>
 .seq (.seq (rA 4)
 (.cond (.leaf)
 (.leaf)))
 (.seq (.block (.seq (rA 1)
 (.seq (.seq (rA 1)
 (.block (loopK [1, 5, 7, 10, 11, 12, 13] s11l4_K (s11l4 Ψ (LK s11l3_K L3)) (fun L4 =>
 .seq (.seq (rA 5)
 (.cond (.leaf)
 (.leaf)))
 (cutK [1, 5, 7, 10, 11, 12, 13] s11c5_K (s11c5 Ψ (LK s11l3_K L3) (LK s11l4_K L4)) (.block (.seq (.draw [(0, false), (1, false), (2, false), (3, false), (4, false), (5, false), (6, false), (7, false), (8, false), (9, false), (10, false), (11, false)] [0, 0, 0, 0, 12, 28, 63, 127, 255, 255, 511, 2047])
 (.seq (rA 1)
 (.cond (.reg [⟨none, [(0, false), (1, false), (2, true), (3, false), (4, false)]⟩])
 (.leaf)))))
 (rA 3))))))
 (.seq (rA 1)
 (.block (loopK [1, 5, 7, 10, 11, 12, 16] s11l6_K (s11l6 Ψ (LK s11l3_K L3)) (fun L6 =>
 .seq (.seq (rA 4)
 (.cond (.leaf)
 (.leaf)))
 (cutK [1, 5, 7, 10, 11, 12, 16] s11c7_K (s11c7 Ψ (LK s11l3_K L3) (LK s11l6_K L6)) (.block (.seq (rA 6)
 (.cond (.reg [⟨none, [(0, false), (1, false), (2, false), (3, false), (4, false), (5, false), (6, false), (7, true), (8, false), (9, false)]⟩])
 (.leaf))))
 (rA 3)))))))))
 (rA 3))))))
 (.seq (rA 3)
 (.leaf))))))))

theorem s11_ok {Ψ : AVal → Heap → Prop} {m_Up : AVal} {m_Val : AVal} {h : Heap} (H : s11 Ψ m_Up m_Val h) : ACalls prog 11 [(.agg [m_Up, m_Val])] h Ψ :=
 calls_of_evF func11 (by kernel_rfl) (by kernel_rfl) (by kernel_rfl)
 (Eq.mpr (by as_aux_lemma => kernel_rfl : oblF prog f11 (s11_A Ψ) Ψ = ((True) ∧ ((True) ∧ ((otP 13) ∧ ((True) ∧ (((True) ∧ ((NK s11l1_K (s11l1 Ψ 0)) ∧ (∀ n1 : Nat, (QK s11l1_K (s11l1 Ψ (n1 + 1))) ∧ ((otP 5) ∧ (((True) ∧ ((NK s11l2_K (s11l2 Ψ (s11l1_G (s11l1 Ψ n1)) 0)) ∧ (∀ n2 : Nat, (QK s11l2_K (s11l2 Ψ (s11l1_G (s11l1 Ψ n1)) (n2 + 1))) ∧ (otP 75)))) ∧ (True)))))) ∧ ((True) ∧ (((True) ∧ ((NK s11l3_K (s11l3 Ψ 0)) ∧ (∀ n3 : Nat, (QK s11l3_K (s11l3 Ψ (n3 + 1))) ∧ ((otP 5) ∧ (((True) ∧ (((True) ∧ ((NK s11l4_K (s11l4 Ψ (s11l3_G (s11l3 Ψ n3)) 0)) ∧ (∀ n4 : Nat, (QK s11l4_K (s11l4 Ψ (s11l3_G (s11l3 Ψ n3)) (n4 + 1))) ∧ ((otP 5) ∧ ((otP 21) ∧ ((QK s11c5_K (s11c5 Ψ (s11l3_G (s11l3 Ψ n3)) (s11l4_G (s11l4 Ψ (s11l3_G (s11l3 Ψ n3)) n4)))) ∧ (True))))))) ∧ ((True) ∧ ((NK s11l6_K (s11l6 Ψ (s11l3_G (s11l3 Ψ n3)) 0)) ∧ (∀ n6 : Nat, (QK s11l6_K (s11l6 Ψ (s11l3_G (s11l3 Ψ n3)) (n6 + 1))) ∧ ((otP 5) ∧ ((otP 5) ∧ ((QK s11c7_K (s11c7 Ψ (s11l3_G (s11l3 Ψ n3)) (s11l6_G (s11l6 Ψ (s11l3_G (s11l3 Ψ n3)) n6)))) ∧ (True))))))))) ∧ (True)))))) ∧ (otP 1))))))))) (⟨trivial, ⟨trivial, ⟨otP_ok 13, ⟨trivial, ⟨⟨trivial, ⟨fun _ _ _ _ _ H => H, fun _ => ⟨oI, ⟨otP_ok 5, ⟨⟨trivial, ⟨fun _ _ _ _ _ _ H => H, fun _ => ⟨oI, otP_ok 75⟩⟩⟩, trivial⟩⟩⟩⟩⟩, ⟨trivial, ⟨⟨trivial, ⟨fun _ _ _ _ _ _ H => H, fun _ => ⟨oI, ⟨otP_ok 5, ⟨⟨trivial, ⟨⟨trivial, ⟨fun _ _ _ _ _ _ _ _ H => H, fun _ => ⟨oI, ⟨otP_ok 5, ⟨otP_ok 21, ⟨oI, trivial⟩⟩⟩⟩⟩⟩, ⟨trivial, ⟨fun _ _ _ _ _ _ _ _ H => H, fun _ => ⟨oI, ⟨otP_ok 5, ⟨otP_ok 5, ⟨oI, trivial⟩⟩⟩⟩⟩⟩⟩⟩, trivial⟩⟩⟩⟩⟩, otP_ok 1⟩⟩⟩⟩⟩⟩⟩))
 (Eq.mpr (by as_aux_lemma => kernel_rfl : evF prog f11 (s11_A Ψ) Ψ [(.agg [m_Up, m_Val])] h = s11 Ψ m_Up m_Val h) H)

/- 13 dictum/heyting.Primes -/
abbrev s13l1_T := AVal → AVal → AVal → Int → Int → Heap → Prop
abbrev s13l1_K : List Kd := [.any, .any, .any, .int .i64, .int .i64]
def s13l1_G (F : s13l1_T) : s13l1_T := GK s13l1_K F
def s13l1_E (F : Nat → s13l1_T) : s13l1_T := EK s13l1_K F
theorem s13l1_go {F : s13l1_T} {x0 x1 x2 : AVal} {x3 x4 : Int} {h : Heap} (H : F x0 x1 x2 x3 x4 h) : s13l1_G F x0 x1 x2 x3 x4 h := gJ_plain rfl H
theorem s13l1_in {F : Nat → s13l1_T} {x0 x1 x2 : AVal} {x3 x4 : Int} {h : Heap} (n : Nat) (H : F n x0 x1 x2 x3 x4 h) : s13l1_E F x0 x1 x2 x3 x4 h := gJ_plain rfl ⟨n, H⟩

abbrev s13l2_T := AVal → AVal → AVal → Int → Int → Int → Int → Int → Heap → Prop
abbrev s13l2_K : List Kd := [.any, .any, .any, .int .i64, .int .i64, .int .i64, .int .i64, .int .i64]
def s13l2_G (F : s13l2_T) : s13l2_T := GK s13l2_K F
def s13l2_E (F : Nat → s13l2_T) : s13l2_T := EK s13l2_K F
theorem s13l2_go {F : s13l2_T} {x0 x1 x2 : AVal} {x3 x4 x5 x6 x7 : Int} {h : Heap} (H : F x0 x1 x2 x3 x4 x5 x6 x7 h) : s13l2_G F x0 x1 x2 x3 x4 x5 x6 x7 h := gJ_plain rfl H
theorem s13l2_in {F : Nat → s13l2_T} {x0 x1 x2 : AVal} {x3 x4 x5 x6 x7 : Int} {h : Heap} (n : Nat) (H : F n x0 x1 x2 x3 x4 x5 x6 x7 h) : s13l2_E F x0 x1 x2 x3 x4 x5 x6 x7 h := gJ_plain rfl ⟨n, H⟩

abbrev s13c3_K : List Kd := [.any, .any, .any, .int .i64, .int .i64, .int .i64, .int .i64, .int .i64]
def s13c3 (Ψ : AVal → Heap → Prop) (L1 : s13l1_T) (L2 : s13l2_T) (t2_2 l_17 split2 : AVal) (x1 t40_2 t41_2 t45_1 t46_1 : Int) (h : Heap) : Prop :=
 rg (t46_1 + 1) (
 L2 t2_2 l_17 split2 x1 t40_2 t41_2 t45_1 (t46_1 + 1) h)

abbrev s13c4_K : List Kd := [.any, .any, .any, .int .i64, .int .i64, .int .i64, .int .i64, .int .i64, .int .i64, .bool]
def s13c4 (Ψ : AVal → Heap → Prop) (L1 : s13l1_T) (L2 : s13l2_T) (t2_3 l_24 split3 : AVal) (x2 z t40_3 t41_3 t45_2 t46_2 : Int) (t63 : Bool) (h : Heap) : Prop :=
 ifT t63 (
 mapPut h split3 (.int .i64 z) (.int .i64 1) fun h_9 =>
 s13c3 Ψ L1 L2 t2_3 l_24 split3 x2 t40_3 t41_3 t45_2 t46_2 h_9) (
 s13c3 Ψ L1 L2 t2_3 l_24 split3 x2 t40_3 t41_3 t45_2 t46_2 h)

def s13l2 (Ψ : AVal → Heap → Prop) (L1 : s13l1_T) : Nat → s13l2_T
 | 0, _, _, _, _, _, _, _, _, _ => False
 | n1 + 1, t2_1, l_16, split1, x, t40_1, t41_1, t45, t46, h =>
 ifT (decide (t46 < t45)) (
 ldN 2 h l_16 fun l_18 =>
 tCons l_18 fun v21 l_19 =>
 tInt .i64 v21 fun v22 =>
 tCons l_19 fun v23 l_20 =>
 tNil l_20 (
 callG prog 37 [(.agg [(.int .i64 v22), v23]), (.int .i64 x), (.int .i64 t46)] h fun v24 h_8 =>
 tTup v24 fun l_21 =>
 tCons l_21 fun v25 l_22 =>
 tInt .i64 v25 fun v26 =>
 tCons l_22 fun v27 l_23 =>
 tBool v27 fun v28 =>
 tNil l_23 (
 ifT (v26 != x) (
 s13c4 Ψ L1 (s13l2_G (s13l2 Ψ L1 n1)) t2_1 l_16 split1 x v26 t40_1 t41_1 t45 t46 (v26 != t46) h_8) (
 s13c4 Ψ L1 (s13l2_G (s13l2 Ψ L1 n1)) t2_1 l_16 split1 x v26 t40_1 t41_1 t45 t46 false h_8)))) (
 rg (t41_1 + 1) (
 L1 t2_1 l_16 split1 t40_1 (t41_1 + 1) h))

abbrev s13l5_T := AVal → AVal → AVal → AVal → Int → Int → Heap → Prop
abbrev s13l5_K : List Kd := [.any, .any, .any, .any, .int .i64, .int .i64]
def s13l5_G (F : s13l5_T) : s13l5_T := GK s13l5_K F
def s13l5_E (F : Nat → s13l5_T) : s13l5_T := EK s13l5_K F
theorem s13l5_go {F : s13l5_T} {x0 x1 x2 x3 : AVal} {x4 x5 : Int} {h : Heap} (H : F x0 x1 x2 x3 x4 x5 h) : s13l5_G F x0 x1 x2 x3 x4 x5 h := gJ_plain rfl H
theorem s13l5_in {F : Nat → s13l5_T} {x0 x1 x2 x3 : AVal} {x4 x5 : Int} {h : Heap} (n : Nat) (H : F n x0 x1 x2 x3 x4 x5 h) : s13l5_E F x0 x1 x2 x3 x4 x5 h := gJ_plain rfl ⟨n, H⟩

abbrev s13c6_K : List Kd := [.any, .any, .any, .any, .int .i64, .int .i64]
def s13c6 (Ψ : AVal → Heap → Prop) (L5 : s13l5_T) (t2_5 l_26 split5 elems1 : AVal) (t69_1 t70_1 : Int) (h : Heap) : Prop :=
 rg (t70_1 + 1) (
 L5 t2_5 l_26 split5 elems1 t69_1 (t70_1 + 1) h)

abbrev s13l7_T := AVal → AVal → AVal → AVal → AVal → Int → Int → Heap → Prop
abbrev s13l7_K : List Kd := [.any, .any, .any, .any, .any, .int .i64, .int .i64]
def s13l7_G (F : s13l7_T) : s13l7_T := GK s13l7_K F
def s13l7_E (F : Nat → s13l7_T) : s13l7_T := EK s13l7_K F
abbrev s13l8_T := AVal → AVal → AVal → AVal → Int → Int → AVal → AVal → Int → Int → AVal → Int → Int → Heap → Prop
abbrev s13l8_K : List Kd := [.any, .any, .any, .any, .int .i64, .int .i64, .any, .any, .int .i64, .int .i64, .any, .int .i64, .int .i64]
def s13l8_G (F : s13l8_T) : s13l8_T := GK s13l8_K F
def s13l8_E (F : Nat → s13l8_T) : s13l8_T := EK s13l8_K F
theorem s13l8_go {F : s13l8_T} {x0 x1 x2 x3 : AVal} {x4 x5 : Int} {x6 x7 : AVal} {x8 x9 : Int} {x10 : AVal} {x11 x12 : Int} {h : Heap} (H : F x0 x1 x2 x3 x4 x5 x6 x7 x8 x9 x10 x11 x12 h) : s13l8_G F x0 x1 x2 x3 x4 x5 x6 x7 x8 x9 x10 x11 x12 h := gJ_plain rfl H
theorem s13l8_in {F : Nat → s13l8_T} {x0 x1 x2 x3 : AVal} {x4 x5 : Int} {x6 x7 : AVal} {x8 x9 : Int} {x10 : AVal} {x11 x12 : Int} {h : Heap} (n : Nat) (H : F n x0 x1 x2 x3 x4 x5 x6 x7 x8 x9 x10 x11 x12 h) : s13l8_E F x0 x1 x2 x3 x4 x5 x6 x7 x8 x9 x10 x11 x12 h := gJ_plain rfl ⟨n, H⟩

abbrev s13c9_K : List Kd := [.any, .any, .any, .any, .int .i64, .int .i64, .any, .any, .int .i64, .int .i64, .any, .int .i64, .int .i64]
def s13c9 (Ψ : AVal → Heap → Prop) (L7 : s13l7_T) (L8 : s13l8_T) (t2_8 l_32 elems4 m2 : AVal) (w1 x4 : Int) (up1 t86_2 : AVal) (t87_2 t88_2 : Int) (t93_1 : AVal) (t94_1 t95_1 : Int) (h : Heap) : Prop :=
 rg (t95_1 + 1) (
 L8 t2_8 l_32 elems4 m2 w1 x4 up1 t86_2 t87_2 t88_2 t93_1 t94_1 (t95_1 + 1) h)

abbrev s13c10_K : List Kd := [.any, .any, .any, .any, .int .i64, .int .i64, .any, .int .i64, .any, .int .i64, .int .i64, .any, .int .i64, .int .i64, .bool]
def s13c10 (Ψ : AVal → Heap → Prop) (L7 : s13l7_T) (L8 : s13l8_T) (t2_9 l_33 elems5 m3 : AVal) (w2 x5 : Int) (up2 : AVal) (v40 : Int) (t86_3 : AVal) (t87_3 t88_3 : Int) (t93_2 : AVal) (t94_2 t95_2 : Int) (t109 : Bool) (h : Heap) : Prop :=
 ifT t109 (
 appC 1 8 h up2 (.lsl 1 [(.int .i64 v40)]) fun v41 h_13 =>
 s13c9 Ψ L7 L8 t2_9 l_33 elems5 m3 w2 x5 v41 t86_3 t87_3 t88_3 t93_2 t94_2 t95_2 h_13) (
 s13c9 Ψ L7 L8 t2_9 l_33 elems5 m3 w2 x5 up2 t86_3 t87_3 t88_3 t93_2 t94_2 t95_2 h)

def s13l8 (Ψ : AVal → Heap → Prop) (L7 : s13l7_T) : Nat → s13l8_T
 | 0, _, _, _, _, _, _, _, _, _, _, _, _, _, _ => False
 | n8 + 1, t2_7, l_31, elems3, m1, w, x3, up, t86_1, t87_1, t88_1, t93, t94, t95, h =>
 ifT (decide (t95 < t94)) (
 ixS 1 t93 t95 fun p3 =>
 ld1 h p3 fun v38 =>
 tInt .i64 v38 fun v39 =>
 ifT (t95 != w) (
 addOff l_31 1 fun p4 =>
 ld1 h p4 fun v42 =>
 callV prog v42 [(.int .i64 v39), (.int .i64 x3)] h fun v43 h_14 =>
 tBool v43 fun v44 =>
 s13c10 Ψ L7 (s13l8_G (s13l8 Ψ L7 n8)) t2_7 l_31 elems3 m1 w x3 up t95 t86_1 t87_1 t88_1 t93 t94 t95 v44 h_14) (
 s13c10 Ψ L7 (s13l8_G (s13l8 Ψ L7 n8)) t2_7 l_31 elems3 m1 w x3 up t95 t86_1 t87_1 t88_1 t93 t94 t95 false h)) (
 addOff m1 0 fun p5 =>
 ld1 h p5 fun v45 =>
 chk (sc up) (
 appC 1 24 h v45 (.lsl 1 [up]) fun v46 h_15 =>
 addOff m1 0 fun p6 =>
 chk (sc v46) (
 st true h_15 p6 [v46] fun h_16 =>
 addOff m1 1 fun p7 =>
 ld1 h_16 p7 fun v47 =>
 appC 1 24 h_16 v47 (.lsl 1 [.nilsl]) fun v48 h_17 =>
 addOff m1 1 fun p8 =>
 chk (sc v48) (
 st true h_17 p8 [v48] fun h_18 =>
 rg (t88_1 + 1) (
 L7 t2_7 l_31 elems3 m1 t86_1 t87_1 (t88_1 + 1) h_18)))))

def s13l7 (Ψ : AVal → Heap → Prop) : Nat → s13l7_T
 | 0, _, _, _, _, _, _, _, _ => False
 | n6 + 1, t2_6, l_30, elems2, m, t86, t87, t88, h =>
 ifT (decide (t88 < t87)) (
 ixS 1 t86 t88 fun p2 =>
 ld1 h p2 fun v36 =>
 tInt .i64 v36 fun v37 =>
 lenN elems2 fun n7 =>
 s13l8_E (s13l8 Ψ (s13l7_G (s13l7 Ψ n6))) t2_6 l_30 elems2 m t88 v37 .nilsl t86 t87 t88 elems2 n7 0 h) (
 ldN 2 h m fun l_34 =>
 tCons l_34 fun v49 l_35 =>
 tCons l_35 fun v50 l_36 =>
 tNil l_36 (
 callG prog 38 [(.agg [v49, v50])] h fun v51 h_19 =>
 tTup v51 fun l_37 =>
 tCons l_37 fun v52 l_38 =>
 tCons l_38 fun v53 l_39 =>
 tInt .i64 v53 fun v54 =>
 tNil l_39 (
 tAgg v52 fun l_40 =>
 tCons l_40 fun v55 l_41 =>
 tCons l_41 fun v56 l_42 =>
 tNil l_42 (
 st false h_19 m [v55, v56] fun h_20 =>
 ldN 2 h_20 m fun l_43 =>
 tCons l_43 fun v57 l_44 =>
 tCons l_44 fun v58 l_45 =>
 tNil l_45 (
 st false h_20 t2_6 [v57, v58] fun h_21 =>
 ldN 2 h_21 t2_6 fun l_46 =>
 tCons l_46 fun v59 l_47 =>
 tCons l_47 fun v60 l_48 =>
 tNil l_48 (
 retG (.tuple [(.agg [v59, v60]), elems2, (.int .i64 0)]) h_21 Ψ))))))

def s13l5 (Ψ : AVal → Heap → Prop) : Nat → s13l5_T
 | 0, _, _, _, _, _, _, _ => False
 | n3 + 1, t2_4, l_25, split4, elems, t69, t70, h =>
 ifT (decide (t70 < t69)) (
 mapGet (.int .i64 0) h split4 (.int .i64 t70) fun v31 b =>
 tInt .i64 v31 fun v32 =>
 ifT (v32 == 0) (
 appC 1 8 h elems (.lsl 1 [(.int .i64 t70)]) fun v33 h_10 =>
 s13c6 Ψ (s13l5_G (s13l5 Ψ n3)) t2_4 l_25 split4 v33 t69 t70 h_10) (
 s13c6 Ψ (s13l5_G (s13l5 Ψ n3)) t2_4 l_25 split4 elems t69 t70 h)) (
 lenN elems fun n4 =>
 ifT (n4 == 0) (
 st false h t2_4 [.nilsl, .nilsl] fun h_11 =>
 ldN 2 h_11 t2_4 fun l_27 =>
 tCons l_27 fun v34 l_28 =>
 tCons l_28 fun v35 l_29 =>
 tNil l_29 (
 retG (.tuple [(.agg [v34, v35]), .nilsl, (.int .i64 231)]) h_11 Ψ)) (
 Sym.newRow 2 [(.agg [.nilsl, .nilsl])] h fun r3 h_12 =>
 lenN elems fun n5 =>
 s13l7_E (s13l7 Ψ) t2_4 l_25 elems (.ptr r3 0 0) elems n5 0 h_12))

def s13l1 (Ψ : AVal → Heap → Prop) : Nat → s13l1_T
 | 0, _, _, _, _, _, _ => False
 | n + 1, t2, l_15, split, t40, t41, h =>
 ifT (decide (t41 < t40)) (
 addOff l_15 0 fun p =>
 ld1 h p fun v19 =>
 tInt .i64 v19 fun v20 =>
 s13l2_E (s13l2 Ψ (s13l1_G (s13l1 Ψ n))) t2 l_15 split t41 t40 t41 v20 0 h) (
 addOff l_15 0 fun p1 =>
 ld1 h p1 fun v29 =>
 tInt .i64 v29 fun v30 =>
 s13l5_E (s13l5 Ψ) t2 l_15 split .nilsl v30 0 h)

def s13 (Ψ : AVal → Heap → Prop) (a_Leq : AVal) (h : Heap) : Prop :=
 Sym.newRow 2 [(.agg [.nilsl, .nilsl])] h fun r h_ =>
 callG prog 35 [(.agg [a_Leq]), .nilsl] h_ fun v h_1 =>
 tTup v fun l_ =>
 tCons l_ fun v1 l_1 =>
 tCons l_1 fun v2 l_2 =>
 tInt .i64 v2 fun v3 =>
 tNil l_2 (
 tAgg v1 fun l_3 =>
 tCons l_3 fun v4 l_4 =>
 tInt .i64 v4 fun v5 =>
 tCons l_4 fun v6 l_5 =>
 tNil l_5 (
 Sym.newRow 2 [(.agg [(.int .i64 0), .nilfunc])] h_1 fun r1 h_2 =>
 st false h_2 (.ptr r1 0 0) [(.int .i64 v5), v6] fun h_3 =>
 ifT (v3 != 0) (
 st false h_3 (.ptr r 0 0) [.nilsl, .nilsl] fun h_4 =>
 ldN 2 h_4 (.ptr r 0 0) fun l_6 =>
 tCons l_6 fun v7 l_7 =>
 tCons l_7 fun v8 l_8 =>
 tNil l_8 (
 retG (.tuple [(.agg [v7, v8]), .nilsl, (.int .i64 v3)]) h_4 Ψ)) (
 ldN 2 h_3 (.ptr r1 0 0) fun l_9 =>
 tCons l_9 fun v9 l_10 =>
 tInt .i64 v9 fun v10 =>
 tCons l_10 fun v11 l_11 =>
 tNil l_11 (
 callG prog 36 [(.agg [(.int .i64 v10), v11])] h_3 fun v12 h_5 =>
 tTup v12 fun l_12 =>
 tCons l_12 fun v13 l_13 =>
 tInt .i64 v13 fun v14 =>
 tCons l_13 fun v15 l_14 =>
 tInt .i64 v15 fun v16 =>
 tNil l_14 (
 newMap h_5 fun r2 h_6 =>
 mapPut h_6 (.mapr r2) (.int .i64 v14) (.int .i64 1) fun h_7 =>
 ld1 h_7 (.ptr r1 0 0) fun v17 =>
 tInt .i64 v17 fun v18 =>
 s13l1_E (s13l1 Ψ) (.ptr r 0 0) (.ptr r1 0 0) (.mapr r2) v18 0 h_7)))))

def s13_A (Ψ : AVal → Heap → Prop) : Ann :=
 .seq (.reg [⟨none, [(0, true), (1, false), (2, false), (3, false)]⟩])
 (.seq (rA 8)
 (.seq (.seq (rA 2)
 (.cond (.seq (rA 5)
 (.leaf))
 (.leaf)))
 (.seq (rA 7)
 (.seq (rA 5)
 (.seq (.seq (rA 3)
 (.block (loopK [2, 5, 9, 40, 41] s13l1_K (s13l1 Ψ) (fun L1 =>
 .seq (rA 1)
 (.seq (.cond (.leaf)
 (.leaf))
 (.seq (.block (.seq (rA 2)
 (.seq (rA 3)
 (.block (loopK [2, 5, 9, 10, 40, 41, 45, 46] s13l2_K (s13l2 Ψ (LK s13l1_K L1)) (fun L2 =>
 .seq (rA 1)
 (.seq (.cond (.leaf)
 (.leaf))
 (cutK [2, 5, 9, 10, 40, 41, 45, 46] s13c3_K (s13c3 Ψ (LK s13l1_K L1) (LK s13l2_K L2)) (.block (.seq (rA 2)
 (.seq (rA 9)
 (cutK [2, 5, 9, 10, 12, 40, 41, 45, 46, 63] s13c4_K (s13c4 Ψ (LK s13l1_K L1) (LK s13l2_K L2)) (.reg [⟨none, [(0, false), (1, false), (2, false), (3, false)]⟩, ⟨some (59, true), [(4, false), (5, false), (6, false)]⟩, ⟨none, [(7, false)]⟩])
 (.cond (rA 3)
 (.leaf))))))
 (rA 2)))))))))
 (rA 2)))))))
 (.seq (rA 1)
 (.seq (.seq (rA 3)
 (.block (loopK [2, 5, 9, 14, 69, 70] s13l5_K (s13l5 Ψ) (fun L5 =>
 .seq (rA 1)
 (.seq (.cond (.leaf)
 (.leaf))
 (cutK [2, 5, 9, 14, 69, 70] s13c6_K (s13c6 Ψ (LK s13l5_K L5)) (.block (.seq (rA 2)
 (.seq (rA 4)
 (.cond (.reg [⟨none, [(0, false), (1, false), (2, true), (3, false), (4, false)]⟩])
 (.leaf)))))
 (rA 2)))))))
 (.seq (.seq (rA 3)
 (.cond (.seq (rA 4)
 (.leaf))
 (.leaf)))
 (.seq (rA 1)
 (.seq (.seq (rA 3)
 (.block (loopK [2, 5, 14, 16, 86, 87, 88] s13l7_K (s13l7 Ψ) (fun L7 =>
 .seq (rA 1)
 (.seq (.cond (.leaf)
 (.leaf))
 (.seq (.block (.seq (rA 5)
 (.seq (rA 1)
 (.seq (.seq (rA 3)
 (.block (loopK [2, 5, 14, 16, 17, 18, 19, 86, 87, 88, 93, 94, 95] s13l8_K (s13l8 Ψ (LK s13l7_K L7)) (fun L8 =>
 .seq (rA 1)
 (.seq (.cond (.leaf)
 (.leaf))
 (cutK [2, 5, 14, 16, 17, 18, 19, 86, 87, 88, 93, 94, 95] s13c9_K (s13c9 Ψ (LK s13l7_K L7) (LK s13l8_K L8)) (.block (.seq (rA 5)
 (cutK [2, 5, 14, 16, 17, 18, 19, 20, 86, 87, 88, 93, 94, 95, 109] s13c10_K (s13c10 Ψ (LK s13l7_K L7) (LK s13l8_K L8)) (.reg [⟨none, [(0, false), (1, false), (2, false), (3, false)]⟩, ⟨some (103, true), [(4, false), (5, false), (6, false), (7, false), (8, false)]⟩, ⟨none, [(9, false)]⟩])
 (.cond (.reg [⟨none, [(0, false), (1, false), (2, true), (3, false), (4, false)]⟩])
 (.leaf)))))
 (rA 2)))))))
 (.seq (.reg [⟨none, [(0, false), (1, false), (2, false), (3, true), (4, false), (5, false), (6, false)]⟩])
 (.reg [⟨none, [(0, false), (1, false), (2, true), (3, false), (4, false), (5, false)]⟩]))))))
 (rA 2)))))))
 (.seq (rA 6)
 (.seq (rA 5)
 (.leaf)))))))))))))

theorem s13_ok {Ψ : AVal → Heap → Prop} {a_Leq : AVal} {h : Heap} (H : s13 Ψ a_Leq h) : ACalls prog 13 [(.agg [a_Leq])] h Ψ :=
 calls_of_evF func13 (by kernel_rfl) (by kernel_rfl) (by kernel_rfl)
 (Eq.mpr (by as_aux_lemma => kernel_rfl : oblF prog f13 (s13_A Ψ) Ψ = ((True) ∧ ((True) ∧ ((otP 13) ∧ ((True) ∧ ((True) ∧ (((True) ∧ ((NK s13l1_K (s13l1 Ψ 0)) ∧ (∀ n1 : Nat, (QK s13l1_K (s13l1 Ψ (n1 + 1))) ∧ ((True) ∧ ((otP 1) ∧ (((True) ∧ ((True) ∧ ((NK s13l2_K (s13l2 Ψ (s13l1_G (s13l1 Ψ n1)) 0)) ∧ (∀ n2 : Nat, (QK s13l2_K (s13l2 Ψ (s13l1_G (s13l1 Ψ n1)) (n2 + 1))) ∧ ((True) ∧ ((otP 1) ∧ (((True) ∧ ((True) ∧ ((True) ∧ ((QK s13c4_K (s13c4 Ψ (s13l1_G (s13l1 Ψ n1)) (s13l2_G (s13l2 Ψ (s13l1_G (s13l1 Ψ n1)) n2)))) ∧ (otP 1))))) ∧ ((QK s13c3_K (s13c3 Ψ (s13l1_G (s13l1 Ψ n1)) (s13l2_G (s13l2 Ψ (s13l1_G (s13l1 Ψ n1)) n2)))) ∧ (True))))))))) ∧ (True))))))) ∧ ((True) ∧ (((True) ∧ ((NK s13l5_K (s13l5 Ψ 0)) ∧ (∀ n5 : Nat, (QK s13l5_K (s13l5 Ψ (n5 + 1))) ∧ ((True) ∧ ((otP 1) ∧ ((otP 21) ∧ ((QK s13c6_K (s13c6 Ψ (s13l5_G (s13l5 Ψ n5)))) ∧ (True)))))))) ∧ ((otP 13) ∧ ((True) ∧ (((True) ∧ ((NK s13l7_K (s13l7 Ψ 0)) ∧ (∀ n7 : Nat, (QK s13l7_K (s13l7 Ψ (n7 + 1))) ∧ ((True) ∧ ((otP 1) ∧ (((True) ∧ ((True) ∧ (((True) ∧ ((NK s13l8_K (s13l8 Ψ (s13l7_G (s13l7 Ψ n7)) 0)) ∧ (∀ n8 : Nat, (QK s13l8_K (s13l8 Ψ (s13l7_G (s13l7 Ψ n7)) (n8 + 1))) ∧ ((True) ∧ ((otP 1) ∧ (((True) ∧ ((True) ∧ ((QK s13c10_K (s13c10 Ψ (s13l7_G (s13l7 Ψ n7)) (s13l8_G (s13l8 Ψ (s13l7_G (s13l7 Ψ n7)) n8)))) ∧ (otP 1)))) ∧ ((QK s13c9_K (s13c9 Ψ (s13l7_G (s13l7 Ψ n7)) (s13l8_G (s13l8 Ψ (s13l7_G (s13l7 Ψ n7)) n8)))) ∧ (True)))))))) ∧ (otP 1)))) ∧ (True))))))) ∧ (otP 5))))))))))))) (⟨trivial, ⟨trivial, ⟨otP_ok 13, ⟨trivial, ⟨trivial, ⟨⟨trivial, ⟨fun _ _ _ _ _ _ H => H, fun _ => ⟨oI, ⟨trivial, ⟨otP_ok 1, ⟨⟨trivial, ⟨trivial, ⟨fun _ _ _ _ _ _ _ _ _ H => H, fun _ => ⟨oI, ⟨trivial, ⟨otP_ok 1, ⟨⟨trivial, ⟨trivial, ⟨trivial, ⟨oI, otP_ok 1⟩⟩⟩⟩, ⟨oI, trivial⟩⟩⟩⟩⟩⟩⟩⟩, trivial⟩⟩⟩⟩⟩⟩, ⟨trivial, ⟨⟨trivial, ⟨fun _ _ _ _ _ _ _ H => H, fun _ => ⟨oI, ⟨trivial, ⟨otP_ok 1, ⟨otP_ok 21, ⟨oI, trivial⟩⟩⟩⟩⟩⟩⟩, ⟨otP_ok 13, ⟨trivial, ⟨⟨trivial, ⟨fun _ _ _ _ _ _ _ _ H => H, fun _ => ⟨oI, ⟨trivial, ⟨otP_ok 1, ⟨⟨trivial, ⟨trivial, ⟨⟨trivial, ⟨fun _ _ _ _ _ _ _ _ _ _ _ _ _ _ H => H, fun _ => ⟨oI, ⟨trivial, ⟨otP_ok 1, ⟨⟨trivial, ⟨trivial, ⟨oI, otP_ok 1⟩⟩⟩, ⟨oI, trivial⟩⟩⟩⟩⟩⟩⟩, otP_ok 1⟩⟩⟩, trivial⟩⟩⟩⟩⟩⟩, otP_ok 5⟩⟩⟩⟩⟩⟩⟩⟩⟩⟩⟩))
 (Eq.mpr (by as_aux_lemma => kernel_rfl : evF prog f13 (s13_A Ψ) Ψ [(.agg [a_Leq])] h = s13 Ψ a_Leq h) H)

/- 15 dictum/heyting.Chain -/
abbrev s15l2_T := Int → AVal → AVal → Int → Int → Heap → Prop
abbrev s15l2_K : List Kd := [.int .i64, .any, .any, .int .i64, .int .i64]
def s15l2_G (F : s15l2_T) : s15l2_T := GK s15l2_K F
def s15l2_E (F : Nat → s15l2_T) : s15l2_T := EK s15l2_K F
theorem s15l2_in {F : Nat → s15l2_T} {x0 : Int} {x1 x2 : AVal} {x3 x4 : Int} {h : Heap} (n : Nat) (H : F n x0 x1 x2 x3 x4 h) : s15l2_E F x0 x1 x2 x3 x4 h := gJ_plain rfl ⟨n, H⟩

abbrev s15l3_T := Int → AVal → AVal → AVal → Int → Int → Int → Heap → Prop
abbrev s15l3_K : List Kd := [.int .i64, .any, .any, .any, .int .i64, .int .i64, .int .i64]
def s15l3_G (F : s15l3_T) : s15l3_T := GK s15l3_K F
def s15l3_E (F : Nat → s15l3_T) : s15l3_T := EK s15l3_K F
theorem s15l3_go {F : s15l3_T} {x0 : Int} {x1 x2 x3 : AVal} {x4 x5 x6 : Int} {h : Heap} (H : F x0 x1 x2 x3 x4 x5 x6 h) : s15l3_G F x0 x1 x2 x3 x4 x5 x6 h := gJ_plain rfl H
theorem s15l3_in {F : Nat → s15l3_T} {x0 : Int} {x1 x2 x3 : AVal} {x4 x5 x6 : Int} {h : Heap} (n : Nat) (H : F n x0 x1 x2 x3 x4 x5 x6 h) : s15l3_E F x0 x1 x2 x3 x4 x5 x6 h := gJ_plain rfl ⟨n, H⟩

def s15l3 (Ψ : AVal → Heap → Prop) (L2 : s15l2_T) : Nat → s15l3_T
 | 0, _, _, _, _, _, _, _, _ => False
 | n5 + 1, n4, t2_2, a1, row, y, t15_1, t16_1, h =>
 ifT (decide (y < n4)) (
 ixS 1 row y fun p =>
 st true h p [(.bool true)] fun h_4 =>
 rg (y + 1) (
 s15l3_G (s15l3 Ψ L2 n5) n4 t2_2 a1 row (y + 1) t15_1 t16_1 h_4)) (
 addOff a1 0 fun p1 =>
 ld1 h p1 fun v2 =>
 chk (sc row) (
 appC 1 24 h v2 (.lsl 1 [row]) fun v3 h_5 =>
 addOff a1 0 fun p2 =>
 chk (sc v3) (
 st true h_5 p2 [v3] fun h_6 =>
 rg (t16_1 + 1) (
 L2 n4 t2_2 a1 t15_1 (t16_1 + 1) h_6))))

def s15l2 (Ψ : AVal → Heap → Prop) : Nat → s15l2_T
 | 0, _, _, _, _, _, _ => False
 | n3 + 1, n2, t2_1, a, t15, t16, h =>
 ifT (decide (t16 < t15)) (
 mkS false 1 1 (.bool false) h n2 n2 fun v1 h_3 =>
 s15l3_E (s15l3 Ψ (s15l2_G (s15l2 Ψ n3))) n2 t2_1 a v1 t16 t15 t16 h_3) (
 ldN 1 h a fun l_2 =>
 tCons l_2 fun v4 l_3 =>
 tNil l_3 (
 st false h t2_1 [v4] fun h_7 =>
 ldN 1 h_7 t2_1 fun l_4 =>
 tCons l_4 fun v5 l_5 =>
 tNil l_5 (
 retG (.tuple [(.agg [v5]), (.int .i64 0)]) h_7 Ψ)))

abbrev s15c1_K : List Kd := [.int .i64, .any, .bool]
def s15c1 (Ψ : AVal → Heap → Prop) (n1 : Int) (t2 : AVal) (t13 : Bool) (h : Heap) : Prop :=
 ifT t13 (
 st false h t2 [.nilsl] fun h_1 =>
 ldN 1 h_1 t2 fun l_ =>
 tCons l_ fun v l_1 =>
 tNil l_1 (
 retG (.tuple [(.agg [v]), (.int .i64 2)]) h_1 Ψ)) (
 Sym.newRow 1 [(.agg [.nilsl])] h fun r1 h_2 =>
 s15l2_E (s15l2 Ψ) n1 t2 (.ptr r1 0 0) n1 0 h_2)

def s15 (Ψ : AVal → Heap → Prop) (n : Int) (h : Heap) : Prop :=
 Sym.newRow 1 [(.agg [.nilsl])] h fun r h_ =>
 ifT (decide (n < 1)) (
 s15c1 Ψ n (.ptr r 0 0) true h_) (
 s15c1 Ψ n (.ptr r 0 0) (decide (64 < n)) h_)

def s15_A (Ψ : AVal → Heap → Prop) : Ann :=
 .seq (rA 2)
 (.seq (cutK [0, 2, 13] s15c1_K (s15c1 Ψ) (.reg [⟨none, [(0, false), (1, false), (2, false)]⟩, ⟨some (10, false), [(3, false), (4, false)]⟩, ⟨none, [(5, false)]⟩])
 (.cond (.seq (rA 3)
 (.leaf))
 (.leaf)))
 (.seq (rA 1)
 (.seq (.seq (rA 2)
 (.block (loopK [0, 2, 4, 15, 16] s15l2_K (s15l2 Ψ) (fun L2 =>
 .seq (rA 1)
 (.seq (.cond (.leaf)
 (.leaf))
 (.seq (.block (.seq (rA 2)
 (.seq (rA 3)
 (.seq (.seq (rA 2)
 (.block (loopK [0, 2, 4, 6, 7, 15, 16] s15l3_K (s15l3 Ψ (LK s15l2_K L2)) (fun L3 =>
 .seq (.seq (rA 3)
 (.cond (.leaf)
 (.leaf)))
 (.seq (.block (rA 4))
 (rA 3))))))
 (.reg [⟨none, [(0, false), (1, false), (2, false), (3, true), (4, false), (5, false), (6, false)]⟩])))))
 (rA 2)))))))
 (.seq (rA 3)
 (.leaf)))))

theorem s15_ok {Ψ : AVal → Heap → Prop} {n : Int} {h : Heap} (H : s15 Ψ n h) : ACalls prog 15 [(.int .i64 n)] h Ψ :=
 calls_of_evF func15 (by kernel_rfl) (by kernel_rfl) (by kernel_rfl)
 (Eq.mpr (by as_aux_lemma => kernel_rfl : oblF prog f15 (s15_A Ψ) Ψ = ((True) ∧ (((True) ∧ ((QK s15c1_K (s15c1 Ψ)) ∧ (otP 3))) ∧ ((True) ∧ (((True) ∧ ((NK s15l2_K (s15l2 Ψ 0)) ∧ (∀ n2 : Nat, (QK s15l2_K (s15l2 Ψ (n2 + 1))) ∧ ((True) ∧ ((otP 1) ∧ (((True) ∧ ((True) ∧ (((True) ∧ ((NK s15l3_K (s15l3 Ψ (s15l2_G (s15l2 Ψ n2)) 0)) ∧ (∀ n3 : Nat, (QK s15l3_K (s15l3 Ψ (s15l2_G (s15l2 Ψ n2)) (n3 + 1))) ∧ (otP 75)))) ∧ (True)))) ∧ (True))))))) ∧ (otP 1)))))) (⟨trivial, ⟨⟨trivial, ⟨oI, otP_ok 3⟩⟩, ⟨trivial, ⟨⟨trivial, ⟨fun _ _ _ _ _ _ H => H, fun _ => ⟨oI, ⟨trivial, ⟨otP_ok 1, ⟨⟨trivial, ⟨trivial, ⟨⟨trivial, ⟨fun _ _ _ _ _ _ _ _ H => H, fun _ => ⟨oI, otP_ok 75⟩⟩⟩, trivial⟩⟩⟩, trivial⟩⟩⟩⟩⟩⟩, otP_ok 1⟩⟩⟩⟩))
 (Eq.mpr (by as_aux_lemma => kernel_rfl : evF prog f15 (s15_A Ψ) Ψ [(.int .i64 n)] h = s15 Ψ n h) H)

/- 17 dictum/dictumref17.Same -/
abbrev s17l2_T := AVal → AVal → Int → Heap → Prop
abbrev s17l2_K : List Kd := [.any, .any, .int .i64]
def s17l2_G (F : s17l2_T) : s17l2_T := GK s17l2_K F
def s17l2_E (F : Nat → s17l2_T) : s17l2_T := EK s17l2_K F
theorem s17l2_go {F : s17l2_T} {x0 x1 : AVal} {x2 : Int} {h : Heap} (H : F x0 x1 x2 h) : s17l2_G F x0 x1 x2 h := gJ_plain rfl H
theorem s17l2_in {F : Nat → s17l2_T} {x0 x1 : AVal} {x2 : Int} {h : Heap} (n : Nat) (H : F n x0 x1 x2 h) : s17l2_E F x0 x1 x2 h := gJ_plain rfl ⟨n, H⟩

abbrev s17l3_T := AVal → AVal → Int → Heap → Prop
abbrev s17l3_K : List Kd := [.any, .any, .int .i64]
def s17l3_G (F : s17l3_T) : s17l3_T := GK s17l3_K F
def s17l3_E (F : Nat → s17l3_T) : s17l3_T := EK s17l3_K F
theorem s17l3_go {F : s17l3_T} {x0 x1 : AVal} {x2 : Int} {h : Heap} (H : F x0 x1 x2 h) : s17l3_G F x0 x1 x2 h := gJ_plain rfl H
theorem s17l3_in {F : Nat → s17l3_T} {x0 x1 : AVal} {x2 : Int} {h : Heap} (n : Nat) (H : F n x0 x1 x2 h) : s17l3_E F x0 x1 x2 h := gJ_plain rfl ⟨n, H⟩

def s17l3 (Ψ : AVal → Heap → Prop) : Nat → s17l3_T
 | 0, _, _, _, _ => False
 | n2 + 1, a2, b2, i1, h =>
 addOff a2 1 fun p5 =>
 ld1 h p5 fun v7 =>
 lenN v7 fun n3 =>
 ifT (decide (i1 < n3)) (
 addOff a2 1 fun p6 =>
 ld1 h p6 fun v8 =>
 ixS 1 v8 i1 fun p7 =>
 ld1 h p7 fun v9 =>
 addOff b2 1 fun p8 =>
 ld1 h p8 fun v10 =>
 ixS 1 v10 i1 fun p9 =>
 ld1 h p9 fun v11 =>
 callG prog 42 [v9, v11] h fun v12 h_1 =>
 tBool v12 fun v13 =>
 ifT (!v13) (
 retG (.bool false) h_1 Ψ) (
 rg (i1 + 1) (
 s17l3_G (s17l3 Ψ n2) a2 b2 (i1 + 1) h_1))) (
 retG (.bool true) h Ψ)

def s17l2 (Ψ : AVal → Heap → Prop) : Nat → s17l2_T
 | 0, _, _, _, _ => False
 | n + 1, a1, b1, i, h =>
 addOff a1 0 fun p =>
 ld1 h p fun v =>
 lenN v fun n1 =>
 ifT (decide (i < n1)) (
 addOff a1 0 fun p1 =>
 ld1 h p1 fun v1 =>
 ixS 1 v1 i fun p2 =>
 ld1 h p2 fun v2 =>
 addOff b1 0 fun p3 =>
 ld1 h p3 fun v3 =>
 ixS 1 v3 i fun p4 =>
 ld1 h p4 fun v4 =>
 callG prog 18 [v2, v4] h fun v5 h_ =>
 tBool v5 fun v6 =>
 ifT (!v6) (
 retG (.bool false) h_ Ψ) (
 rg (i + 1) (
 s17l2_G (s17l2 Ψ n) a1 b1 (i + 1) h_))) (
 s17l3_E (s17l3 Ψ) a1 b1 0 h)

abbrev s17c1_K : List Kd := [.any, .any, .bool]
def s17c1 (Ψ : AVal → Heap → Prop) (a b : AVal) (t22 : Bool) (h : Heap) : Prop :=
 ifT t22 (
 retG (.bool false) h Ψ) (
 s17l2_E (s17l2 Ψ) a b 0 h)

def s17 (Ψ : AVal → Heap → Prop) (a_Up : AVal) (a_Val : AVal) (b_Up : AVal) (b_Val : AVal) (h : Heap) : Prop :=
 lenN a_Up fun n6 =>
 lenN b_Up fun n7 =>
 ifT (n6 != n7) (
 s17c1 Ψ (.lptr [a_Up, a_Val]) (.lptr [b_Up, b_Val]) true h) (
 lenN a_Val fun n8 =>
 lenN b_Val fun n9 =>
 s17c1 Ψ (.lptr [a_Up, a_Val]) (.lptr [b_Up, b_Val]) (n8 != n9) h)

def s17_A (Ψ : AVal → Heap → Prop) : Ann :=
 .seq (.reg [⟨none, [(0, true), (1, true), (2, false)]⟩])
 (.seq (cutK [2, 3, 22] s17c1_K (s17c1 Ψ) (.reg [⟨none, [(0, false), (1, false), (2, false), (3, false), (4, false), (5, false), (6, false), (7, false)]⟩, ⟨some (14, false), [(8, false), (9, false), (10, false), (11, false), (12, false), (13, false), (14, false)]⟩, ⟨none, [(15, false)]⟩])
 (.cond (.seq (rA 1)
 (.leaf))
 (.leaf)))
 (.seq (.seq (rA 1)
 (.block (loopK [2, 3, 5] s17l2_K (s17l2 Ψ) (fun L2 =>
 .seq (.seq (rA 5)
 (.cond (.leaf)
 (.leaf)))
 (.seq (.block (.seq (.draw [(0, false), (1, false), (2, false), (3, false), (4, false), (5, false), (6, false), (7, false), (8, false), (9, false), (10, false), (11, false)] [0, 1, 0, 7, 15, 0, 32, 0, 224, 480, 1023, 2047])
 (.cond (.seq (rA 1)
 (.leaf))
 (.leaf))))
 (rA 3))))))
 (.seq (.seq (rA 1)
 (.block (loopK [2, 3, 6] s17l3_K (s17l3 Ψ) (fun L3 =>
 .seq (.seq (rA 5)
 (.cond (.leaf)
 (.leaf)))
 (.seq (.block (.seq (.draw [(0, false), (1, false), (2, false), (3, false), (4, false), (5, false), (6, false), (7, false), (8, false), (9, false), (10, false), (11, false)] [0, 1, 0, 7, 15, 0, 32, 0, 224, 480, 1023, 2047])
 (.cond (.seq (rA 1)
 (.leaf))
 (.leaf))))
 (rA 3))))))
 (.seq (rA 1)
 (.leaf)))))

theorem s17_ok {Ψ : AVal → Heap → Prop} {a_Up : AVal} {a_Val : AVal} {b_Up : AVal} {b_Val : AVal} {h : Heap} (H : s17 Ψ a_Up a_Val b_Up b_Val h) : ACalls prog 17 [(.agg [a_Up, a_Val]), (.agg [b_Up, b_Val])] h Ψ :=
 calls_of_evF func17 (by kernel_rfl) (by kernel_rfl) (by kernel_rfl)
 (Eq.mpr (by as_aux_lemma => kernel_rfl : oblF prog f17 (s17_A Ψ) Ψ = ((True) ∧ (((True) ∧ ((QK s17c1_K (s17c1 Ψ)) ∧ (otP 3))) ∧ (((True) ∧ ((NK s17l2_K (s17l2 Ψ 0)) ∧ (∀ n2 : Nat, (QK s17l2_K (s17l2 Ψ (n2 + 1))) ∧ (otP 1739)))) ∧ (((True) ∧ ((NK s17l3_K (s17l3 Ψ 0)) ∧ (∀ n3 : Nat, (QK s17l3_K (s17l3 Ψ (n3 + 1))) ∧ (otP 1739)))) ∧ (otP 1)))))) (⟨trivial, ⟨⟨trivial, ⟨oI, otP_ok 3⟩⟩, ⟨⟨trivial, ⟨fun _ _ _ _ H => H, fun _ => ⟨oI, otP_ok 1739⟩⟩⟩, ⟨⟨trivial, ⟨fun _ _ _ _ H => H, fun _ => ⟨oI, otP_ok 1739⟩⟩⟩, otP_ok 1⟩⟩⟩⟩))
 (Eq.mpr (by as_aux_lemma => kernel_rfl : evF prog f17 (s17_A Ψ) Ψ [(.agg [a_Up, a_Val]), (.agg [b_Up, b_Val])] h = s17 Ψ a_Up a_Val b_Up b_Val h) H)

/- 19 dictum/dictumlaw23.heads -/
def s19 (Ψ : AVal → Heap → Prop) (h : Heap) : Prop :=
 callG prog 15 [(.int .i64 3)] h fun v h_ =>
 tTup v fun l_ =>
 tCons l_ fun v1 l_1 =>
 tCons l_1 fun v2 l_2 =>
 tInt .i64 v2 fun v3 =>
 tNil l_2 (
 tAgg v1 fun l_3 =>
 tCons l_3 fun v4 l_4 =>
 tNil l_4 (
 Sym.newRow 1 [(.agg [.nilsl])] h_ fun r h_1 =>
 st false h_1 (.ptr r 0 0) [v4] fun h_2 =>
 callG prog 15 [(.int .i64 2)] h_2 fun v5 h_3 =>
 tTup v5 fun l_5 =>
 tCons l_5 fun v6 l_6 =>
 tCons l_6 fun v7 l_7 =>
 tInt .i64 v7 fun v8 =>
 tNil l_7 (
 tAgg v6 fun l_8 =>
 tCons l_8 fun v9 l_9 =>
 tNil l_9 (
 Sym.newRow 1 [(.agg [.nilsl])] h_3 fun r1 h_4 =>
 st false h_4 (.ptr r1 0 0) [v9] fun h_5 =>
 ldN 1 h_5 (.ptr r 0 0) fun l_10 =>
 tCons l_10 fun v10 l_11 =>
 tNil l_11 (
 callG prog 43 [(.agg [v10]), (.int .i64 1), (.int .i64 0)] h_5 fun v11 h_6 =>
 tTup v11 fun l_12 =>
 tCons l_12 fun v12 l_13 =>
 tInt .i64 v12 fun v13 =>
 tCons l_13 fun v14 l_14 =>
 tInt .i64 v14 fun v15 =>
 tNil l_14 (
 ldN 1 h_6 (.ptr r 0 0) fun l_15 =>
 tCons l_15 fun v16 l_16 =>
 tNil l_16 (
 callG prog 43 [(.agg [v16]), (.int .i64 0), (.int .i64 1)] h_6 fun v17 h_7 =>
 tTup v17 fun l_17 =>
 tCons l_17 fun v18 l_18 =>
 tInt .i64 v18 fun v19 =>
 tCons l_18 fun v20 l_19 =>
 tInt .i64 v20 fun v21 =>
 tNil l_19 (
 ldN 1 h_7 (.ptr r 0 0) fun l_20 =>
 tCons l_20 fun v22 l_21 =>
 tNil l_21 (
 callG prog 44 [(.agg [v22])] h_7 fun v23 h_8 =>
 tTup v23 fun l_22 =>
 tCons l_22 fun v24 l_23 =>
 tBool v24 fun v25 =>
 tCons l_23 fun v26 l_24 =>
 tInt .i64 v26 fun v27 =>
 tNil l_24 (
 ldN 1 h_8 (.ptr r1 0 0) fun l_25 =>
 tCons l_25 fun v28 l_26 =>
 tNil l_26 (
 callG prog 44 [(.agg [v28])] h_8 fun v29 h_9 =>
 tTup v29 fun l_27 =>
 tCons l_27 fun v30 l_28 =>
 tBool v30 fun v31 =>
 tCons l_28 fun v32 l_29 =>
 tInt .i64 v32 fun v33 =>
 tNil l_29 (
 callG prog 6 [(.agg [(.lsl 1 [(.lsl 1 [(.int .i64 1)]), .nilsl]), (.lsl 1 [.nilsl, .nilsl])])] h_9 fun v34 h_10 =>
 tTup v34 fun l_30 =>
 tCons l_30 fun v35 l_31 =>
 tCons l_31 fun v36 l_32 =>
 tCons l_32 fun v37 l_33 =>
 tInt .i64 v37 fun v38 =>
 tNil l_33 (
 tAgg v35 fun l_34 =>
 tCons l_34 fun v39 l_35 =>
 tNil l_35 (
 Sym.newRow 1 [(.agg [.nilsl])] h_10 fun r2 h_11 =>
 st false h_11 (.ptr r2 0 0) [v39] fun h_12 =>
 (((mkS true 1 24 .nilsl h_12 7 7 fun v40 h_13 =>
 mkS true 1 24 .nilsl h_13 7 7 fun v41 h_14 =>
 chk (sc v40) (
 chk (sc v41) (
 ∃ v42, (callG prog 6 [(.agg [v40, v41])] h_14 fun v h2 => v = v42 ∧ h2 = h_14) ∧
 tTup v42 fun l_36 =>
 tCons l_36 fun v43 l_37 =>
 tCons l_37 fun v44 l_38 =>
 tCons l_38 fun v45 l_39 =>
 tInt .i64 v45 fun v46 =>
 tNil l_39 (
 tAgg v43 fun l_40 =>
 tCons l_40 fun v47 l_41 =>
 tNil l_41 (
 Sym.newRow 1 [(.agg [.nilsl])] h_14 fun r3 h_16 =>
 ((callG prog 6 [(.agg [v40, v41])] h_16 fun v h2 => v = (.tuple [v43, v44, (.int .i64 v46)]) ∧ h2 = h_16)) ∧
 st false h_16 (.ptr r3 0 0) [v47] fun h_18 =>
 ldN 1 h_18 (.ptr r 0 0) fun l_42 =>
 tCons l_42 fun v49 l_43 =>
 tNil l_43 (
 callG prog 13 [(.agg [v49])] h_18 fun v50 h_19 =>
 tTup v50 fun l_44 =>
 tCons l_44 fun v51 l_45 =>
 tCons l_45 fun v52 l_46 =>
 tCons l_46 fun v53 l_47 =>
 tInt .i64 v53 fun v54 =>
 tNil l_47 (
 tAgg v51 fun l_48 =>
 tCons l_48 fun v55 l_49 =>
 tCons l_49 fun v56 l_50 =>
 tNil l_50 (
 Sym.newRow 2 [(.agg [.nilsl, .nilsl])] h_19 fun r4 h_20 =>
 st false h_20 (.ptr r4 0 0) [v55, v56] fun h_21 =>
 ifT (v3 == 0) (
 ifT (v8 == 0) (
 ifT (v15 == 0) (
 ifT (v21 == 0) (
 ifT (v27 == 0) (
 ifT (v33 == 0) (
 ifT (v13 == 0) (
 ifT (v19 == 2) (
 ifT (!v25) (
 ifT v31 (
 ifT (v38 == 0) (
 lenN v36 fun n =>
 ifT (n == 3) (
 ixS 1 v36 1 fun p =>
 ld1 h_21 p fun v57 =>
 callG prog 18 [v57, (.lsl 1 [(.int .i64 1)])] h_21 fun v58 h_22 =>
 tBool v58 fun v59 =>
 ifT v59 (
 ifT (v46 == 231) (
 ifT (v54 == 0) (
 callG prog 18 [v52, (.lsl 1 [(.int .i64 1), (.int .i64 2)])] h_22 fun v60 h_23 =>
 tBool v60 fun v61 =>
 ifT v61 (
 ld1 h_23 (.ptr r4 0 0) fun v62 =>
 lenN v62 fun n1 =>
 ifT (n1 == 2) (
 ld1 h_23 (.ptr r4 0 0) fun v63 =>
 ixS 1 v63 1 fun p1 =>
 ld1 h_23 p1 fun v64 =>
 callG prog 18 [v64, (.lsl 1 [(.int .i64 0)])] h_23 fun v65 h_24 =>
 tBool v65 fun v66 =>
 ifT v66 (
 callG prog 45 [(.agg [(.lsl 1 [(.lsl 1 [(.bool true), (.bool true), (.bool true)]), (.lsl 1 [(.bool false), (.bool true), (.bool false)]), (.lsl 1 [(.bool false), (.bool false), (.bool true)])])])] h_24 fun v67 h_25 =>
 tInt .i64 v67 fun v68 =>
 retG (.bool (v68 == 230)) h_25 Ψ) (
 retG (.bool false) h_24 Ψ)) (
 retG (.bool false) h_23 Ψ)) (
 retG (.bool false) h_23 Ψ)) (
 retG (.bool false) h_22 Ψ)) (
 retG (.bool false) h_22 Ψ)) (
 retG (.bool false) h_22 Ψ)) (
 retG (.bool false) h_21 Ψ)) (
 retG (.bool false) h_21 Ψ)) (
 retG (.bool false) h_21 Ψ)) (
 retG (.bool false) h_21 Ψ)) (
 retG (.bool false) h_21 Ψ)) (
 retG (.bool false) h_21 Ψ)) (
 retG (.bool false) h_21 Ψ)) (
 retG (.bool false) h_21 Ψ)) (
 retG (.bool false) h_21 Ψ)) (
 retG (.bool false) h_21 Ψ)) (
 retG (.bool false) h_21 Ψ)) (
 retG (.bool false) h_21 Ψ))))))))) ∧
 mkS true 1 24 .nilsl h_12 7 7 fun v69 h_26 =>
 Sym.newRow 1 [(.agg [.nilsl])] h_26 fun r5 h_27 =>
 mkS true 1 24 .nilsl h_27 7 7 fun v70 h_28 =>
 chk (sc v69) (
 chk (sc v70) (
 ∃ v71, (callG prog 6 [(.agg [v69, v70])] h_28 fun v h2 => v = v71 ∧ h2 = h_28) ∧
 tTup v71 fun l_51 =>
 tCons l_51 fun v72 l_52 =>
 tCons l_52 fun v73 l_53 =>
 tCons l_53 fun v74 l_54 =>
 tInt .i64 v74 fun v75 =>
 tNil l_54 (
 tAgg v72 fun l_55 =>
 tCons l_55 fun v76 l_56 =>
 tNil l_56 (
 st false h_28 (.ptr r5 0 0) [v76] fun h_30 =>
 ldN 1 h_30 (.ptr r 0 0) fun l_57 =>
 tCons l_57 fun v77 l_58 =>
 tNil l_58 (
 callG prog 13 [(.agg [v77])] h_30 fun v78 h_31 =>
 tTup v78 fun l_59 =>
 tCons l_59 fun v79 l_60 =>
 tCons l_60 fun v80 l_61 =>
 tCons l_61 fun v81 l_62 =>
 tInt .i64 v81 fun v82 =>
 tNil l_62 (
 tAgg v79 fun l_63 =>
 tCons l_63 fun v83 l_64 =>
 tCons l_64 fun v84 l_65 =>
 tNil l_65 (
 Sym.newRow 2 [(.agg [.nilsl, .nilsl])] h_31 fun r6 h_32 =>
 st false h_32 (.ptr r6 0 0) [v83, v84] fun h_33 =>
 ifT (v3 == 0) (
 ifT (v8 == 0) (
 ifT (v15 == 0) (
 ifT (v21 == 0) (
 ifT (v27 == 0) (
 ifT (v33 == 0) (
 ifT (v13 == 0) (
 ifT (v19 == 2) (
 ifT (!v25) (
 ifT v31 (
 ifT (v38 == 0) (
 lenN v36 fun n2 =>
 ifT (n2 == 3) (
 ixS 1 v36 1 fun p2 =>
 ld1 h_33 p2 fun v85 =>
 callG prog 18 [v85, (.lsl 1 [(.int .i64 1)])] h_33 fun v86 h_34 =>
 tBool v86 fun v87 =>
 ifT v87 (
 ifT (v75 == 231) (
 ifT (v82 == 0) (
 callG prog 18 [v80, (.lsl 1 [(.int .i64 1), (.int .i64 2)])] h_34 fun v88 h_35 =>
 tBool v88 fun v89 =>
 ifT v89 (
 ld1 h_35 (.ptr r6 0 0) fun v90 =>
 lenN v90 fun n3 =>
 ifT (n3 == 2) (
 ld1 h_35 (.ptr r6 0 0) fun v91 =>
 ixS 1 v91 1 fun p3 =>
 ld1 h_35 p3 fun v92 =>
 callG prog 18 [v92, (.lsl 1 [(.int .i64 0)])] h_35 fun v93 h_36 =>
 tBool v93 fun v94 =>
 ifT v94 (
 callG prog 45 [(.agg [(.lsl 1 [(.lsl 1 [(.bool true), (.bool true), (.bool true)]), (.lsl 1 [(.bool false), (.bool true), (.bool false)]), (.lsl 1 [(.bool false), (.bool false), (.bool true)])])])] h_36 fun v95 h_37 =>
 tInt .i64 v95 fun v96 =>
 retG (.bool (v96 == 230)) h_37 Ψ) (
 retG (.bool false) h_36 Ψ)) (
 retG (.bool false) h_35 Ψ)) (
 retG (.bool false) h_35 Ψ)) (
 retG (.bool false) h_34 Ψ)) (
 retG (.bool false) h_34 Ψ)) (
 retG (.bool false) h_34 Ψ)) (
 retG (.bool false) h_33 Ψ)) (
 retG (.bool false) h_33 Ψ)) (
 retG (.bool false) h_33 Ψ)) (
 retG (.bool false) h_33 Ψ)) (
 retG (.bool false) h_33 Ψ)) (
 retG (.bool false) h_33 Ψ)) (
 retG (.bool false) h_33 Ψ)) (
 retG (.bool false) h_33 Ψ)) (
 retG (.bool false) h_33 Ψ)) (
 retG (.bool false) h_33 Ψ)) (
 retG (.bool false) h_33 Ψ)) (
 retG (.bool false) h_33 Ψ))))))))) ∧
 Sym.newRow 1 [(.agg [.nilsl])] h_12 fun r7 h_38 =>
 mkS true 1 24 .nilsl h_38 7 7 fun v97 h_39 =>
 mkS true 1 24 .nilsl h_39 7 7 fun v98 h_40 =>
 chk (sc v97) (
 chk (sc v98) (
 ∃ v99, (callG prog 6 [(.agg [v97, v98])] h_40 fun v h2 => v = v99 ∧ h2 = h_40) ∧
 tTup v99 fun l_66 =>
 tCons l_66 fun v100 l_67 =>
 tCons l_67 fun v101 l_68 =>
 tCons l_68 fun v102 l_69 =>
 tInt .i64 v102 fun v103 =>
 tNil l_69 (
 tAgg v100 fun l_70 =>
 tCons l_70 fun v104 l_71 =>
 tNil l_71 (
 st false h_40 (.ptr r7 0 0) [v104] fun h_42 =>
 ldN 1 h_42 (.ptr r 0 0) fun l_72 =>
 tCons l_72 fun v105 l_73 =>
 tNil l_73 (
 callG prog 13 [(.agg [v105])] h_42 fun v106 h_43 =>
 tTup v106 fun l_74 =>
 tCons l_74 fun v107 l_75 =>
 tCons l_75 fun v108 l_76 =>
 tCons l_76 fun v109 l_77 =>
 tInt .i64 v109 fun v110 =>
 tNil l_77 (
 tAgg v107 fun l_78 =>
 tCons l_78 fun v111 l_79 =>
 tCons l_79 fun v112 l_80 =>
 tNil l_80 (
 Sym.newRow 2 [(.agg [.nilsl, .nilsl])] h_43 fun r8 h_44 =>
 st false h_44 (.ptr r8 0 0) [v111, v112] fun h_45 =>
 ifT (v3 == 0) (
 ifT (v8 == 0) (
 ifT (v15 == 0) (
 ifT (v21 == 0) (
 ifT (v27 == 0) (
 ifT (v33 == 0) (
 ifT (v13 == 0) (
 ifT (v19 == 2) (
 ifT (!v25) (
 ifT v31 (
 ifT (v38 == 0) (
 lenN v36 fun n4 =>
 ifT (n4 == 3) (
 ixS 1 v36 1 fun p4 =>
 ld1 h_45 p4 fun v113 =>
 callG prog 18 [v113, (.lsl 1 [(.int .i64 1)])] h_45 fun v114 h_46 =>
 tBool v114 fun v115 =>
 ifT v115 (
 ifT (v103 == 231) (
 ifT (v110 == 0) (
 callG prog 18 [v108, (.lsl 1 [(.int .i64 1), (.int .i64 2)])] h_46 fun v116 h_47 =>
 tBool v116 fun v117 =>
 ifT v117 (
 ld1 h_47 (.ptr r8 0 0) fun v118 =>
 lenN v118 fun n5 =>
 ifT (n5 == 2) (
 ld1 h_47 (.ptr r8 0 0) fun v119 =>
 ixS 1 v119 1 fun p5 =>
 ld1 h_47 p5 fun v120 =>
 callG prog 18 [v120, (.lsl 1 [(.int .i64 0)])] h_47 fun v121 h_48 =>
 tBool v121 fun v122 =>
 ifT v122 (
 callG prog 45 [(.agg [(.lsl 1 [(.lsl 1 [(.bool true), (.bool true), (.bool true)]), (.lsl 1 [(.bool false), (.bool true), (.bool false)]), (.lsl 1 [(.bool false), (.bool false), (.bool true)])])])] h_48 fun v123 h_49 =>
 tInt .i64 v123 fun v124 =>
 retG (.bool (v124 == 230)) h_49 Ψ) (
 retG (.bool false) h_48 Ψ)) (
 retG (.bool false) h_47 Ψ)) (
 retG (.bool false) h_47 Ψ)) (
 retG (.bool false) h_46 Ψ)) (
 retG (.bool false) h_46 Ψ)) (
 retG (.bool false) h_46 Ψ)) (
 retG (.bool false) h_45 Ψ)) (
 retG (.bool false) h_45 Ψ)) (
 retG (.bool false) h_45 Ψ)) (
 retG (.bool false) h_45 Ψ)) (
 retG (.bool false) h_45 Ψ)) (
 retG (.bool false) h_45 Ψ)) (
 retG (.bool false) h_45 Ψ)) (
 retG (.bool false) h_45 Ψ)) (
 retG (.bool false) h_45 Ψ)) (
 retG (.bool false) h_45 Ψ)) (
 retG (.bool false) h_45 Ψ)) (
 retG (.bool false) h_45 Ψ))))))))) ∧
 (mkS true 1 24 .nilsl h_12 7 7 fun v125 h_50 =>
 mkS true 1 24 .nilsl h_50 7 7 fun v126 h_51 =>
 chk (sc v126) (
 chk (sc v125) (
 ∃ v127, (callG prog 6 [(.agg [v126, v125])] h_51 fun v h2 => v = v127 ∧ h2 = h_51) ∧
 tTup v127 fun l_81 =>
 tCons l_81 fun v128 l_82 =>
 tCons l_82 fun v129 l_83 =>
 tCons l_83 fun v130 l_84 =>
 tInt .i64 v130 fun v131 =>
 tNil l_84 (
 tAgg v128 fun l_85 =>
 tCons l_85 fun v132 l_86 =>
 tNil l_86 (
 Sym.newRow 1 [(.agg [.nilsl])] h_51 fun r9 h_53 =>
 ((callG prog 6 [(.agg [v126, v125])] h_53 fun v h2 => v = (.tuple [v128, v129, (.int .i64 v131)]) ∧ h2 = h_53)) ∧
 st false h_53 (.ptr r9 0 0) [v132] fun h_55 =>
 ldN 1 h_55 (.ptr r 0 0) fun l_87 =>
 tCons l_87 fun v134 l_88 =>
 tNil l_88 (
 callG prog 13 [(.agg [v134])] h_55 fun v135 h_56 =>
 tTup v135 fun l_89 =>
 tCons l_89 fun v136 l_90 =>
 tCons l_90 fun v137 l_91 =>
 tCons l_91 fun v138 l_92 =>
 tInt .i64 v138 fun v139 =>
 tNil l_92 (
 tAgg v136 fun l_93 =>
 tCons l_93 fun v140 l_94 =>
 tCons l_94 fun v141 l_95 =>
 tNil l_95 (
 Sym.newRow 2 [(.agg [.nilsl, .nilsl])] h_56 fun r10 h_57 =>
 st false h_57 (.ptr r10 0 0) [v140, v141] fun h_58 =>
 ifT (v3 == 0) (
 ifT (v8 == 0) (
 ifT (v15 == 0) (
 ifT (v21 == 0) (
 ifT (v27 == 0) (
 ifT (v33 == 0) (
 ifT (v13 == 0) (
 ifT (v19 == 2) (
 ifT (!v25) (
 ifT v31 (
 ifT (v38 == 0) (
 lenN v36 fun n6 =>
 ifT (n6 == 3) (
 ixS 1 v36 1 fun p6 =>
 ld1 h_58 p6 fun v142 =>
 callG prog 18 [v142, (.lsl 1 [(.int .i64 1)])] h_58 fun v143 h_59 =>
 tBool v143 fun v144 =>
 ifT v144 (
 ifT (v131 == 231) (
 ifT (v139 == 0) (
 callG prog 18 [v137, (.lsl 1 [(.int .i64 1), (.int .i64 2)])] h_59 fun v145 h_60 =>
 tBool v145 fun v146 =>
 ifT v146 (
 ld1 h_60 (.ptr r10 0 0) fun v147 =>
 lenN v147 fun n7 =>
 ifT (n7 == 2) (
 ld1 h_60 (.ptr r10 0 0) fun v148 =>
 ixS 1 v148 1 fun p7 =>
 ld1 h_60 p7 fun v149 =>
 callG prog 18 [v149, (.lsl 1 [(.int .i64 0)])] h_60 fun v150 h_61 =>
 tBool v150 fun v151 =>
 ifT v151 (
 callG prog 45 [(.agg [(.lsl 1 [(.lsl 1 [(.bool true), (.bool true), (.bool true)]), (.lsl 1 [(.bool false), (.bool true), (.bool false)]), (.lsl 1 [(.bool false), (.bool false), (.bool true)])])])] h_61 fun v152 h_62 =>
 tInt .i64 v152 fun v153 =>
 retG (.bool (v153 == 230)) h_62 Ψ) (
 retG (.bool false) h_61 Ψ)) (
 retG (.bool false) h_60 Ψ)) (
 retG (.bool false) h_60 Ψ)) (
 retG (.bool false) h_59 Ψ)) (
 retG (.bool false) h_59 Ψ)) (
 retG (.bool false) h_59 Ψ)) (
 retG (.bool false) h_58 Ψ)) (
 retG (.bool false) h_58 Ψ)) (
 retG (.bool false) h_58 Ψ)) (
 retG (.bool false) h_58 Ψ)) (
 retG (.bool false) h_58 Ψ)) (
 retG (.bool false) h_58 Ψ)) (
 retG (.bool false) h_58 Ψ)) (
 retG (.bool false) h_58 Ψ)) (
 retG (.bool false) h_58 Ψ)) (
 retG (.bool false) h_58 Ψ)) (
 retG (.bool false) h_58 Ψ)) (
 retG (.bool false) h_58 Ψ))))))))) ∧
 (mkS true 1 24 .nilsl h_12 7 7 fun v154 h_63 =>
 Sym.newRow 1 [(.agg [.nilsl])] h_63 fun r11 h_64 =>
 mkS true 1 24 .nilsl h_64 7 7 fun v155 h_65 =>
 chk (sc v155) (
 chk (sc v154) (
 ∃ v156, (callG prog 6 [(.agg [v155, v154])] h_65 fun v h2 => v = v156 ∧ h2 = h_65) ∧
 tTup v156 fun l_96 =>
 tCons l_96 fun v157 l_97 =>
 tCons l_97 fun v158 l_98 =>
 tCons l_98 fun v159 l_99 =>
 tInt .i64 v159 fun v160 =>
 tNil l_99 (
 tAgg v157 fun l_100 =>
 tCons l_100 fun v161 l_101 =>
 tNil l_101 (
 st false h_65 (.ptr r11 0 0) [v161] fun h_67 =>
 ldN 1 h_67 (.ptr r 0 0) fun l_102 =>
 tCons l_102 fun v162 l_103 =>
 tNil l_103 (
 callG prog 13 [(.agg [v162])] h_67 fun v163 h_68 =>
 tTup v163 fun l_104 =>
 tCons l_104 fun v164 l_105 =>
 tCons l_105 fun v165 l_106 =>
 tCons l_106 fun v166 l_107 =>
 tInt .i64 v166 fun v167 =>
 tNil l_107 (
 tAgg v164 fun l_108 =>
 tCons l_108 fun v168 l_109 =>
 tCons l_109 fun v169 l_110 =>
 tNil l_110 (
 Sym.newRow 2 [(.agg [.nilsl, .nilsl])] h_68 fun r12 h_69 =>
 st false h_69 (.ptr r12 0 0) [v168, v169] fun h_70 =>
 ifT (v3 == 0) (
 ifT (v8 == 0) (
 ifT (v15 == 0) (
 ifT (v21 == 0) (
 ifT (v27 == 0) (
 ifT (v33 == 0) (
 ifT (v13 == 0) (
 ifT (v19 == 2) (
 ifT (!v25) (
 ifT v31 (
 ifT (v38 == 0) (
 lenN v36 fun n8 =>
 ifT (n8 == 3) (
 ixS 1 v36 1 fun p8 =>
 ld1 h_70 p8 fun v170 =>
 callG prog 18 [v170, (.lsl 1 [(.int .i64 1)])] h_70 fun v171 h_71 =>
 tBool v171 fun v172 =>
 ifT v172 (
 ifT (v160 == 231) (
 ifT (v167 == 0) (
 callG prog 18 [v165, (.lsl 1 [(.int .i64 1), (.int .i64 2)])] h_71 fun v173 h_72 =>
 tBool v173 fun v174 =>
 ifT v174 (
 ld1 h_72 (.ptr r12 0 0) fun v175 =>
 lenN v175 fun n9 =>
 ifT (n9 == 2) (
 ld1 h_72 (.ptr r12 0 0) fun v176 =>
 ixS 1 v176 1 fun p9 =>
 ld1 h_72 p9 fun v177 =>
 callG prog 18 [v177, (.lsl 1 [(.int .i64 0)])] h_72 fun v178 h_73 =>
 tBool v178 fun v179 =>
 ifT v179 (
 callG prog 45 [(.agg [(.lsl 1 [(.lsl 1 [(.bool true), (.bool true), (.bool true)]), (.lsl 1 [(.bool false), (.bool true), (.bool false)]), (.lsl 1 [(.bool false), (.bool false), (.bool true)])])])] h_73 fun v180 h_74 =>
 tInt .i64 v180 fun v181 =>
 retG (.bool (v181 == 230)) h_74 Ψ) (
 retG (.bool false) h_73 Ψ)) (
 retG (.bool false) h_72 Ψ)) (
 retG (.bool false) h_72 Ψ)) (
 retG (.bool false) h_71 Ψ)) (
 retG (.bool false) h_71 Ψ)) (
 retG (.bool false) h_71 Ψ)) (
 retG (.bool false) h_70 Ψ)) (
 retG (.bool false) h_70 Ψ)) (
 retG (.bool false) h_70 Ψ)) (
 retG (.bool false) h_70 Ψ)) (
 retG (.bool false) h_70 Ψ)) (
 retG (.bool false) h_70 Ψ)) (
 retG (.bool false) h_70 Ψ)) (
 retG (.bool false) h_70 Ψ)) (
 retG (.bool false) h_70 Ψ)) (
 retG (.bool false) h_70 Ψ)) (
 retG (.bool false) h_70 Ψ)) (
 retG (.bool false) h_70 Ψ))))))))) ∧
 Sym.newRow 1 [(.agg [.nilsl])] h_12 fun r13 h_75 =>
 mkS true 1 24 .nilsl h_75 7 7 fun v182 h_76 =>
 mkS true 1 24 .nilsl h_76 7 7 fun v183 h_77 =>
 chk (sc v183) (
 chk (sc v182) (
 ∃ v184, (callG prog 6 [(.agg [v183, v182])] h_77 fun v h2 => v = v184 ∧ h2 = h_77) ∧
 tTup v184 fun l_111 =>
 tCons l_111 fun v185 l_112 =>
 tCons l_112 fun v186 l_113 =>
 tCons l_113 fun v187 l_114 =>
 tInt .i64 v187 fun v188 =>
 tNil l_114 (
 tAgg v185 fun l_115 =>
 tCons l_115 fun v189 l_116 =>
 tNil l_116 (
 st false h_77 (.ptr r13 0 0) [v189] fun h_79 =>
 ldN 1 h_79 (.ptr r 0 0) fun l_117 =>
 tCons l_117 fun v190 l_118 =>
 tNil l_118 (
 callG prog 13 [(.agg [v190])] h_79 fun v191 h_80 =>
 tTup v191 fun l_119 =>
 tCons l_119 fun v192 l_120 =>
 tCons l_120 fun v193 l_121 =>
 tCons l_121 fun v194 l_122 =>
 tInt .i64 v194 fun v195 =>
 tNil l_122 (
 tAgg v192 fun l_123 =>
 tCons l_123 fun v196 l_124 =>
 tCons l_124 fun v197 l_125 =>
 tNil l_125 (
 Sym.newRow 2 [(.agg [.nilsl, .nilsl])] h_80 fun r14 h_81 =>
 st false h_81 (.ptr r14 0 0) [v196, v197] fun h_82 =>
 ifT (v3 == 0) (
 ifT (v8 == 0) (
 ifT (v15 == 0) (
 ifT (v21 == 0) (
 ifT (v27 == 0) (
 ifT (v33 == 0) (
 ifT (v13 == 0) (
 ifT (v19 == 2) (
 ifT (!v25) (
 ifT v31 (
 ifT (v38 == 0) (
 lenN v36 fun n10 =>
 ifT (n10 == 3) (
 ixS 1 v36 1 fun p10 =>
 ld1 h_82 p10 fun v198 =>
 callG prog 18 [v198, (.lsl 1 [(.int .i64 1)])] h_82 fun v199 h_83 =>
 tBool v199 fun v200 =>
 ifT v200 (
 ifT (v188 == 231) (
 ifT (v195 == 0) (
 callG prog 18 [v193, (.lsl 1 [(.int .i64 1), (.int .i64 2)])] h_83 fun v201 h_84 =>
 tBool v201 fun v202 =>
 ifT v202 (
 ld1 h_84 (.ptr r14 0 0) fun v203 =>
 lenN v203 fun n11 =>
 ifT (n11 == 2) (
 ld1 h_84 (.ptr r14 0 0) fun v204 =>
 ixS 1 v204 1 fun p11 =>
 ld1 h_84 p11 fun v205 =>
 callG prog 18 [v205, (.lsl 1 [(.int .i64 0)])] h_84 fun v206 h_85 =>
 tBool v206 fun v207 =>
 ifT v207 (
 callG prog 45 [(.agg [(.lsl 1 [(.lsl 1 [(.bool true), (.bool true), (.bool true)]), (.lsl 1 [(.bool false), (.bool true), (.bool false)]), (.lsl 1 [(.bool false), (.bool false), (.bool true)])])])] h_85 fun v208 h_86 =>
 tInt .i64 v208 fun v209 =>
 retG (.bool (v209 == 230)) h_86 Ψ) (
 retG (.bool false) h_85 Ψ)) (
 retG (.bool false) h_84 Ψ)) (
 retG (.bool false) h_84 Ψ)) (
 retG (.bool false) h_83 Ψ)) (
 retG (.bool false) h_83 Ψ)) (
 retG (.bool false) h_83 Ψ)) (
 retG (.bool false) h_82 Ψ)) (
 retG (.bool false) h_82 Ψ)) (
 retG (.bool false) h_82 Ψ)) (
 retG (.bool false) h_82 Ψ)) (
 retG (.bool false) h_82 Ψ)) (
 retG (.bool false) h_82 Ψ)) (
 retG (.bool false) h_82 Ψ)) (
 retG (.bool false) h_82 Ψ)) (
 retG (.bool false) h_82 Ψ)) (
 retG (.bool false) h_82 Ψ)) (
 retG (.bool false) h_82 Ψ)) (
 retG (.bool false) h_82 Ψ))))))))))))))))))))))

def s19_A (Ψ : AVal → Heap → Prop) : Ann :=
 .seq (rA 1)
 (.seq (rA 7)
 (.seq (rA 7)
 (.seq (rA 7)
 (.seq (rA 7)
 (.seq (rA 7)
 (.seq (rA 7)
 (.seq (.reg [⟨none, [(0, true), (1, true), (2, true), (3, false), (4, false), (5, false), (6, false), (7, false), (8, false), (9, false), (10, false), (11, false), (12, false)]⟩])
 (.seq (.drawT (.split 0 1 (.split 0 8 (.split 1 8 (.leaf [(0, true), (1, true), (2, false), (3, true), (4, false), (5, false), (6, false), (7, false), (8, false), (9, false), (10, false), (11, false)]) (.leaf [(0, true), (8, false), (1, true), (2, false), (3, true), (4, false), (5, false), (6, false), (7, false), (9, false), (10, false), (11, false)])) (.leaf [(8, false), (0, true), (1, true), (2, false), (3, true), (4, false), (5, false), (6, false), (7, false), (9, false), (10, false), (11, false)])) (.split 0 8 (.leaf [(1, true), (0, true), (2, false), (3, true), (4, false), (5, false), (6, false), (7, false), (8, false), (9, false), (10, false), (11, false)]) (.split 1 8 (.leaf [(1, true), (8, false), (0, true), (2, false), (3, true), (4, false), (5, false), (6, false), (7, false), (9, false), (10, false), (11, false)]) (.leaf [(8, false), (1, true), (0, true), (2, false), (3, true), (4, false), (5, false), (6, false), (7, false), (9, false), (10, false), (11, false)])))) [0, 0, 3, 7, 15, 31, 31, 31, 0, 319, 895, 2047])
 (.seq (rA 10)
 (.seq (.reg [⟨none, [(0, false), (1, false), (2, false)]⟩, ⟨some (75, true), [(3, false), (4, false)]⟩, ⟨none, [(5, false), (6, false)]⟩, ⟨some (79, true), [(7, false), (8, false)]⟩, ⟨none, [(9, false), (10, false)]⟩, ⟨some (83, true), [(11, false), (12, false)]⟩, ⟨none, [(13, false), (14, false)]⟩, ⟨some (87, true), [(15, false), (16, false)]⟩, ⟨none, [(17, false), (18, false)]⟩, ⟨some (91, true), [(19, false), (20, false)]⟩, ⟨none, [(21, false), (22, false)]⟩, ⟨some (95, true), [(23, false), (24, false)]⟩, ⟨none, [(25, false), (26, false)]⟩, ⟨some (99, true), [(27, false), (28, false)]⟩, ⟨none, [(29, false), (30, false)]⟩, ⟨some (103, true), [(31, false), (32, false)]⟩, ⟨none, [(33, false), (34, false)]⟩, ⟨some (107, true), [(35, false)]⟩, ⟨none, [(36, false), (37, false)]⟩, ⟨some (110, true), [(38, false), (39, false)]⟩, ⟨none, [(40, false), (41, false)]⟩, ⟨some (114, true), [(42, false), (43, false), (44, false)]⟩, ⟨none, [(45, false), (46, false)]⟩, ⟨some (119, true), [(47, false), (48, false), (49, false), (50, true), (51, false)]⟩, ⟨none, [(52, false), (53, false)]⟩, ⟨some (126, true), [(54, false), (55, false)]⟩, ⟨none, [(56, false), (57, false)]⟩, ⟨some (130, true), [(58, false), (59, false)]⟩, ⟨none, [(60, false), (61, false)]⟩, ⟨some (134, true), [(62, false), (63, true), (64, false)]⟩, ⟨none, [(65, false), (66, false)]⟩, ⟨some (139, true), [(67, false), (68, false), (69, false), (70, false)]⟩, ⟨none, [(71, false), (72, false)]⟩, ⟨some (145, true), [(73, false), (74, false), (75, false), (76, false), (77, true), (78, false)]⟩, ⟨none, [(79, false), (80, false)]⟩, ⟨some (153, true), [(81, true), (82, true), (83, true), (84, true), (85, false), (86, false), (87, false)]⟩, ⟨none, [(88, false), (89, false)]⟩])
 (.leaf)))))))))))

theorem s19_ok {Ψ : AVal → Heap → Prop} {h : Heap} (H : s19 Ψ  h) : ACalls prog 19 [] h Ψ :=
 calls_of_evF func19 (by kernel_rfl) (by kernel_rfl) (by kernel_rfl)
 (Eq.mpr (by as_aux_lemma => kernel_rfl : oblF prog f19 (s19_A Ψ) Ψ = (otP 1398101)) (otP_ok 1398101))
 (Eq.mpr (by as_aux_lemma => kernel_rfl : evF prog f19 (s19_A Ψ) Ψ [] h = s19 Ψ  h) H)

/- 28 dictum/heyting.joined -/
abbrev s28l1_T := AVal → AVal → Int → Int → Heap → Prop
abbrev s28l1_K : List Kd := [.any, .any, .int .i64, .int .i64]
def s28l1_G (F : s28l1_T) : s28l1_T := GK s28l1_K F
def s28l1_E (F : Nat → s28l1_T) : s28l1_T := EK s28l1_K F
theorem s28l1_go {F : s28l1_T} {x0 x1 : AVal} {x2 x3 : Int} {h : Heap} (H : F x0 x1 x2 x3 h) : s28l1_G F x0 x1 x2 x3 h := gJ_plain rfl H
theorem s28l1_in {F : Nat → s28l1_T} {x0 x1 : AVal} {x2 x3 : Int} {h : Heap} (n : Nat) (H : F n x0 x1 x2 x3 h) : s28l1_E F x0 x1 x2 x3 h := gJ_plain rfl ⟨n, H⟩

def s28l1 (Ψ : AVal → Heap → Prop) : Nat → s28l1_T
 | 0, _, _, _, _, _ => False
 | n1 + 1, out, t10, t11, t12, h =>
 ifT (decide (t12 < t11)) (
 ixS 1 t10 t12 fun p =>
 ld1 h p fun v1 =>
 tInt .i64 v1 fun v2 =>
 ixS 1 out v2 fun p1 =>
 st true h p1 [(.int .u8 1)] fun h_1 =>
 rg (t12 + 1) (
 s28l1_G (s28l1 Ψ n1) out t10 t11 (t12 + 1) h_1)) (
 bStr h out fun s =>
 retG (.str s) h Ψ)

def s28 (Ψ : AVal → Heap → Prop) (a : ByteArray) (b : AVal) (h : Heap) : Prop :=
 sBytes h (.str a) fun v h_ =>
 lenN b fun n =>
 s28l1_E (s28l1 Ψ) v b n 0 h_

def s28_A (Ψ : AVal → Heap → Prop) : Ann :=
 .seq (rA 1)
 (.seq (rA 3)
 (.seq (.seq (rA 3)
 (.block (loopK [5, 10, 11, 12] s28l1_K (s28l1 Ψ) (fun L1 =>
 .seq (rA 1)
 (.seq (.cond (.leaf)
 (.leaf))
 (.seq (.block (.seq (rA 3)
 (rA 4)))
 (rA 2)))))))
 (.seq (rA 3)
 (.leaf))))

theorem s28_ok {Ψ : AVal → Heap → Prop} {a : ByteArray} {b : AVal} {h : Heap} (H : s28 Ψ a b h) : ACalls prog 28 [(.str a), b] h Ψ :=
 calls_of_evF func28 (by kernel_rfl) (by kernel_rfl) (by kernel_rfl)
 (Eq.mpr (by as_aux_lemma => kernel_rfl : oblF prog f28 (s28_A Ψ) Ψ = ((True) ∧ ((True) ∧ (((True) ∧ ((NK s28l1_K (s28l1 Ψ 0)) ∧ (∀ n1 : Nat, (QK s28l1_K (s28l1 Ψ (n1 + 1))) ∧ (otP 205)))) ∧ (otP 1))))) (⟨trivial, ⟨trivial, ⟨⟨trivial, ⟨fun _ _ _ _ _ H => H, fun _ => ⟨oI, otP_ok 205⟩⟩⟩, otP_ok 1⟩⟩⟩))
 (Eq.mpr (by as_aux_lemma => kernel_rfl : evF prog f28 (s28_A Ψ) Ψ [(.str a), b] h = s28 Ψ a b h) H)

/- 30 dictum/dictumref23.sets -/
abbrev s30l1_T := AVal → AVal → Int → Heap → Prop
abbrev s30l1_K : List Kd := [.any, .any, .int .i64]
def s30l1_G (F : s30l1_T) : s30l1_T := GK s30l1_K F
def s30l1_E (F : Nat → s30l1_T) : s30l1_T := EK s30l1_K F
theorem s30l1_go {F : s30l1_T} {x0 x1 : AVal} {x2 : Int} {h : Heap} (H : F x0 x1 x2 h) : s30l1_G F x0 x1 x2 h := gJ_plain rfl H
theorem s30l1_in {F : Nat → s30l1_T} {x0 x1 : AVal} {x2 : Int} {h : Heap} (n : Nat) (H : F n x0 x1 x2 h) : s30l1_E F x0 x1 x2 h := gJ_plain rfl ⟨n, H⟩

abbrev s30l2_T := AVal → AVal → Int → Int → Int → Heap → Prop
abbrev s30l2_K : List Kd := [.any, .any, .int .i64, .int .u64, .int .i64]
def s30l2_G (F : s30l2_T) : s30l2_T := GK s30l2_K F
def s30l2_E (F : Nat → s30l2_T) : s30l2_T := EK s30l2_K F
theorem s30l2_go {F : s30l2_T} {x0 x1 : AVal} {x2 x3 x4 : Int} {h : Heap} (H : F x0 x1 x2 x3 x4 h) : s30l2_G F x0 x1 x2 x3 x4 h := gJ_plain rfl H
theorem s30l2_in {F : Nat → s30l2_T} {x0 x1 : AVal} {x2 x3 x4 : Int} {h : Heap} (n : Nat) (H : F n x0 x1 x2 x3 x4 h) : s30l2_E F x0 x1 x2 x3 x4 h := gJ_plain rfl ⟨n, H⟩

abbrev s30c3_K : List Kd := [.any, .any, .int .i64, .int .u64, .int .i64]
def s30c3 (Ψ : AVal → Heap → Prop) (L1 : s30l1_T) (L2 : s30l2_T) (o3 l_2 : AVal) (w2 up1 b1 : Int) (h : Heap) : Prop :=
 rg (b1 + 1) (
 L2 o3 l_2 w2 up1 (b1 + 1) h)

abbrev s30l4_T := AVal → AVal → Int → Int → Int → Heap → Prop
abbrev s30l4_K : List Kd := [.any, .any, .int .i64, .int .u64, .int .i64]
def s30l4_G (F : s30l4_T) : s30l4_T := GK s30l4_K F
def s30l4_E (F : Nat → s30l4_T) : s30l4_T := EK s30l4_K F
theorem s30l4_go {F : s30l4_T} {x0 x1 : AVal} {x2 x3 x4 : Int} {h : Heap} (H : F x0 x1 x2 x3 x4 h) : s30l4_G F x0 x1 x2 x3 x4 h := gJ_plain rfl H
theorem s30l4_in {F : Nat → s30l4_T} {x0 x1 : AVal} {x2 x3 x4 : Int} {h : Heap} (n : Nat) (H : F n x0 x1 x2 x3 x4 h) : s30l4_E F x0 x1 x2 x3 x4 h := gJ_plain rfl ⟨n, H⟩

abbrev s30l5_T := AVal → AVal → Int → Int → Int → Int → Bool → Int → Heap → Prop
abbrev s30l5_K : List Kd := [.any, .any, .int .i64, .int .u64, .int .i64, .int .u64, .bool, .int .i64]
def s30l5_G (F : s30l5_T) : s30l5_T := GK s30l5_K F
def s30l5_E (F : Nat → s30l5_T) : s30l5_T := EK s30l5_K F
theorem s30l5_go {F : s30l5_T} {x0 x1 : AVal} {x2 x3 x4 x5 : Int} {x6 : Bool} {x7 : Int} {h : Heap} (H : F x0 x1 x2 x3 x4 x5 x6 x7 h) : s30l5_G F x0 x1 x2 x3 x4 x5 x6 x7 h := gJ_plain rfl H
theorem s30l5_in {F : Nat → s30l5_T} {x0 x1 : AVal} {x2 x3 x4 x5 : Int} {x6 : Bool} {x7 : Int} {h : Heap} (n : Nat) (H : F n x0 x1 x2 x3 x4 x5 x6 x7 h) : s30l5_E F x0 x1 x2 x3 x4 x5 x6 x7 h := gJ_plain rfl ⟨n, H⟩

abbrev s30c6_K : List Kd := [.any, .any, .int .i64, .int .u64, .int .i64, .int .u64, .bool, .int .i64]
def s30c6 (Ψ : AVal → Heap → Prop) (L1 : s30l1_T) (L4 : s30l4_T) (L5 : s30l5_T) (o6 l_5 : AVal) (w5 up4 i2 s1 : Int) (there1 : Bool) (k1 : Int) (h : Heap) : Prop :=
 rg (k1 + 1) (
 L5 o6 l_5 w5 up4 i2 s1 there1 (k1 + 1) h)

abbrev s30c7_K : List Kd := [.any, .any, .int .i64, .int .u64, .int .i64]
def s30c7 (Ψ : AVal → Heap → Prop) (L1 : s30l1_T) (L4 : s30l4_T) (o7 l_6 : AVal) (w6 up5 i3 : Int) (h : Heap) : Prop :=
 lenN l_6 fun n9 =>
 ifT (decide (64 < n9)) (
 retG (.tuple [.nilsl, (.bool false)]) h Ψ) (
 rg (i3 + 1) (
 L4 o7 l_6 w6 up5 (i3 + 1) h))

def s30l5 (Ψ : AVal → Heap → Prop) (L1 : s30l1_T) (L4 : s30l4_T) : Nat → s30l5_T
 | 0, _, _, _, _, _, _, _, _, _ => False
 | n7 + 1, o5, l_4, w4, up3, i1, s, there, k, h =>
 lenN l_4 fun n8 =>
 ifT (decide (k < n8)) (
 ifT there (
 s30c6 Ψ L1 L4 (s30l5_G (s30l5 Ψ L1 L4 n7)) o5 l_4 w4 up3 i1 s true k h) (
 ixS 1 l_4 k fun p3 =>
 ld1 h p3 fun v5 =>
 tInt .u64 v5 fun v6 =>
 s30c6 Ψ L1 L4 (s30l5_G (s30l5 Ψ L1 L4 n7)) o5 l_4 w4 up3 i1 s (v6 == s) k h)) (
 ifT (!there) (
 appC 1 8 h l_4 (.lsl 1 [(.int .u64 s)]) fun v7 h_1 =>
 s30c7 Ψ L1 L4 o5 v7 w4 up3 i1 h_1) (
 s30c7 Ψ L1 L4 o5 l_4 w4 up3 i1 h))

def s30l4 (Ψ : AVal → Heap → Prop) (L1 : s30l1_T) : Nat → s30l4_T
 | 0, _, _, _, _, _, _ => False
 | n5 + 1, o4, l_3, w3, up2, i, h =>
 lenN l_3 fun n6 =>
 ifT (decide (i < n6)) (
 ixS 1 l_3 i fun p2 =>
 ld1 h p2 fun v3 =>
 tInt .u64 v3 fun v4 =>
 s30l5_E (s30l5 Ψ L1 (s30l4_G (s30l4 Ψ L1 n5))) o4 l_3 w3 up2 i (bitsI .or .u64 v4 up2) false 0 h) (
 rg (w3 + 1) (
 L1 o4 l_3 (w3 + 1) h))

def s30l2 (Ψ : AVal → Heap → Prop) (L1 : s30l1_T) : Nat → s30l2_T
 | 0, _, _, _, _, _, _ => False
 | n3 + 1, o2, l_1, w1, up, b, h =>
 lenN o2 fun n4 =>
 ifT (decide (b < n4)) (
 ixS 1 o2 w1 fun p =>
 ld1 h p fun v =>
 ixS 1 v b fun p1 =>
 ld1 h p1 fun v1 =>
 tBool v1 fun v2 =>
 ifT v2 (
 (0 : Int) ≤ (IntKind.u64.wrap b) ∧
 s30c3 Ψ L1 (s30l2_G (s30l2 Ψ L1 n3)) o2 l_1 w1 (bitsI .or .u64 up (IntKind.u64.wrap (1 * 2 ^ (min (Int.toNat (IntKind.u64.wrap b)) (IntKind.u64.bits))))) b h) (
 s30c3 Ψ L1 (s30l2_G (s30l2 Ψ L1 n3)) o2 l_1 w1 up b h)) (
 s30l4_E (s30l4 Ψ L1) o2 l_1 w1 up 0 h)

abbrev s30l8_T := AVal → Int → Heap → Prop
abbrev s30l8_K : List Kd := [.any, .int .i64]
def s30l8_G (F : s30l8_T) : s30l8_T := GK s30l8_K F
def s30l8_E (F : Nat → s30l8_T) : s30l8_T := EK s30l8_K F
theorem s30l8_go {F : s30l8_T} {x0 : AVal} {x1 : Int} {h : Heap} (H : F x0 x1 h) : s30l8_G F x0 x1 h := gJ_plain rfl H
theorem s30l8_in {F : Nat → s30l8_T} {x0 : AVal} {x1 : Int} {h : Heap} (n : Nat) (H : F n x0 x1 h) : s30l8_E F x0 x1 h := gJ_plain rfl ⟨n, H⟩

abbrev s30l9_T := AVal → Int → Int → Heap → Prop
abbrev s30l9_K : List Kd := [.any, .int .i64, .int .i64]
def s30l9_G (F : s30l9_T) : s30l9_T := GK s30l9_K F
def s30l9_E (F : Nat → s30l9_T) : s30l9_T := EK s30l9_K F
theorem s30l9_go {F : s30l9_T} {x0 : AVal} {x1 x2 : Int} {h : Heap} (H : F x0 x1 x2 h) : s30l9_G F x0 x1 x2 h := gJ_plain rfl H
theorem s30l9_in {F : Nat → s30l9_T} {x0 : AVal} {x1 x2 : Int} {h : Heap} (n : Nat) (H : F n x0 x1 x2 h) : s30l9_E F x0 x1 x2 h := gJ_plain rfl ⟨n, H⟩

abbrev s30c10_K : List Kd := [.any, .int .i64, .int .i64, .bool]
def s30c10 (Ψ : AVal → Heap → Prop) (L8 : s30l8_T) (L9 : s30l9_T) (l_9 : AVal) (i6 k3 : Int) (t99 : Bool) (h : Heap) : Prop :=
 ifT t99 (
 ixS 1 l_9 k3 fun p4 =>
 ld1 h p4 fun v8 =>
 tInt .u64 v8 fun v9 =>
 rg (k3 - 1) (
 ixS 1 l_9 (k3 - 1) fun p5 =>
 ld1 h p5 fun v10 =>
 tInt .u64 v10 fun v11 =>
 ixS 1 l_9 k3 fun p6 =>
 st true h p6 [(.int .u64 v11)] fun h_2 =>
 rg (k3 - 1) (
 ixS 1 l_9 (k3 - 1) fun p7 =>
 st true h_2 p7 [(.int .u64 v9)] fun h_3 =>
 rg (k3 - 1) (
 L9 l_9 i6 (k3 - 1) h_3)))) (
 rg (i6 + 1) (
 L8 l_9 (i6 + 1) h))

def s30l9 (Ψ : AVal → Heap → Prop) (L8 : s30l8_T) : Nat → s30l9_T
 | 0, _, _, _, _ => False
 | n15 + 1, l_8, i5, k2, h =>
 ifT (decide (0 < k2)) (
 rg (k2 - 1) (
 ixS 1 l_8 (k2 - 1) fun p8 =>
 ld1 h p8 fun v12 =>
 tInt .u64 v12 fun v13 =>
 ixS 1 l_8 k2 fun p9 =>
 ld1 h p9 fun v14 =>
 tInt .u64 v14 fun v15 =>
 s30c10 Ψ L8 (s30l9_G (s30l9 Ψ L8 n15)) l_8 i5 k2 (decide (v15 < v13)) h)) (
 s30c10 Ψ L8 (s30l9_G (s30l9 Ψ L8 n15)) l_8 i5 k2 false h)

def s30l8 (Ψ : AVal → Heap → Prop) : Nat → s30l8_T
 | 0, _, _, _ => False
 | n13 + 1, l_7, i4, h =>
 lenN l_7 fun n14 =>
 ifT (decide (i4 < n14)) (
 s30l9_E (s30l9 Ψ (s30l8_G (s30l8 Ψ n13))) l_7 i4 i4 h) (
 retG (.tuple [l_7, (.bool true)]) h Ψ)

def s30l1 (Ψ : AVal → Heap → Prop) : Nat → s30l1_T
 | 0, _, _, _, _ => False
 | n1 + 1, o1, l_, w, h =>
 lenN o1 fun n2 =>
 ifT (decide (w < n2)) (
 s30l2_E (s30l2 Ψ (s30l1_G (s30l1 Ψ n1))) o1 l_ w 0 0 h) (
 s30l8_E (s30l8 Ψ) l_ 1 h)

def s30 (Ψ : AVal → Heap → Prop) (o : AVal) (h : Heap) : Prop :=
 lenN o fun n =>
 ifT (decide (64 ≤ n)) (
 retG (.tuple [.nilsl, (.bool false)]) h Ψ) (
 Sym.newRow 1 [(.int .u64 0)] h fun r h_ =>
 s30l1_E (s30l1 Ψ) o (.sl r 1 0 1) 0 h_)

def s30_A (Ψ : AVal → Heap → Prop) : Ann :=
 .seq (rA 2)
 (.seq (.seq (rA 3)
 (.cond (.seq (rA 2)
 (.leaf))
 (.leaf)))
 (.seq (rA 2)
 (.seq (.seq (rA 1)
 (.block (loopK [0, 4, 5] s30l1_K (s30l1 Ψ) (fun L1 =>
 .seq (.seq (rA 4)
 (.cond (.leaf)
 (.leaf)))
 (.seq (.block (.seq (rA 1)
 (.seq (.seq (rA 1)
 (.block (loopK [0, 4, 5, 6, 7] s30l2_K (s30l2 Ψ (LK s30l1_K L1)) (fun L2 =>
 .seq (.seq (rA 4)
 (.cond (.leaf)
 (.leaf)))
 (cutK [0, 4, 5, 6, 7] s30c3_K (s30c3 Ψ (LK s30l1_K L1) (LK s30l2_K L2)) (.block (.seq (rA 7)
 (.cond (rA 6)
 (.leaf))))
 (rA 3))))))
 (.seq (rA 1)
 (.block (loopK [0, 4, 5, 6, 8] s30l4_K (s30l4 Ψ (LK s30l1_K L1)) (fun L4 =>
 .seq (.seq (rA 4)
 (.cond (.leaf)
 (.leaf)))
 (.seq (.block (.seq (rA 7)
 (.seq (rA 1)
 (.seq (.seq (rA 1)
 (.block (loopK [0, 4, 5, 6, 8, 9, 10, 11] s30l5_K (s30l5 Ψ (LK s30l1_K L1) (LK s30l4_K L4)) (fun L5 =>
 .seq (.seq (rA 4)
 (.cond (.leaf)
 (.leaf)))
 (cutK [0, 4, 5, 6, 8, 9, 10, 11] s30c6_K (s30c6 Ψ (LK s30l1_K L1) (LK s30l4_K L4) (LK s30l5_K L5)) (.block (.reg [⟨none, [(0, false), (1, false)]⟩, ⟨some (62, false), [(2, false), (3, false), (4, false), (5, false), (6, false), (7, false)]⟩, ⟨none, [(8, false), (9, false)]⟩]))
 (rA 3))))))
 (cutK [0, 4, 5, 6, 8] s30c7_K (s30c7 Ψ (LK s30l1_K L1) (LK s30l4_K L4)) (.seq (rA 2)
 (.cond (.reg [⟨none, [(0, false), (1, false), (2, true), (3, false), (4, false)]⟩])
 (.leaf)))
 (.seq (rA 3)
 (.cond (.seq (rA 2)
 (.leaf))
 (.leaf))))))))
 (rA 3)))))))))
 (rA 3))))))
 (.seq (.seq (rA 1)
 (.block (loopK [4, 12] s30l8_K (s30l8 Ψ) (fun L8 =>
 .seq (.seq (rA 4)
 (.cond (.leaf)
 (.leaf)))
 (.seq (.block (.seq (rA 2)
 (.block (loopK [4, 12, 13] s30l9_K (s30l9 Ψ (LK s30l8_K L8)) (fun L9 =>
 .seq (cutK [4, 12, 13, 99] s30c10_K (s30c10 Ψ (LK s30l8_K L8) (LK s30l9_K L9)) (.draw [(0, false), (1, false), (2, false), (3, false), (4, false), (5, false), (6, false), (7, false), (8, false), (9, false), (10, false), (11, false), (12, false), (13, false)] [0, 1, 3, 7, 7, 23, 63, 127, 7, 7, 775, 1799, 4095, 8191])
 (.cond (.leaf)
 (.leaf)))
 (.seq (.block (.seq (rA 5)
 (.seq (rA 9)
 (rA 6))))
 (rA 3)))))))
 (rA 3))))))
 (.seq (rA 3)
 (.leaf))))))

theorem s30_ok {Ψ : AVal → Heap → Prop} {o : AVal} {h : Heap} (H : s30 Ψ o h) : ACalls prog 30 [o] h Ψ :=
 calls_of_evF func30 (by kernel_rfl) (by kernel_rfl) (by kernel_rfl)
 (Eq.mpr (by as_aux_lemma => kernel_rfl : oblF prog f30 (s30_A Ψ) Ψ = ((True) ∧ ((otP 13) ∧ ((True) ∧ (((True) ∧ ((NK s30l1_K (s30l1 Ψ 0)) ∧ (∀ n1 : Nat, (QK s30l1_K (s30l1 Ψ (n1 + 1))) ∧ ((otP 5) ∧ (((True) ∧ (((True) ∧ ((NK s30l2_K (s30l2 Ψ (s30l1_G (s30l1 Ψ n1)) 0)) ∧ (∀ n2 : Nat, (QK s30l2_K (s30l2 Ψ (s30l1_G (s30l1 Ψ n1)) (n2 + 1))) ∧ ((otP 5) ∧ ((otP 5) ∧ ((QK s30c3_K (s30c3 Ψ (s30l1_G (s30l1 Ψ n1)) (s30l2_G (s30l2 Ψ (s30l1_G (s30l1 Ψ n1)) n2)))) ∧ (True))))))) ∧ ((True) ∧ ((NK s30l4_K (s30l4 Ψ (s30l1_G (s30l1 Ψ n1)) 0)) ∧ (∀ n4 : Nat, (QK s30l4_K (s30l4 Ψ (s30l1_G (s30l1 Ψ n1)) (n4 + 1))) ∧ ((otP 5) ∧ (((True) ∧ ((True) ∧ (((True) ∧ ((NK s30l5_K (s30l5 Ψ (s30l1_G (s30l1 Ψ n1)) (s30l4_G (s30l4 Ψ (s30l1_G (s30l1 Ψ n1)) n4)) 0)) ∧ (∀ n5 : Nat, (QK s30l5_K (s30l5 Ψ (s30l1_G (s30l1 Ψ n1)) (s30l4_G (s30l4 Ψ (s30l1_G (s30l1 Ψ n1)) n4)) (n5 + 1))) ∧ ((otP 5) ∧ ((True) ∧ ((QK s30c6_K (s30c6 Ψ (s30l1_G (s30l1 Ψ n1)) (s30l4_G (s30l4 Ψ (s30l1_G (s30l1 Ψ n1)) n4)) (s30l5_G (s30l5 Ψ (s30l1_G (s30l1 Ψ n1)) (s30l4_G (s30l4 Ψ (s30l1_G (s30l1 Ψ n1)) n4)) n5)))) ∧ (True))))))) ∧ ((otP 5) ∧ ((QK s30c7_K (s30c7 Ψ (s30l1_G (s30l1 Ψ n1)) (s30l4_G (s30l4 Ψ (s30l1_G (s30l1 Ψ n1)) n4)))) ∧ (otP 13)))))) ∧ (True)))))))) ∧ (True)))))) ∧ (((True) ∧ ((NK s30l8_K (s30l8 Ψ 0)) ∧ (∀ n8 : Nat, (QK s30l8_K (s30l8 Ψ (n8 + 1))) ∧ ((otP 5) ∧ (((True) ∧ ((NK s30l9_K (s30l9 Ψ (s30l8_G (s30l8 Ψ n8)) 0)) ∧ (∀ n9 : Nat, (QK s30l9_K (s30l9 Ψ (s30l8_G (s30l8 Ψ n8)) (n9 + 1))) ∧ (((True) ∧ ((QK s30c10_K (s30c10 Ψ (s30l8_G (s30l8 Ψ n8)) (s30l9_G (s30l9 Ψ (s30l8_G (s30l8 Ψ n8)) n9)))) ∧ (otP 1))) ∧ (otP 11))))) ∧ (True)))))) ∧ (otP 1))))))) (⟨trivial, ⟨otP_ok 13, ⟨trivial, ⟨⟨trivial, ⟨fun _ _ _ _ H => H, fun _ => ⟨oI, ⟨otP_ok 5, ⟨⟨trivial, ⟨⟨trivial, ⟨fun _ _ _ _ _ _ H => H, fun _ => ⟨oI, ⟨otP_ok 5, ⟨otP_ok 5, ⟨oI, trivial⟩⟩⟩⟩⟩⟩, ⟨trivial, ⟨fun _ _ _ _ _ _ H => H, fun _ => ⟨oI, ⟨otP_ok 5, ⟨⟨trivial, ⟨trivial, ⟨⟨trivial, ⟨fun _ _ _ _ _ _ _ _ _ H => H, fun _ => ⟨oI, ⟨otP_ok 5, ⟨trivial, ⟨oI, trivial⟩⟩⟩⟩⟩⟩, ⟨otP_ok 5, ⟨oI, otP_ok 13⟩⟩⟩⟩⟩, trivial⟩⟩⟩⟩⟩⟩⟩, trivial⟩⟩⟩⟩⟩, ⟨⟨trivial, ⟨fun _ _ _ H => H, fun _ => ⟨oI, ⟨otP_ok 5, ⟨⟨trivial, ⟨fun _ _ _ _ H => H, fun _ => ⟨oI, ⟨⟨trivial, ⟨oI, otP_ok 1⟩⟩, otP_ok 11⟩⟩⟩⟩, trivial⟩⟩⟩⟩⟩, otP_ok 1⟩⟩⟩⟩⟩))
 (Eq.mpr (by as_aux_lemma => kernel_rfl : evF prog f30 (s30_A Ψ) Ψ [o] h = s30 Ψ o h) H)

/- 32 slices.Index[[]dictum/heyting.set,dictum/heyting.set] -/
abbrev s32l1_T := AVal → ByteArray → Int → Int → Heap → Prop
abbrev s32l1_K : List Kd := [.any, .str, .int .i64, .int .i64]
def s32l1_G (F : s32l1_T) : s32l1_T := GK s32l1_K F
def s32l1_E (F : Nat → s32l1_T) : s32l1_T := EK s32l1_K F
theorem s32l1_go {F : s32l1_T} {x0 : AVal} {x1 : ByteArray} {x2 x3 : Int} {h : Heap} (H : F x0 x1 x2 x3 h) : s32l1_G F x0 x1 x2 x3 h := gJ_plain rfl H
theorem s32l1_in {F : Nat → s32l1_T} {x0 : AVal} {x1 : ByteArray} {x2 x3 : Int} {h : Heap} (n : Nat) (H : F n x0 x1 x2 x3 h) : s32l1_E F x0 x1 x2 x3 h := gJ_plain rfl ⟨n, H⟩

def s32l1 (Ψ : AVal → Heap → Prop) : Nat → s32l1_T
 | 0, _, _, _, _, _ => False
 | n1 + 1, s1, v1, t7, t8, h =>
 ifT (decide (t8 < t7)) (
 ixS 1 s1 t8 fun p =>
 ld1 h p fun v2 =>
 tStr v2 fun v3 =>
 ifT (strEq v1 v3) (
 retG (.int .i64 t8) h Ψ) (
 rg (t8 + 1) (
 s32l1_G (s32l1 Ψ n1) s1 v1 t7 (t8 + 1) h))) (
 retG (.int .i64 (-1)) h Ψ)

def s32 (Ψ : AVal → Heap → Prop) (s : AVal) (v : ByteArray) (h : Heap) : Prop :=
 lenN s fun n =>
 s32l1_E (s32l1 Ψ) s v n 0 h

def s32_A (Ψ : AVal → Heap → Prop) : Ann :=
 .seq (rA 1)
 (.seq (.seq (rA 3)
 (.block (loopK [0, 1, 7, 8] s32l1_K (s32l1 Ψ) (fun L1 =>
 .seq (rA 1)
 (.seq (.cond (.leaf)
 (.leaf))
 (.seq (.block (.seq (rA 2)
 (.seq (rA 6)
 (.cond (.seq (rA 2)
 (.leaf))
 (.leaf)))))
 (rA 2)))))))
 (.seq (rA 1)
 (.leaf)))

theorem s32_ok {Ψ : AVal → Heap → Prop} {s : AVal} {v : ByteArray} {h : Heap} (H : s32 Ψ s v h) : ACalls prog 32 [s, (.str v)] h Ψ :=
 calls_of_evF func32 (by kernel_rfl) (by kernel_rfl) (by kernel_rfl)
 (Eq.mpr (by as_aux_lemma => kernel_rfl : oblF prog f32 (s32_A Ψ) Ψ = ((True) ∧ (((True) ∧ ((NK s32l1_K (s32l1 Ψ 0)) ∧ (∀ n1 : Nat, (QK s32l1_K (s32l1 Ψ (n1 + 1))) ∧ (otP 6861)))) ∧ (otP 1)))) (⟨trivial, ⟨⟨trivial, ⟨fun _ _ _ _ _ H => H, fun _ => ⟨oI, otP_ok 6861⟩⟩⟩, otP_ok 1⟩⟩))
 (Eq.mpr (by as_aux_lemma => kernel_rfl : evF prog f32 (s32_A Ψ) Ψ [s, (.str v)] h = s32 Ψ s v h) H)

/- 34 dictum/dictumref17.True -/
def s34 (Ψ : AVal → Heap → Prop) (m_Up : AVal) (m_Val : AVal) (w : Int) (atom : ByteArray) (h : Heap) : Prop :=
 callG prog 68 [(.agg [m_Up, m_Val]), (.int .i64 w)] h fun v h_ =>
 tTup v fun l_ =>
 tCons l_ fun v1 l_1 =>
 tCons l_1 fun v2 l_2 =>
 tInt .i64 v2 fun v3 =>
 tNil l_2 (
 ifT (v3 != 0) (
 retG (.tuple [(.bool false), (.int .i64 v3)]) h_ Ψ) (
 ixS 1 m_Val w fun p =>
 ld1 h_ p fun v4 =>
 callG prog 65 [v4, (.str atom)] h_ fun v5 h_1 =>
 tBool v5 fun v6 =>
 retG (.tuple [(.bool v6), (.int .i64 0)]) h_1 Ψ))

def s34_A (Ψ : AVal → Heap → Prop) : Ann :=
 .seq (.reg [⟨none, [(0, true), (1, false), (2, false)]⟩])
 (.seq (rA 8)
 (.seq (.seq (rA 2)
 (.cond (.seq (rA 3)
 (.leaf))
 (.leaf)))
 (.seq (rA 9)
 (.leaf))))

theorem s34_ok {Ψ : AVal → Heap → Prop} {m_Up : AVal} {m_Val : AVal} {w : Int} {atom : ByteArray} {h : Heap} (H : s34 Ψ m_Up m_Val w atom h) : ACalls prog 34 [(.agg [m_Up, m_Val]), (.int .i64 w), (.str atom)] h Ψ :=
 calls_of_evF func34 (by kernel_rfl) (by kernel_rfl) (by kernel_rfl)
 (Eq.mpr (by as_aux_lemma => kernel_rfl : oblF prog f34 (s34_A Ψ) Ψ = (otP 4533)) (otP_ok 4533))
 (Eq.mpr (by as_aux_lemma => kernel_rfl : evF prog f34 (s34_A Ψ) Ψ [(.agg [m_Up, m_Val]), (.int .i64 w), (.str atom)] h = s34 Ψ m_Up m_Val w atom h) H)

/- 36 (dictum/heyting.lattice).bounds -/
def s36 (Ψ : AVal → Heap → Prop) (l_n : Int) (l_leq : AVal) (h : Heap) : Prop :=
 callG prog 75 [(.int .i64 l_n), (.func (.func 74) [] []), (.func (.func 76) [(.agg [(.int .i64 l_n), l_leq])] [])] h fun v h_ =>
 tTup v fun l_ =>
 tCons l_ fun v1 l_1 =>
 tInt .i64 v1 fun v2 =>
 tCons l_1 fun v3 l_2 =>
 tBool v3 fun v4 =>
 tNil l_2 (
 callG prog 75 [(.int .i64 l_n), (.func (.func 74) [] []), (.func (.func 77) [(.agg [(.int .i64 l_n), l_leq])] [])] h_ fun v5 h_1 =>
 tTup v5 fun l_3 =>
 tCons l_3 fun v6 l_4 =>
 tInt .i64 v6 fun v7 =>
 tCons l_4 fun v8 l_5 =>
 tBool v8 fun v9 =>
 tNil l_5 (
 retG (.tuple [(.int .i64 v2), (.int .i64 v7)]) h_1 Ψ))

def s36_A (Ψ : AVal → Heap → Prop) : Ann :=
 .seq (.reg [⟨none, [(0, true), (1, false), (2, false)]⟩])
 (.seq (rA 1)
 (.seq (rA 11)
 (.seq (rA 11)
 (.seq (rA 4)
 (.leaf)))))

theorem s36_ok {Ψ : AVal → Heap → Prop} {l_n : Int} {l_leq : AVal} {h : Heap} (H : s36 Ψ l_n l_leq h) : ACalls prog 36 [(.agg [(.int .i64 l_n), l_leq])] h Ψ :=
 calls_of_evF func36 (by kernel_rfl) (by kernel_rfl) (by kernel_rfl)
 (Eq.mpr (by as_aux_lemma => kernel_rfl : oblF prog f36 (s36_A Ψ) Ψ = (otP 341)) (otP_ok 341))
 (Eq.mpr (by as_aux_lemma => kernel_rfl : evF prog f36 (s36_A Ψ) Ψ [(.agg [(.int .i64 l_n), l_leq])] h = s36 Ψ l_n l_leq h) H)

/- 38 dictum/worlds.Tidy -/
abbrev s38l1_T := AVal → AVal → AVal → AVal → Int → Int → Heap → Prop
abbrev s38l1_K : List Kd := [.any, .any, .any, .any, .int .i64, .int .i64]
def s38l1_G (F : s38l1_T) : s38l1_T := GK s38l1_K F
def s38l1_E (F : Nat → s38l1_T) : s38l1_T := EK s38l1_K F
abbrev s38l2_T := AVal → AVal → AVal → AVal → AVal → AVal → AVal → Int → Int → AVal → Int → Int → Heap → Prop
abbrev s38l2_K : List Kd := [.any, .any, .any, .any, .any, .any, .any, .int .i64, .int .i64, .any, .int .i64, .int .i64]
def s38l2_G (F : s38l2_T) : s38l2_T := GK s38l2_K F
def s38l2_E (F : Nat → s38l2_T) : s38l2_T := EK s38l2_K F
theorem s38l2_go {F : s38l2_T} {x0 x1 x2 x3 x4 x5 x6 : AVal} {x7 x8 : Int} {x9 : AVal} {x10 x11 : Int} {h : Heap} (H : F x0 x1 x2 x3 x4 x5 x6 x7 x8 x9 x10 x11 h) : s38l2_G F x0 x1 x2 x3 x4 x5 x6 x7 x8 x9 x10 x11 h := gJ_plain rfl H
abbrev s38c3_K : List Kd := [.any, .any, .any, .any, .any, .any, .any, .int .i64, .int .i64, .any, .int .i64, .int .i64]
def s38c3 (Ψ : AVal → Heap → Prop) (L1 : s38l1_T) (L2 : s38l2_T) (m2 t2_2 leq2 out2 a1 next1 row1 : AVal) (t24_2 t25_2 : Int) (t32_1 : AVal) (t33_1 t34_1 : Int) (h : Heap) : Prop :=
 rg (t34_1 + 1) (
 L2 m2 t2_2 leq2 out2 a1 next1 row1 t24_2 t25_2 t32_1 t33_1 (t34_1 + 1) h)

def s38l2 (Ψ : AVal → Heap → Prop) (L1 : s38l1_T) : Nat → s38l2_T
 | 0, _, _, _, _, _, _, _, _, _, _, _, _, _ => False
 | n3 + 1, m1, t2_1, leq1, out1, a, next, row, t24_1, t25_1, t32, t33, t34, h =>
 ifT (decide (t34 < t33)) (
 ixS 1 t32 t34 fun p =>
 ld1 h p fun v10 =>
 tInt .i64 v10 fun v11 =>
 callV prog next [(.int .i64 v11)] h fun v12 h_11 =>
 tBool v12 fun v13 =>
 ifT v13 (
 appC 1 8 h_11 row (.lsl 1 [(.int .i64 v11)]) fun v14 h_12 =>
 s38c3 Ψ L1 (s38l2_G (s38l2 Ψ L1 n3)) m1 t2_1 leq1 out1 a next v14 t24_1 t25_1 t32 t33 t34 h_12) (
 s38c3 Ψ L1 (s38l2_G (s38l2 Ψ L1 n3)) m1 t2_1 leq1 out1 a next row t24_1 t25_1 t32 t33 t34 h_11)) (
 addOff out1 0 fun p1 =>
 ld1 h p1 fun v15 =>
 chk (sc row) (
 appC 1 24 h v15 (.lsl 1 [row]) fun v16 h_13 =>
 addOff out1 0 fun p2 =>
 chk (sc v16) (
 st true h_13 p2 [v16] fun h_14 =>
 addOff out1 1 fun p3 =>
 ld1 h_14 p3 fun v17 =>
 addOff m1 1 fun p4 =>
 ld1 h_14 p4 fun v18 =>
 ld1 h_14 a fun v19 =>
 tInt .i64 v19 fun v20 =>
 ixS 1 v18 v20 fun p5 =>
 ld1 h_14 p5 fun v21 =>
 callG prog 85 [v21] h_14 fun v22 h_15 =>
 (ld1 h_15 p3 fun v23 =>
 v23 = v17) ∧
 chk (sc v22) (
 (ld1 h_15 p3 fun v24 =>
 v24 = v17) ∧
 appC 1 24 h_15 v17 (.lsl 1 [v22]) fun v25 h_16 =>
 addOff out1 1 fun p6 =>
 chk (sc v25) (
 st true h_16 p6 [v25] fun h_17 =>
 rg (t25_1 + 1) (
 L1 m1 t2_1 leq1 out1 t24_1 (t25_1 + 1) h_17))))))

def s38l1 (Ψ : AVal → Heap → Prop) : Nat → s38l1_T
 | 0, _, _, _, _, _, _, _ => False
 | n1 + 1, m, t2, leq, out, t24, t25, h =>
 ifT (decide (t25 < t24)) (
 Sym.newRow 1 [(.int .i64 0)] h fun r3 h_6 =>
 st true h_6 (.ptr r3 0 0) [(.int .i64 t25)] fun h_7 =>
 ldN 2 h_7 m fun l_6 =>
 tCons l_6 fun v6 l_7 =>
 tCons l_7 fun v7 l_8 =>
 tNil l_8 (
 callG prog 80 [(.agg [v6, v7]), (.func (.func 81) [] [(.ptr r3 0 0), leq])] h_7 fun v8 h_8 =>
 Sym.newRow 1 [.nilsl] h_8 fun r4 h_9 =>
 chk (sc v8) (
 st true h_9 (.ptr r4 0 0) [v8] fun h_10 =>
 ld1 h_10 (.ptr r4 0 0) fun v9 =>
 lenN v9 fun n2 =>
 s38l2_E (s38l2 Ψ (s38l1_G (s38l1 Ψ n1))) m t2 leq out (.ptr r3 0 0) (.func (.func 82) [] [(.ptr r4 0 0), leq]) .nilsl t24 t25 v9 n2 0 h_10))) (
 ldN 2 h out fun l_9 =>
 tCons l_9 fun v26 l_10 =>
 tCons l_10 fun v27 l_11 =>
 tNil l_11 (
 st false h t2 [v26, v27] fun h_18 =>
 ldN 2 h_18 t2 fun l_12 =>
 tCons l_12 fun v28 l_13 =>
 tCons l_13 fun v29 l_14 =>
 tNil l_14 (
 retG (.tuple [(.agg [v28, v29]), (.int .i64 0)]) h_18 Ψ)))

def s38 (Ψ : AVal → Heap → Prop) (m_Up : AVal) (m_Val : AVal) (h : Heap) : Prop :=
 Sym.newRow 2 [(.agg [.nilsl, .nilsl])] h fun r h_ =>
 callG prog 79 [(.agg [m_Up, m_Val]), .nilsl] h_ fun v h_1 =>
 tTup v fun l_ =>
 tCons l_ fun v1 l_1 =>
 tCons l_1 fun v2 l_2 =>
 tInt .i64 v2 fun v3 =>
 tNil l_2 (
 Sym.newRow 1 [.nilfunc] h_1 fun r1 h_2 =>
 chk (sc v1) (
 st true h_2 (.ptr r1 0 0) [v1] fun h_3 =>
 ifT (v3 != 0) (
 st false h_3 (.ptr r 0 0) [.nilsl, .nilsl] fun h_4 =>
 ldN 2 h_4 (.ptr r 0 0) fun l_3 =>
 tCons l_3 fun v4 l_4 =>
 tCons l_4 fun v5 l_5 =>
 tNil l_5 (
 retG (.tuple [(.agg [v4, v5]), (.int .i64 v3)]) h_4 Ψ)) (
 Sym.newRow 2 [(.agg [.nilsl, .nilsl])] h_3 fun r2 h_5 =>
 lenN m_Up fun n =>
 s38l1_E (s38l1 Ψ) (.lptr [m_Up, m_Val]) (.ptr r 0 0) (.ptr r1 0 0) (.ptr r2 0 0) n 0 h_5)))

def s38_A (Ψ : AVal → Heap → Prop) : Ann :=
 .seq (.reg [⟨none, [(0, true), (1, false), (2, false)]⟩])
 (.seq (rA 8)
 (.seq (.seq (rA 2)
 (.cond (.seq (rA 4)
 (.leaf))
 (.leaf)))
 (.seq (rA 1)
 (.seq (.seq (rA 4)
 (.block (loopK [1, 2, 4, 6, 24, 25] s38l1_K (s38l1 Ψ) (fun L1 =>
 .seq (rA 1)
 (.seq (.cond (.leaf)
 (.leaf))
 (.seq (.block (.seq (rA 3)
 (.seq (rA 5)
 (.seq (rA 2)
 (.seq (rA 1)
 (.seq (.seq (rA 3)
 (.block (loopK [1, 2, 4, 6, 7, 9, 10, 24, 25, 32, 33, 34] s38l2_K (s38l2 Ψ (LK s38l1_K L1)) (fun L2 =>
 .seq (rA 1)
 (.seq (.cond (.leaf)
 (.leaf))
 (cutK [1, 2, 4, 6, 7, 9, 10, 24, 25, 32, 33, 34] s38c3_K (s38c3 Ψ (LK s38l1_K L1) (LK s38l2_K L2)) (.block (.seq (rA 3)
 (.seq (rA 3)
 (.cond (.reg [⟨none, [(0, false), (1, false), (2, true), (3, false), (4, false)]⟩])
 (.leaf)))))
 (rA 2)))))))
 (.seq (.reg [⟨none, [(0, false), (1, false), (2, false), (3, true), (4, false), (5, false), (6, false)]⟩])
 (.draw [(0, false), (1, false), (2, false), (3, false), (4, false), (5, false), (6, false), (7, false), (8, true), (9, false), (10, false), (11, false)] [0, 1, 0, 4, 0, 28, 60, 124, 252, 511, 1023, 2047]))))))))
 (rA 2)))))))
 (.seq (rA 3)
 (.leaf))))))

theorem s38_ok {Ψ : AVal → Heap → Prop} {m_Up : AVal} {m_Val : AVal} {h : Heap} (H : s38 Ψ m_Up m_Val h) : ACalls prog 38 [(.agg [m_Up, m_Val])] h Ψ :=
 calls_of_evF func38 (by kernel_rfl) (by kernel_rfl) (by kernel_rfl)
 (Eq.mpr (by as_aux_lemma => kernel_rfl : oblF prog f38 (s38_A Ψ) Ψ = ((True) ∧ ((True) ∧ ((otP 13) ∧ ((True) ∧ (((True) ∧ ((NK s38l1_K (s38l1 Ψ 0)) ∧ (∀ n1 : Nat, (QK s38l1_K (s38l1 Ψ (n1 + 1))) ∧ ((True) ∧ ((otP 1) ∧ (((True) ∧ ((True) ∧ ((True) ∧ ((True) ∧ (((True) ∧ ((NK s38l2_K (s38l2 Ψ (s38l1_G (s38l1 Ψ n1)) 0)) ∧ (∀ n2 : Nat, (QK s38l2_K (s38l2 Ψ (s38l1_G (s38l1 Ψ n1)) (n2 + 1))) ∧ ((True) ∧ ((otP 1) ∧ ((otP 21) ∧ ((QK s38c3_K (s38c3 Ψ (s38l1_G (s38l1 Ψ n1)) (s38l2_G (s38l2 Ψ (s38l1_G (s38l1 Ψ n1)) n2)))) ∧ (True)))))))) ∧ (otP 1)))))) ∧ (True))))))) ∧ (otP 1))))))) (⟨trivial, ⟨trivial, ⟨otP_ok 13, ⟨trivial, ⟨⟨trivial, ⟨fun _ _ _ _ _ _ _ H => H, fun _ => ⟨oI, ⟨trivial, ⟨otP_ok 1, ⟨⟨trivial, ⟨trivial, ⟨trivial, ⟨trivial, ⟨⟨trivial, ⟨fun _ _ _ _ _ _ _ _ _ _ _ _ _ H => H, fun _ => ⟨oI, ⟨trivial, ⟨otP_ok 1, ⟨otP_ok 21, ⟨oI, trivial⟩⟩⟩⟩⟩⟩⟩, otP_ok 1⟩⟩⟩⟩⟩, trivial⟩⟩⟩⟩⟩⟩, otP_ok 1⟩⟩⟩⟩⟩))
 (Eq.mpr (by as_aux_lemma => kernel_rfl : evF prog f38 (s38_A Ψ) Ψ [(.agg [m_Up, m_Val])] h = s38 Ψ m_Up m_Val h) H)

/- 40 (*dictum/dictumref23.H).Bounds -/
abbrev s40l1_T := AVal → Int → Int → Int → Heap → Prop
abbrev s40l1_K : List Kd := [.any, .int .i64, .int .i64, .int .i64]
def s40l1_G (F : s40l1_T) : s40l1_T := GK s40l1_K F
def s40l1_E (F : Nat → s40l1_T) : s40l1_T := EK s40l1_K F
theorem s40l1_go {F : s40l1_T} {x0 : AVal} {x1 x2 x3 : Int} {h : Heap} (H : F x0 x1 x2 x3 h) : s40l1_G F x0 x1 x2 x3 h := gJ_plain rfl H
theorem s40l1_in {F : Nat → s40l1_T} {x0 : AVal} {x1 x2 x3 : Int} {h : Heap} (n : Nat) (H : F n x0 x1 x2 x3 h) : s40l1_E F x0 x1 x2 x3 h := gJ_plain rfl ⟨n, H⟩

abbrev s40c2_K : List Kd := [.any, .int .i64, .int .i64, .int .i64]
def s40c2 (Ψ : AVal → Heap → Prop) (L1 : s40l1_T) (h_2 : AVal) (low1 high1 x1 : Int) (h : Heap) : Prop :=
 rg (x1 + 1) (
 L1 h_2 low1 high1 (x1 + 1) h)

abbrev s40c3_K : List Kd := [.any, .int .i64, .int .i64, .int .i64]
def s40c3 (Ψ : AVal → Heap → Prop) (L1 : s40l1_T) (h_3 : AVal) (low2 high2 x2 : Int) (h : Heap) : Prop :=
 nilCheckA h_3 fun p2 =>
 addOff p2 0 fun p3 =>
 ld1 h p3 fun v1 =>
 ixS 1 v1 high2 fun p4 =>
 ld1 h p4 fun v2 =>
 ixS 1 v2 x2 fun p5 =>
 ld1 h p5 fun v3 =>
 tBool v3 fun v4 =>
 ifT v4 (
 s40c2 Ψ L1 h_3 low2 x2 x2 h) (
 s40c2 Ψ L1 h_3 low2 high2 x2 h)

def s40l1 (Ψ : AVal → Heap → Prop) : Nat → s40l1_T
 | 0, _, _, _, _, _ => False
 | n + 1, h_1, low, high, x, h =>
 nilCheckA h_1 fun p =>
 addOff p 0 fun p1 =>
 ld1 h p1 fun v =>
 lenN v fun n1 =>
 ifT (decide (x < n1)) (
 nilCheckA h_1 fun p6 =>
 addOff p6 0 fun p7 =>
 ld1 h p7 fun v5 =>
 ixS 1 v5 x fun p8 =>
 ld1 h p8 fun v6 =>
 ixS 1 v6 low fun p9 =>
 ld1 h p9 fun v7 =>
 tBool v7 fun v8 =>
 ifT v8 (
 s40c3 Ψ (s40l1_G (s40l1 Ψ n)) h_1 x high x h) (
 s40c3 Ψ (s40l1_G (s40l1 Ψ n)) h_1 low high x h)) (
 retG (.tuple [(.int .i64 low), (.int .i64 high)]) h Ψ)

def s40 (Ψ : AVal → Heap → Prop) (h_ : AVal) (h : Heap) : Prop :=
 s40l1_E (s40l1 Ψ) h_ 0 0 0 h

def s40_A (Ψ : AVal → Heap → Prop) : Ann :=
 .seq (rA 2)
 (.seq (rA 1)
 (.seq (rA 1)
 (.seq (.seq (rA 1)
 (.block (loopK [0, 4, 5, 6] s40l1_K (s40l1 Ψ) (fun L1 =>
 .seq (.seq (rA 7)
 (.cond (.leaf)
 (.leaf)))
 (cutK [0, 4, 5, 6] s40c2_K (s40c2 Ψ (LK s40l1_K L1)) (.block (cutK [0, 4, 5, 6] s40c3_K (s40c3 Ψ (LK s40l1_K L1)) (.seq (rA 10)
 (.cond (rA 2)
 (.leaf)))
 (.seq (rA 10)
 (.cond (rA 2)
 (.leaf)))))
 (rA 3))))))
 (.seq (rA 4)
 (.leaf)))))

theorem s40_ok {Ψ : AVal → Heap → Prop} {h_ : AVal} {h : Heap} (H : s40 Ψ h_ h) : ACalls prog 40 [h_] h Ψ :=
 calls_of_evF func40 (by kernel_rfl) (by kernel_rfl) (by kernel_rfl)
 (Eq.mpr (by as_aux_lemma => kernel_rfl : oblF prog f40 (s40_A Ψ) Ψ = ((True) ∧ ((True) ∧ ((True) ∧ (((True) ∧ ((NK s40l1_K (s40l1 Ψ 0)) ∧ (∀ n1 : Nat, (QK s40l1_K (s40l1 Ψ (n1 + 1))) ∧ ((otP 5) ∧ (((otP 5) ∧ ((QK s40c3_K (s40c3 Ψ (s40l1_G (s40l1 Ψ n1)))) ∧ (otP 5))) ∧ ((QK s40c2_K (s40c2 Ψ (s40l1_G (s40l1 Ψ n1)))) ∧ (True))))))) ∧ (otP 1)))))) (⟨trivial, ⟨trivial, ⟨trivial, ⟨⟨trivial, ⟨fun _ _ _ _ _ H => H, fun _ => ⟨oI, ⟨otP_ok 5, ⟨⟨otP_ok 5, ⟨oI, otP_ok 5⟩⟩, ⟨oI, trivial⟩⟩⟩⟩⟩⟩, otP_ok 1⟩⟩⟩⟩))
 (Eq.mpr (by as_aux_lemma => kernel_rfl : evF prog f40 (s40_A Ψ) Ψ [h_] h = s40 Ψ h_ h) H)

/- 42 dictum/dictumref17.Names -/
abbrev s42l1_T := AVal → AVal → Int → Heap → Prop
abbrev s42l1_K : List Kd := [.any, .any, .int .i64]
def s42l1_G (F : s42l1_T) : s42l1_T := GK s42l1_K F
def s42l1_E (F : Nat → s42l1_T) : s42l1_T := EK s42l1_K F
theorem s42l1_go {F : s42l1_T} {x0 x1 : AVal} {x2 : Int} {h : Heap} (H : F x0 x1 x2 h) : s42l1_G F x0 x1 x2 h := gJ_plain rfl H
theorem s42l1_in {F : Nat → s42l1_T} {x0 x1 : AVal} {x2 : Int} {h : Heap} (n : Nat) (H : F n x0 x1 x2 h) : s42l1_E F x0 x1 x2 h := gJ_plain rfl ⟨n, H⟩

def s42l1 (Ψ : AVal → Heap → Prop) : Nat → s42l1_T
 | 0, _, _, _, _ => False
 | n2 + 1, a1, b1, i, h =>
 lenN a1 fun n3 =>
 ifT (decide (i < n3)) (
 ixS 1 a1 i fun p =>
 ld1 h p fun v =>
 tStr v fun v1 =>
 ixS 1 b1 i fun p1 =>
 ld1 h p1 fun v2 =>
 tStr v2 fun v3 =>
 ifT (!strEq v1 v3) (
 retG (.bool false) h Ψ) (
 rg (i + 1) (
 s42l1_G (s42l1 Ψ n2) a1 b1 (i + 1) h))) (
 retG (.bool true) h Ψ)

def s42 (Ψ : AVal → Heap → Prop) (a : AVal) (b : AVal) (h : Heap) : Prop :=
 lenN a fun n =>
 lenN b fun n1 =>
 ifT (n != n1) (
 retG (.bool false) h Ψ) (
 s42l1_E (s42l1 Ψ) a b 0 h)

def s42_A (Ψ : AVal → Heap → Prop) : Ann :=
 .seq (rA 1)
 (.seq (.seq (rA 5)
 (.cond (.seq (rA 1)
 (.leaf))
 (.leaf)))
 (.seq (.seq (rA 1)
 (.block (loopK [0, 1, 5] s42l1_K (s42l1 Ψ) (fun L1 =>
 .seq (.seq (rA 4)
 (.cond (.leaf)
 (.leaf)))
 (.seq (.block (.seq (.draw [(0, false), (1, false), (2, false), (3, false), (4, false), (5, false), (6, false), (7, false), (8, false)] [0, 0, 3, 7, 0, 0, 48, 112, 255])
 (.cond (.seq (rA 1)
 (.leaf))
 (.leaf))))
 (rA 3))))))
 (.seq (rA 1)
 (.leaf))))

theorem s42_ok {Ψ : AVal → Heap → Prop} {a : AVal} {b : AVal} {h : Heap} (H : s42 Ψ a b h) : ACalls prog 42 [a, b] h Ψ :=
 calls_of_evF func42 (by kernel_rfl) (by kernel_rfl) (by kernel_rfl)
 (Eq.mpr (by as_aux_lemma => kernel_rfl : oblF prog f42 (s42_A Ψ) Ψ = ((True) ∧ ((otP 13) ∧ (((True) ∧ ((NK s42l1_K (s42l1 Ψ 0)) ∧ (∀ n1 : Nat, (QK s42l1_K (s42l1 Ψ (n1 + 1))) ∧ (otP 1739)))) ∧ (otP 1))))) (⟨trivial, ⟨otP_ok 13, ⟨⟨trivial, ⟨fun _ _ _ _ H => H, fun _ => ⟨oI, otP_ok 1739⟩⟩⟩, otP_ok 1⟩⟩⟩))
 (Eq.mpr (by as_aux_lemma => kernel_rfl : evF prog f42 (s42_A Ψ) Ψ [a, b] h = s42 Ψ a b h) H)

/- 44 dictum/heyting.Boolean -/
abbrev s44l1_T := AVal → Int → Int → Int → Int → Heap → Prop
abbrev s44l1_K : List Kd := [.any, .int .i64, .int .i64, .int .i64, .int .i64]
def s44l1_G (F : s44l1_T) : s44l1_T := GK s44l1_K F
def s44l1_E (F : Nat → s44l1_T) : s44l1_T := EK s44l1_K F
theorem s44l1_go {F : s44l1_T} {x0 : AVal} {x1 x2 x3 x4 : Int} {h : Heap} (H : F x0 x1 x2 x3 x4 h) : s44l1_G F x0 x1 x2 x3 x4 h := gJ_plain rfl H
theorem s44l1_in {F : Nat → s44l1_T} {x0 : AVal} {x1 x2 x3 x4 : Int} {h : Heap} (n : Nat) (H : F n x0 x1 x2 x3 x4 h) : s44l1_E F x0 x1 x2 x3 x4 h := gJ_plain rfl ⟨n, H⟩

def s44l1 (Ψ : AVal → Heap → Prop) : Nat → s44l1_T
 | 0, _, _, _, _, _, _ => False
 | n + 1, l_12, low, high, t25, t26, h =>
 ifT (decide (t26 < t25)) (
 ldN 2 h l_12 fun l_13 =>
 tCons l_13 fun v17 l_14 =>
 tInt .i64 v17 fun v18 =>
 tCons l_14 fun v19 l_15 =>
 tNil l_15 (
 ldN 2 h l_12 fun l_16 =>
 tCons l_16 fun v20 l_17 =>
 tInt .i64 v20 fun v21 =>
 tCons l_17 fun v22 l_18 =>
 tNil l_18 (
 callG prog 51 [(.agg [(.int .i64 v21), v22]), (.int .i64 t26), (.int .i64 low)] h fun v23 h_4 =>
 tInt .i64 v23 fun v24 =>
 (ldN 2 h_4 l_12 fun l_19 =>
 (AVal.agg l_19) = (.agg [(.int .i64 v18), v19])) ∧
 callG prog 37 [(.agg [(.int .i64 v18), v19]), (.int .i64 t26), (.int .i64 v24)] h_4 fun v25 h_5 =>
 tTup v25 fun l_20 =>
 tCons l_20 fun v26 l_21 =>
 tInt .i64 v26 fun v27 =>
 tCons l_21 fun v28 l_22 =>
 tBool v28 fun v29 =>
 tNil l_22 (
 ifT (v27 != high) (
 retG (.tuple [(.bool false), (.int .i64 0)]) h_5 Ψ) (
 rg (t26 + 1) (
 s44l1_G (s44l1 Ψ n) l_12 low high t25 (t26 + 1) h_5)))))) (
 retG (.tuple [(.bool true), (.int .i64 0)]) h Ψ)

def s44 (Ψ : AVal → Heap → Prop) (a_Leq : AVal) (h : Heap) : Prop :=
 callG prog 35 [(.agg [a_Leq]), .nilsl] h fun v h_ =>
 tTup v fun l_ =>
 tCons l_ fun v1 l_1 =>
 tCons l_1 fun v2 l_2 =>
 tInt .i64 v2 fun v3 =>
 tNil l_2 (
 tAgg v1 fun l_3 =>
 tCons l_3 fun v4 l_4 =>
 tInt .i64 v4 fun v5 =>
 tCons l_4 fun v6 l_5 =>
 tNil l_5 (
 Sym.newRow 2 [(.agg [(.int .i64 0), .nilfunc])] h_ fun r h_1 =>
 st false h_1 (.ptr r 0 0) [(.int .i64 v5), v6] fun h_2 =>
 ifT (v3 != 0) (
 retG (.tuple [(.bool false), (.int .i64 v3)]) h_2 Ψ) (
 ldN 2 h_2 (.ptr r 0 0) fun l_6 =>
 tCons l_6 fun v7 l_7 =>
 tInt .i64 v7 fun v8 =>
 tCons l_7 fun v9 l_8 =>
 tNil l_8 (
 callG prog 36 [(.agg [(.int .i64 v8), v9])] h_2 fun v10 h_3 =>
 tTup v10 fun l_9 =>
 tCons l_9 fun v11 l_10 =>
 tInt .i64 v11 fun v12 =>
 tCons l_10 fun v13 l_11 =>
 tInt .i64 v13 fun v14 =>
 tNil l_11 (
 ld1 h_3 (.ptr r 0 0) fun v15 =>
 tInt .i64 v15 fun v16 =>
 s44l1_E (s44l1 Ψ) (.ptr r 0 0) v12 v14 v16 0 h_3)))))

def s44_A (Ψ : AVal → Heap → Prop) : Ann :=
 .seq (.reg [⟨none, [(0, true), (1, false), (2, false)]⟩])
 (.seq (rA 8)
 (.seq (.seq (rA 2)
 (.cond (.seq (rA 3)
 (.leaf))
 (.leaf)))
 (.seq (rA 7)
 (.seq (.seq (rA 3)
 (.block (loopK [4, 6, 7, 25, 26] s44l1_K (s44l1 Ψ) (fun L1 =>
 .seq (rA 1)
 (.seq (.cond (.leaf)
 (.leaf))
 (.seq (.block (.seq (rA 2)
 (.seq (.draw [(0, false), (1, false), (2, false), (3, false), (4, false), (5, false), (6, false), (7, false), (8, false), (9, false), (10, false), (11, false)] [0, 0, 0, 0, 0, 28, 63, 127, 255, 255, 511, 2047])
 (.seq (rA 3)
 (.cond (.seq (rA 2)
 (.leaf))
 (.leaf))))))
 (rA 2)))))))
 (.seq (rA 2)
 (.leaf))))))

theorem s44_ok {Ψ : AVal → Heap → Prop} {a_Leq : AVal} {h : Heap} (H : s44 Ψ a_Leq h) : ACalls prog 44 [(.agg [a_Leq])] h Ψ :=
 calls_of_evF func44 (by kernel_rfl) (by kernel_rfl) (by kernel_rfl)
 (Eq.mpr (by as_aux_lemma => kernel_rfl : oblF prog f44 (s44_A Ψ) Ψ = ((True) ∧ ((True) ∧ ((otP 13) ∧ ((True) ∧ (((True) ∧ ((NK s44l1_K (s44l1 Ψ 0)) ∧ (∀ n1 : Nat, (QK s44l1_K (s44l1 Ψ (n1 + 1))) ∧ (otP 27341)))) ∧ (otP 1))))))) (⟨trivial, ⟨trivial, ⟨otP_ok 13, ⟨trivial, ⟨⟨trivial, ⟨fun _ _ _ _ _ _ H => H, fun _ => ⟨oI, otP_ok 27341⟩⟩⟩, otP_ok 1⟩⟩⟩⟩⟩))
 (Eq.mpr (by as_aux_lemma => kernel_rfl : evF prog f44 (s44_A Ψ) Ψ [(.agg [a_Leq])] h = s44 Ψ a_Leq h) H)

/- 51 (dictum/heyting.lattice).imp -/
def s51 (Ψ : AVal → Heap → Prop) (l_n : Int) (l_leq : AVal) (x : Int) (y : Int) (h : Heap) : Prop :=
 callG prog 75 [(.int .i64 l_n), (.func (.func 96) [] [(.lptr [(.int .i64 l_n), l_leq]), (.lptr [(.int .i64 x)]), (.lptr [(.int .i64 y)])]), (.func (.func 77) [(.agg [(.int .i64 l_n), l_leq])] [])] h fun v h_ =>
 tTup v fun l_ =>
 tCons l_ fun v1 l_1 =>
 tInt .i64 v1 fun v2 =>
 tCons l_1 fun v3 l_2 =>
 tBool v3 fun v4 =>
 tNil l_2 (
 retG (.int .i64 v2) h_ Ψ)

def s51_A (Ψ : AVal → Heap → Prop) : Ann :=
 .seq (.reg [⟨none, [(0, true), (1, true), (2, true), (3, false)]⟩])
 (.seq (rA 11)
 (.seq (rA 2)
 (.leaf)))

theorem s51_ok {Ψ : AVal → Heap → Prop} {l_n : Int} {l_leq : AVal} {x : Int} {y : Int} {h : Heap} (H : s51 Ψ l_n l_leq x y h) : ACalls prog 51 [(.agg [(.int .i64 l_n), l_leq]), (.int .i64 x), (.int .i64 y)] h Ψ :=
 calls_of_evF func51 (by kernel_rfl) (by kernel_rfl) (by kernel_rfl)
 (Eq.mpr (by as_aux_lemma => kernel_rfl : oblF prog f51 (s51_A Ψ) Ψ = (otP 21)) (otP_ok 21))
 (Eq.mpr (by as_aux_lemma => kernel_rfl : evF prog f51 (s51_A Ψ) Ψ [(.agg [(.int .i64 l_n), l_leq]), (.int .i64 x), (.int .i64 y)] h = s51 Ψ l_n l_leq x y h) H)

/- 59 dictum/worlds.Check -/
def s59 (Ψ : AVal → Heap → Prop) (m_Up : AVal) (m_Val : AVal) (h : Heap) : Prop :=
 callG prog 79 [(.agg [m_Up, m_Val]), .nilsl] h fun v h_ =>
 tTup v fun l_ =>
 tCons l_ fun v1 l_1 =>
 tCons l_1 fun v2 l_2 =>
 tInt .i64 v2 fun v3 =>
 tNil l_2 (
 retG (.int .i64 v3) h_ Ψ)

def s59_A (Ψ : AVal → Heap → Prop) : Ann :=
 .seq (.reg [⟨none, [(0, true), (1, false)]⟩])
 (.seq (rA 7)
 (.seq (rA 2)
 (.leaf)))

theorem s59_ok {Ψ : AVal → Heap → Prop} {m_Up : AVal} {m_Val : AVal} {h : Heap} (H : s59 Ψ m_Up m_Val h) : ACalls prog 59 [(.agg [m_Up, m_Val])] h Ψ :=
 calls_of_evF func59 (by kernel_rfl) (by kernel_rfl) (by kernel_rfl)
 (Eq.mpr (by as_aux_lemma => kernel_rfl : oblF prog f59 (s59_A Ψ) Ψ = (otP 21)) (otP_ok 21))
 (Eq.mpr (by as_aux_lemma => kernel_rfl : evF prog f59 (s59_A Ψ) Ψ [(.agg [m_Up, m_Val])] h = s59 Ψ m_Up m_Val h) H)

/- 62 dictum/heyting.compare -/
abbrev s62l1_T := ByteArray → ByteArray → Int → Heap → Prop
abbrev s62l1_K : List Kd := [.str, .str, .int .i64]
def s62l1_G (F : s62l1_T) : s62l1_T := GK s62l1_K F
def s62l1_E (F : Nat → s62l1_T) : s62l1_T := EK s62l1_K F
theorem s62l1_go {F : s62l1_T} {x0 x1 : ByteArray} {x2 : Int} {h : Heap} (H : F x0 x1 x2 h) : s62l1_G F x0 x1 x2 h := gJ_plain rfl H
theorem s62l1_in {F : Nat → s62l1_T} {x0 x1 : ByteArray} {x2 : Int} {h : Heap} (n : Nat) (H : F n x0 x1 x2 h) : s62l1_E F x0 x1 x2 h := gJ_plain rfl ⟨n, H⟩

def s62l1 (Ψ : AVal → Heap → Prop) : Nat → s62l1_T
 | 0, _, _, _, _ => False
 | n + 1, a1, b1, w, h =>
 ifT (decide (0 ≤ w)) (
 ((0 : Int) ≤ w ∧ w < (a1.size : Int)) ∧
 ((0 : Int) ≤ w ∧ w < (b1.size : Int)) ∧
 ifT ((btA a1 w) != (btA b1 w)) (
 ((0 : Int) ≤ w ∧ w < (a1.size : Int)) ∧
 rg (btA a1 w) (
 ((0 : Int) ≤ w ∧ w < (b1.size : Int)) ∧
 rg (btA b1 w) (
 rg ((btA a1 w) - (btA b1 w)) (
 retG (.int .i64 ((btA a1 w) - (btA b1 w))) h Ψ)))) (
 rg (w - 1) (
 s62l1_G (s62l1 Ψ n) a1 b1 (w - 1) h))) (
 retG (.int .i64 0) h Ψ)

def s62 (Ψ : AVal → Heap → Prop) (a : ByteArray) (b : ByteArray) (h : Heap) : Prop :=
 rg ((a.size : Int) - 1) (
 s62l1_E (s62l1 Ψ) a b ((a.size : Int) - 1) h)

def s62_A (Ψ : AVal → Heap → Prop) : Ann :=
 .seq (rA 1)
 (.seq (.seq (rA 4)
 (.block (loopK [0, 1, 5] s62l1_K (s62l1 Ψ) (fun L1 =>
 .seq (.seq (rA 2)
 (.cond (.leaf)
 (.leaf)))
 (.seq (.block (.seq (.draw [(0, false), (1, false), (2, false), (3, false), (4, false), (5, false), (6, false)] [0, 0, 3, 0, 0, 24, 63])
 (.cond (.seq (.draw [(0, false), (1, false), (2, false), (3, false), (4, false), (5, false), (6, false), (7, false), (8, false), (9, false)] [0, 0, 3, 7, 0, 0, 48, 112, 255, 511])
 (.leaf))
 (.leaf))))
 (rA 3))))))
 (.seq (rA 1)
 (.leaf)))

theorem s62_ok {Ψ : AVal → Heap → Prop} {a : ByteArray} {b : ByteArray} {h : Heap} (H : s62 Ψ a b h) : ACalls prog 62 [(.str a), (.str b)] h Ψ :=
 calls_of_evF func62 (by kernel_rfl) (by kernel_rfl) (by kernel_rfl)
 (Eq.mpr (by as_aux_lemma => kernel_rfl : oblF prog f62 (s62_A Ψ) Ψ = ((True) ∧ (((True) ∧ ((NK s62l1_K (s62l1 Ψ 0)) ∧ (∀ n1 : Nat, (QK s62l1_K (s62l1 Ψ (n1 + 1))) ∧ (otP 1739)))) ∧ (otP 1)))) (⟨trivial, ⟨⟨trivial, ⟨fun _ _ _ _ H => H, fun _ => ⟨oI, otP_ok 1739⟩⟩⟩, otP_ok 1⟩⟩))
 (Eq.mpr (by as_aux_lemma => kernel_rfl : evF prog f62 (s62_A Ψ) Ψ [(.str a), (.str b)] h = s62 Ψ a b h) H)

/- 64 dictum/dictumref17.fine -/
abbrev s64l1_T := AVal → Int → Heap → Prop
abbrev s64l1_K : List Kd := [.any, .int .i64]
def s64l1_G (F : s64l1_T) : s64l1_T := GK s64l1_K F
def s64l1_E (F : Nat → s64l1_T) : s64l1_T := EK s64l1_K F
theorem s64l1_go {F : s64l1_T} {x0 : AVal} {x1 : Int} {h : Heap} (H : F x0 x1 h) : s64l1_G F x0 x1 h := gJ_plain rfl H
theorem s64l1_in {F : Nat → s64l1_T} {x0 : AVal} {x1 : Int} {h : Heap} (n : Nat) (H : F n x0 x1 h) : s64l1_E F x0 x1 h := gJ_plain rfl ⟨n, H⟩

abbrev s64c2_K : List Kd := [.any, .int .i64, .bool]
def s64c2 (Ψ : AVal → Heap → Prop) (L1 : s64l1_T) (l_2 : AVal) (i1 : Int) (t31 : Bool) (h : Heap) : Prop :=
 ifT t31 (
 retG (.bool false) h Ψ) (
 rg (i1 + 1) (
 L1 l_2 (i1 + 1) h))

def s64l1 (Ψ : AVal → Heap → Prop) : Nat → s64l1_T
 | 0, _, _, _ => False
 | n + 1, l_1, i, h =>
 lenN l_1 fun n1 =>
 ifT (decide (i < n1)) (
 ixS 1 l_1 i fun p =>
 ld1 h p fun v =>
 tStr v fun v1 =>
 callG prog 103 [(.str v1)] h fun v2 h_ =>
 tBool v2 fun v3 =>
 ifT (!v3) (
 s64c2 Ψ (s64l1_G (s64l1 Ψ n)) l_1 i true h_) (
 ifT (decide (0 < i)) (
 rg (i - 1) (
 ixS 1 l_1 (i - 1) fun p1 =>
 ld1 h_ p1 fun v4 =>
 tStr v4 fun v5 =>
 ixS 1 l_1 i fun p2 =>
 ld1 h_ p2 fun v6 =>
 tStr v6 fun v7 =>
 s64c2 Ψ (s64l1_G (s64l1 Ψ n)) l_1 i (!strLt v5 v7) h_)) (
 s64c2 Ψ (s64l1_G (s64l1 Ψ n)) l_1 i false h_))) (
 retG (.bool true) h Ψ)

def s64 (Ψ : AVal → Heap → Prop) (l_ : AVal) (h : Heap) : Prop :=
 s64l1_E (s64l1 Ψ) l_ 0 h

def s64_A (Ψ : AVal → Heap → Prop) : Ann :=
 .seq (rA 1)
 (.seq (.seq (rA 1)
 (.block (loopK [0, 3] s64l1_K (s64l1 Ψ) (fun L1 =>
 .seq (.seq (rA 4)
 (.cond (.leaf)
 (.leaf)))
 (.seq (.block (cutK [0, 3, 31] s64c2_K (s64c2 Ψ (LK s64l1_K L1)) (.draw [(0, false), (1, false), (2, false), (3, false), (4, false), (5, false), (6, false), (7, false), (8, false), (9, false), (10, false), (11, false), (12, false), (13, false), (14, false), (15, false), (16, false), (17, false), (18, false), (19, false), (20, false), (21, false)] [0, 0, 3, 7, 15, 31, 63, 127, 255, 511, 1023, 1023, 3071, 8191, 16383, 1023, 1023, 99327, 230399, 524287, 1048575, 2097151])
 (.cond (.seq (rA 1)
 (.leaf))
 (.leaf))))
 (rA 3))))))
 (.seq (rA 1)
 (.leaf)))

theorem s64_ok {Ψ : AVal → Heap → Prop} {l_ : AVal} {h : Heap} (H : s64 Ψ l_ h) : ACalls prog 64 [l_] h Ψ :=
 calls_of_evF func64 (by kernel_rfl) (by kernel_rfl) (by kernel_rfl)
 (Eq.mpr (by as_aux_lemma => kernel_rfl : oblF prog f64 (s64_A Ψ) Ψ = ((True) ∧ (((True) ∧ ((NK s64l1_K (s64l1 Ψ 0)) ∧ (∀ n1 : Nat, (QK s64l1_K (s64l1 Ψ (n1 + 1))) ∧ ((otP 5) ∧ (((True) ∧ ((QK s64c2_K (s64c2 Ψ (s64l1_G (s64l1 Ψ n1)))) ∧ (otP 3))) ∧ (True)))))) ∧ (otP 1)))) (⟨trivial, ⟨⟨trivial, ⟨fun _ _ _ H => H, fun _ => ⟨oI, ⟨otP_ok 5, ⟨⟨trivial, ⟨oI, otP_ok 3⟩⟩, trivial⟩⟩⟩⟩⟩, otP_ok 1⟩⟩))
 (Eq.mpr (by as_aux_lemma => kernel_rfl : evF prog f64 (s64_A Ψ) Ψ [l_] h = s64 Ψ l_ h) H)

/- 66 slices.pdqsortOrdered[string] -/
abbrev s66l1_T := AVal → Int → Int → Int → Bool → Bool → Heap → Prop
abbrev s66l1_K : List Kd := [.any, .int .i64, .int .i64, .int .i64, .bool, .bool]
def s66l1_G (F : s66l1_T) : s66l1_T := GK s66l1_K F
def s66l1_E (F : Nat → s66l1_T) : s66l1_T := EK s66l1_K F
theorem s66l1_in {F : Nat → s66l1_T} {x0 : AVal} {x1 x2 x3 : Int} {x4 x5 : Bool} {h : Heap} (n : Nat) (H : F n x0 x1 x2 x3 x4 x5 h) : s66l1_E F x0 x1 x2 x3 x4 x5 h := gJ_plain rfl ⟨n, H⟩

abbrev s66c5_K : List Kd := [.any, .int .i64, .int .i64, .int .i64, .bool, .bool, .int .i64, .int .i64, .bool]
def s66c5 (Ψ : AVal → Heap → Prop) (L1 : s66l1_T) (data5 : AVal) (a5 b5 limit5 : Int) (wasBalanced4 wasPartitioned4 : Bool) (length3 pivot2 : Int) (t87 : Bool) (h : Heap) : Prop :=
 ifT t87 (
 callG prog 111 [data5, (.int .i64 a5), (.int .i64 b5), (.int .i64 pivot2)] h fun v7 h_3 =>
 tInt .i64 v7 fun v8 =>
 L1 data5 v8 b5 limit5 wasBalanced4 wasPartitioned4 h_3) (
 callG prog 112 [data5, (.int .i64 a5), (.int .i64 b5), (.int .i64 pivot2)] h fun v9 h_4 =>
 tTup v9 fun l_3 =>
 tCons l_3 fun v10 l_4 =>
 tInt .i64 v10 fun v11 =>
 tCons l_4 fun v12 l_5 =>
 tBool v12 fun v13 =>
 tNil l_5 (
 rg (v11 - a5) (
 rg (b5 - v11) (
 8 ≠ (0 : Int) ∧
 rg (Int.tdiv length3 8) (
 ifT (decide ((v11 - a5) < (b5 - v11))) (
 callG prog 66 [data5, (.int .i64 a5), (.int .i64 v11), (.int .i64 limit5)] h_4 fun v14 h_5 =>
 rg (v11 + 1) (
 L1 data5 (v11 + 1) b5 limit5 (decide ((Int.tdiv length3 8) ≤ (v11 - a5))) v13 h_5)) (
 rg (v11 + 1) (
 callG prog 66 [data5, (.int .i64 (v11 + 1)), (.int .i64 b5), (.int .i64 limit5)] h_4 fun v15 h_6 =>
 L1 data5 a5 v11 limit5 (decide ((Int.tdiv length3 8) ≤ (b5 - v11))) v13 h_6)))))))

abbrev s66c4_K : List Kd := [.any, .int .i64, .int .i64, .int .i64, .bool, .bool, .int .i64, .int .i64]
def s66c4 (Ψ : AVal → Heap → Prop) (L1 : s66l1_T) (data4 : AVal) (a4 b4 limit4 : Int) (wasBalanced3 wasPartitioned3 : Bool) (length2 pivot1 : Int) (h : Heap) : Prop :=
 ifT (decide (0 < a4)) (
 rg (a4 - 1) (
 ixS 1 data4 (a4 - 1) fun p =>
 ld1 h p fun v16 =>
 tStr v16 fun v17 =>
 ixS 1 data4 pivot1 fun p1 =>
 ld1 h p1 fun v18 =>
 tStr v18 fun v19 =>
 callG prog 110 [(.str v17), (.str v19)] h fun v20 h_7 =>
 tBool v20 fun v21 =>
 s66c5 Ψ L1 data4 a4 b4 limit4 wasBalanced3 wasPartitioned3 length2 pivot1 (!v21) h_7)) (
 s66c5 Ψ L1 data4 a4 b4 limit4 wasBalanced3 wasPartitioned3 length2 pivot1 false h)

abbrev s66c6_K : List Kd := [.any, .int .i64, .int .i64, .int .i64, .bool, .bool, .int .i64, .int .i64, .bool]
def s66c6 (Ψ : AVal → Heap → Prop) (L1 : s66l1_T) (data6 : AVal) (a6 b6 limit6 : Int) (wasBalanced5 wasPartitioned5 : Bool) (length4 pivot3 : Int) (t68 : Bool) (h : Heap) : Prop :=
 ifT t68 (
 callG prog 109 [data6, (.int .i64 a6), (.int .i64 b6)] h fun v22 h_8 =>
 tBool v22 fun v23 =>
 ifT v23 (
 retG (.tuple []) h_8 Ψ) (
 s66c4 Ψ L1 data6 a6 b6 limit6 wasBalanced5 wasPartitioned5 length4 pivot3 h_8)) (
 s66c4 Ψ L1 data6 a6 b6 limit6 wasBalanced5 wasPartitioned5 length4 pivot3 h)

abbrev s66c3_K : List Kd := [.any, .int .i64, .int .i64, .int .i64, .bool, .bool, .int .i64, .int .i64, .int .i64]
def s66c3 (Ψ : AVal → Heap → Prop) (L1 : s66l1_T) (data3 : AVal) (a3 b3 limit3 : Int) (wasBalanced2 wasPartitioned2 : Bool) (length1 pivot hint : Int) (h : Heap) : Prop :=
 ifT wasBalanced2 (
 ifT wasPartitioned2 (
 s66c6 Ψ L1 data3 a3 b3 limit3 wasBalanced2 wasPartitioned2 length1 pivot (hint == 1) h) (
 s66c6 Ψ L1 data3 a3 b3 limit3 wasBalanced2 wasPartitioned2 length1 pivot false h)) (
 s66c6 Ψ L1 data3 a3 b3 limit3 wasBalanced2 wasPartitioned2 length1 pivot false h)

abbrev s66c2_K : List Kd := [.any, .int .i64, .int .i64, .int .i64, .bool, .bool, .int .i64]
def s66c2 (Ψ : AVal → Heap → Prop) (L1 : s66l1_T) (data2 : AVal) (a2 b2 limit2 : Int) (wasBalanced1 wasPartitioned1 : Bool) (length : Int) (h : Heap) : Prop :=
 callG prog 107 [data2, (.int .i64 a2), (.int .i64 b2)] h fun v2 h_2 =>
 tTup v2 fun l_ =>
 tCons l_ fun v3 l_1 =>
 tInt .i64 v3 fun v4 =>
 tCons l_1 fun v5 l_2 =>
 tInt .i64 v5 fun v6 =>
 tNil l_2 (
 ifT (v6 == 2) (
 callG prog 108 [data2, (.int .i64 a2), (.int .i64 b2)] h_2 fun v24 h_9 =>
 rg (b2 - 1) (
 rg (v4 - a2) (
 rg ((b2 - 1) - (v4 - a2)) (
 s66c3 Ψ L1 data2 a2 b2 limit2 wasBalanced1 wasPartitioned1 length ((b2 - 1) - (v4 - a2)) 1 h_9)))) (
 s66c3 Ψ L1 data2 a2 b2 limit2 wasBalanced1 wasPartitioned1 length v4 v6 h_2))

def s66l1 (Ψ : AVal → Heap → Prop) : Nat → s66l1_T
 | 0, _, _, _, _, _, _, _ => False
 | n + 1, data1, a1, b1, limit1, wasBalanced, wasPartitioned, h =>
 rg (b1 - a1) (
 ifT (decide ((b1 - a1) ≤ 12)) (
 callG prog 104 [data1, (.int .i64 a1), (.int .i64 b1)] h fun v h_ =>
 retG (.tuple []) h_ Ψ) (
 ifT (limit1 == 0) (
 callG prog 105 [data1, (.int .i64 a1), (.int .i64 b1)] h fun v1 h_1 =>
 retG (.tuple []) h_1 Ψ) (
 ifT (!wasBalanced) (
 callG prog 106 [data1, (.int .i64 a1), (.int .i64 b1)] h fun v25 h_10 =>
 rg (limit1 - 1) (
 s66c2 Ψ (s66l1_G (s66l1 Ψ n)) data1 a1 b1 (limit1 - 1) wasBalanced wasPartitioned (b1 - a1) h_10)) (
 s66c2 Ψ (s66l1_G (s66l1 Ψ n)) data1 a1 b1 limit1 wasBalanced wasPartitioned (b1 - a1) h))))

def s66 (Ψ : AVal → Heap → Prop) (data : AVal) (a : Int) (b : Int) (limit : Int) (h : Heap) : Prop :=
 s66l1_E (s66l1 Ψ) data a b limit true true h

def s66_A (Ψ : AVal → Heap → Prop) : Ann :=
 .seq (rA 1)
 (.seq (rA 1)
 (.block (loopK [0, 1, 2, 3, 8, 9] s66l1_K (s66l1 Ψ) (fun L1 =>
 .block (.seq (rA 4)
 (.seq (.seq (rA 2)
 (.cond (.seq (rA 4)
 (.leaf))
 (.leaf)))
 (.seq (.seq (rA 2)
 (.cond (.seq (rA 4)
 (.leaf))
 (.leaf)))
 (cutK [0, 1, 2, 3, 8, 9, 10] s66c2_K (s66c2 Ψ (LK s66l1_K L1)) (.seq (rA 2)
 (.cond (.seq (rA 4)
 (rA 3))
 (.leaf)))
 (.seq (rA 9)
 (cutK [0, 1, 2, 3, 8, 9, 10, 11, 12] s66c3_K (s66c3 Ψ (LK s66l1_K L1)) (.seq (rA 2)
 (.cond (.seq (rA 4)
 (.seq (rA 7)
 (rA 1)))
 (.leaf)))
 (cutK [0, 1, 2, 3, 8, 9, 10, 11] s66c4_K (s66c4 Ψ (LK s66l1_K L1)) (cutK [0, 1, 2, 3, 8, 9, 10, 11, 68] s66c6_K (s66c6 Ψ (LK s66l1_K L1)) (.reg [⟨none, [(0, false), (1, false)]⟩, ⟨some (62, true), [(2, false)]⟩, ⟨none, [(3, false), (4, false)]⟩, ⟨some (65, true), [(5, false), (6, false)]⟩, ⟨none, [(7, false)]⟩])
 (.cond (.seq (rA 4)
 (.cond (.leaf)
 (.leaf)))
 (.leaf)))
 (.seq (cutK [0, 1, 2, 3, 8, 9, 10, 11, 87] s66c5_K (s66c5 Ψ (LK s66l1_K L1)) (.draw [(0, false), (1, false), (2, false), (3, false), (4, false), (5, false), (6, false), (7, false), (8, false), (9, false), (10, false), (11, false), (12, false), (13, false), (14, false)] [0, 1, 3, 7, 7, 23, 63, 127, 7, 7, 775, 1799, 4095, 8191, 16383])
 (.cond (.seq (rA 6)
 (.seq (rA 2)
 (.leaf)))
 (.leaf)))
 (.seq (rA 10)
 (.seq (rA 2)
 (.seq (rA 8)
 (.seq (rA 3)
 (.seq (rA 3)
 (.cond (.seq (rA 4)
 (.seq (rA 5)
 (rA 3)))
 (.seq (rA 4)
 (.seq (rA 6)
 (rA 2)))))))))))))))))))))

theorem s66_ok {Ψ : AVal → Heap → Prop} {data : AVal} {a : Int} {b : Int} {limit : Int} {h : Heap} (H : s66 Ψ data a b limit h) : ACalls prog 66 [data, (.int .i64 a), (.int .i64 b), (.int .i64 limit)] h Ψ :=
 calls_of_evF func66 (by kernel_rfl) (by kernel_rfl) (by kernel_rfl)
 (Eq.mpr (by as_aux_lemma => kernel_rfl : oblF prog f66 (s66_A Ψ) Ψ = ((True) ∧ ((True) ∧ ((NK s66l1_K (s66l1 Ψ 0)) ∧ (∀ n1 : Nat, (QK s66l1_K (s66l1 Ψ (n1 + 1))) ∧ ((True) ∧ ((otP 13) ∧ ((otP 13) ∧ ((otP 13) ∧ ((QK s66c2_K (s66c2 Ψ (s66l1_G (s66l1 Ψ n1)))) ∧ ((True) ∧ ((otP 45) ∧ ((QK s66c3_K (s66c3 Ψ (s66l1_G (s66l1 Ψ n1)))) ∧ (((True) ∧ ((QK s66c6_K (s66c6 Ψ (s66l1_G (s66l1 Ψ n1)))) ∧ (otP 11))) ∧ ((QK s66c4_K (s66c4 Ψ (s66l1_G (s66l1 Ψ n1)))) ∧ (((True) ∧ ((QK s66c5_K (s66c5 Ψ (s66l1_G (s66l1 Ψ n1)))) ∧ (otP 11))) ∧ (otP 339285))))))))))))))))) (⟨trivial, ⟨trivial, ⟨fun _ _ _ _ _ _ _ H => H, fun _ => ⟨oI, ⟨trivial, ⟨otP_ok 13, ⟨otP_ok 13, ⟨otP_ok 13, ⟨oI, ⟨trivial, ⟨otP_ok 45, ⟨oI, ⟨⟨trivial, ⟨oI, otP_ok 11⟩⟩, ⟨oI, ⟨⟨trivial, ⟨oI, otP_ok 11⟩⟩, otP_ok 339285⟩⟩⟩⟩⟩⟩⟩⟩⟩⟩⟩⟩⟩⟩⟩))
 (Eq.mpr (by as_aux_lemma => kernel_rfl : evF prog f66 (s66_A Ψ) Ψ [data, (.int .i64 a), (.int .i64 b), (.int .i64 limit)] h = s66 Ψ data a b limit h) H)

/- 68 dictum/dictumref17.asked -/
abbrev s68c1_K : List Kd := [.any, .bool]
def s68c1 (Ψ : AVal → Heap → Prop) (o : AVal) (t22 : Bool) (h : Heap) : Prop :=
 ifT t22 (
 retG (.tuple [.nilsl, (.int .i64 2)]) h Ψ) (
 retG (.tuple [o, (.int .i64 0)]) h Ψ)

def s68 (Ψ : AVal → Heap → Prop) (m_Up : AVal) (m_Val : AVal) (w : Int) (h : Heap) : Prop :=
 callG prog 29 [(.agg [m_Up, m_Val])] h fun v h_ =>
 tTup v fun l_ =>
 tCons l_ fun v1 l_1 =>
 tCons l_1 fun v2 l_2 =>
 tBool v2 fun v3 =>
 tNil l_2 (
 ifT (!v3) (
 retG (.tuple [.nilsl, (.int .i64 170)]) h_ Ψ) (
 ifT (decide (w < 0)) (
 s68c1 Ψ v1 true h_) (
 lenN v1 fun n =>
 s68c1 Ψ v1 (decide (n ≤ w)) h_)))

def s68_A (Ψ : AVal → Heap → Prop) : Ann :=
 .seq (.reg [⟨none, [(0, true), (1, false), (2, false)]⟩])
 (.seq (rA 7)
 (.seq (.seq (rA 2)
 (.cond (.seq (rA 2)
 (.leaf))
 (.leaf)))
 (.seq (cutK [6, 22] s68c1_K (s68c1 Ψ) (.reg [⟨none, [(0, false), (1, false), (2, false)]⟩, ⟨some (17, false), [(3, false), (4, false), (5, false), (6, false)]⟩, ⟨none, [(7, false)]⟩])
 (.cond (.seq (rA 2)
 (.leaf))
 (.leaf)))
 (.seq (rA 3)
 (.leaf)))))

theorem s68_ok {Ψ : AVal → Heap → Prop} {m_Up : AVal} {m_Val : AVal} {w : Int} {h : Heap} (H : s68 Ψ m_Up m_Val w h) : ACalls prog 68 [(.agg [m_Up, m_Val]), (.int .i64 w)] h Ψ :=
 calls_of_evF func68 (by kernel_rfl) (by kernel_rfl) (by kernel_rfl)
 (Eq.mpr (by as_aux_lemma => kernel_rfl : oblF prog f68 (s68_A Ψ) Ψ = ((True) ∧ ((True) ∧ ((otP 13) ∧ (((True) ∧ ((QK s68c1_K (s68c1 Ψ)) ∧ (otP 3))) ∧ (otP 1)))))) (⟨trivial, ⟨trivial, ⟨otP_ok 13, ⟨⟨trivial, ⟨oI, otP_ok 3⟩⟩, otP_ok 1⟩⟩⟩⟩))
 (Eq.mpr (by as_aux_lemma => kernel_rfl : evF prog f68 (s68_A Ψ) Ψ [(.agg [m_Up, m_Val]), (.int .i64 w)] h = s68 Ψ m_Up m_Val w h) H)

/- 70 slices.ContainsFunc[[][]bool,[]bool] -/
def s70 (Ψ : AVal → Heap → Prop) (s : AVal) (f : AVal) (h : Heap) : Prop :=
 callG prog 115 [s, f] h fun v h_ =>
 tInt .i64 v fun v1 =>
 retG (.bool (decide (0 ≤ v1))) h_ Ψ

def s70_A (Ψ : AVal → Heap → Prop) : Ann :=
 .seq (rA 1)
 (.seq (rA 5)
 (.leaf))

theorem s70_ok {Ψ : AVal → Heap → Prop} {s : AVal} {f : AVal} {h : Heap} (H : s70 Ψ s f h) : ACalls prog 70 [s, f] h Ψ :=
 calls_of_evF func70 (by kernel_rfl) (by kernel_rfl) (by kernel_rfl)
 (Eq.mpr (by as_aux_lemma => kernel_rfl : oblF prog f70 (s70_A Ψ) Ψ = (otP 5)) (otP_ok 5))
 (Eq.mpr (by as_aux_lemma => kernel_rfl : evF prog f70 (s70_A Ψ) Ψ [s, f] h = s70 Ψ s f h) H)

/- 72 (dictum/heyting.lattice).ordered -/
abbrev s72l1_T := AVal → Int → Int → Heap → Prop
abbrev s72l1_K : List Kd := [.any, .int .i64, .int .i64]
def s72l1_G (F : s72l1_T) : s72l1_T := GK s72l1_K F
def s72l1_E (F : Nat → s72l1_T) : s72l1_T := EK s72l1_K F
theorem s72l1_go {F : s72l1_T} {x0 : AVal} {x1 x2 : Int} {h : Heap} (H : F x0 x1 x2 h) : s72l1_G F x0 x1 x2 h := gJ_plain rfl H
theorem s72l1_in {F : Nat → s72l1_T} {x0 : AVal} {x1 x2 : Int} {h : Heap} (n : Nat) (H : F n x0 x1 x2 h) : s72l1_E F x0 x1 x2 h := gJ_plain rfl ⟨n, H⟩

abbrev s72l2_T := AVal → Int → Int → Int → Int → Int → Heap → Prop
abbrev s72l2_K : List Kd := [.any, .int .i64, .int .i64, .int .i64, .int .i64, .int .i64]
def s72l2_G (F : s72l2_T) : s72l2_T := GK s72l2_K F
def s72l2_E (F : Nat → s72l2_T) : s72l2_T := EK s72l2_K F
theorem s72l2_go {F : s72l2_T} {x0 : AVal} {x1 x2 x3 x4 x5 : Int} {h : Heap} (H : F x0 x1 x2 x3 x4 x5 h) : s72l2_G F x0 x1 x2 x3 x4 x5 h := gJ_plain rfl H
theorem s72l2_in {F : Nat → s72l2_T} {x0 : AVal} {x1 x2 x3 x4 x5 : Int} {h : Heap} (n : Nat) (H : F n x0 x1 x2 x3 x4 x5 h) : s72l2_E F x0 x1 x2 x3 x4 x5 h := gJ_plain rfl ⟨n, H⟩

abbrev s72l4_T := AVal → Int → Int → Int → Int → Int → Int → Int → Int → Heap → Prop
abbrev s72l4_K : List Kd := [.any, .int .i64, .int .i64, .int .i64, .int .i64, .int .i64, .int .i64, .int .i64, .int .i64]
def s72l4_G (F : s72l4_T) : s72l4_T := GK s72l4_K F
def s72l4_E (F : Nat → s72l4_T) : s72l4_T := EK s72l4_K F
theorem s72l4_go {F : s72l4_T} {x0 : AVal} {x1 x2 x3 x4 x5 x6 x7 x8 : Int} {h : Heap} (H : F x0 x1 x2 x3 x4 x5 x6 x7 x8 h) : s72l4_G F x0 x1 x2 x3 x4 x5 x6 x7 x8 h := gJ_plain rfl H
theorem s72l4_in {F : Nat → s72l4_T} {x0 : AVal} {x1 x2 x3 x4 x5 x6 x7 x8 : Int} {h : Heap} (n : Nat) (H : F n x0 x1 x2 x3 x4 x5 x6 x7 x8 h) : s72l4_E F x0 x1 x2 x3 x4 x5 x6 x7 x8 h := gJ_plain rfl ⟨n, H⟩

abbrev s72c5_K : List Kd := [.any, .int .i64, .int .i64, .int .i64, .int .i64, .int .i64, .int .i64, .int .i64, .int .i64, .bool]
def s72c5 (Ψ : AVal → Heap → Prop) (L1 : s72l1_T) (L2 : s72l2_T) (L4 : s72l4_T) (l_4 : AVal) (x3 y2 t7_4 t8_4 t18_3 t19_3 t40_1 t41_1 : Int) (t63 : Bool) (h : Heap) : Prop :=
 ifT t63 (
 retG (.bool false) h Ψ) (
 rg (t41_1 + 1) (
 L4 l_4 x3 y2 t7_4 t8_4 t18_3 t19_3 t40_1 (t41_1 + 1) h))

def s72l4 (Ψ : AVal → Heap → Prop) (L1 : s72l1_T) (L2 : s72l2_T) : Nat → s72l4_T
 | 0, _, _, _, _, _, _, _, _, _, _ => False
 | n2 + 1, l_3, x2, y1, t7_3, t8_3, t18_2, t19_2, t40, t41, h =>
 ifT (decide (t41 < t40)) (
 addOff l_3 1 fun p3 =>
 ld1 h p3 fun v7 =>
 callV prog v7 [(.int .i64 x2), (.int .i64 y1)] h fun v8 h_1 =>
 tBool v8 fun v9 =>
 ifT v9 (
 addOff l_3 1 fun p4 =>
 ld1 h_1 p4 fun v10 =>
 callV prog v10 [(.int .i64 y1), (.int .i64 t41)] h_1 fun v11 h_2 =>
 tBool v11 fun v12 =>
 ifT v12 (
 addOff l_3 1 fun p5 =>
 ld1 h_2 p5 fun v13 =>
 callV prog v13 [(.int .i64 x2), (.int .i64 t41)] h_2 fun v14 h_3 =>
 tBool v14 fun v15 =>
 s72c5 Ψ L1 L2 (s72l4_G (s72l4 Ψ L1 L2 n2)) l_3 x2 y1 t7_3 t8_3 t18_2 t19_2 t40 t41 (!v15) h_3) (
 s72c5 Ψ L1 L2 (s72l4_G (s72l4 Ψ L1 L2 n2)) l_3 x2 y1 t7_3 t8_3 t18_2 t19_2 t40 t41 false h_2)) (
 s72c5 Ψ L1 L2 (s72l4_G (s72l4 Ψ L1 L2 n2)) l_3 x2 y1 t7_3 t8_3 t18_2 t19_2 t40 t41 false h_1)) (
 rg (t19_2 + 1) (
 L2 l_3 x2 t7_3 t8_3 t18_2 (t19_2 + 1) h))

abbrev s72c3_K : List Kd := [.any, .int .i64, .int .i64, .int .i64, .int .i64, .int .i64, .int .i64, .bool]
def s72c3 (Ψ : AVal → Heap → Prop) (L1 : s72l1_T) (L2 : s72l2_T) (l_2 : AVal) (x1 y t7_2 t8_2 t18_1 t19_1 : Int) (t38 : Bool) (h : Heap) : Prop :=
 ifT t38 (
 retG (.bool false) h Ψ) (
 addOff l_2 0 fun p2 =>
 ld1 h p2 fun v5 =>
 tInt .i64 v5 fun v6 =>
 s72l4_E (s72l4 Ψ L1 L2) l_2 x1 y t7_2 t8_2 t18_1 t19_1 v6 0 h)

def s72l2 (Ψ : AVal → Heap → Prop) (L1 : s72l1_T) : Nat → s72l2_T
 | 0, _, _, _, _, _, _, _ => False
 | n1 + 1, l_1, x, t7_1, t8_1, t18, t19, h =>
 ifT (decide (t19 < t18)) (
 ifT (x != t19) (
 addOff l_1 1 fun p6 =>
 ld1 h p6 fun v16 =>
 callV prog v16 [(.int .i64 x), (.int .i64 t19)] h fun v17 h_4 =>
 tBool v17 fun v18 =>
 ifT v18 (
 addOff l_1 1 fun p7 =>
 ld1 h_4 p7 fun v19 =>
 callV prog v19 [(.int .i64 t19), (.int .i64 x)] h_4 fun v20 h_5 =>
 tBool v20 fun v21 =>
 s72c3 Ψ L1 (s72l2_G (s72l2 Ψ L1 n1)) l_1 x t19 t7_1 t8_1 t18 t19 v21 h_5) (
 s72c3 Ψ L1 (s72l2_G (s72l2 Ψ L1 n1)) l_1 x t19 t7_1 t8_1 t18 t19 false h_4)) (
 s72c3 Ψ L1 (s72l2_G (s72l2 Ψ L1 n1)) l_1 x t19 t7_1 t8_1 t18 t19 false h)) (
 rg (t8_1 + 1) (
 L1 l_1 t7_1 (t8_1 + 1) h))

def s72l1 (Ψ : AVal → Heap → Prop) : Nat → s72l1_T
 | 0, _, _, _, _ => False
 | n + 1, l_, t7, t8, h =>
 ifT (decide (t8 < t7)) (
 addOff l_ 1 fun p =>
 ld1 h p fun v =>
 callV prog v [(.int .i64 t8), (.int .i64 t8)] h fun v1 h_ =>
 tBool v1 fun v2 =>
 ifT (!v2) (
 retG (.bool false) h_ Ψ) (
 addOff l_ 0 fun p1 =>
 ld1 h_ p1 fun v3 =>
 tInt .i64 v3 fun v4 =>
 s72l2_E (s72l2 Ψ (s72l1_G (s72l1 Ψ n))) l_ t8 t7 t8 v4 0 h_)) (
 retG (.bool true) h Ψ)

def s72 (Ψ : AVal → Heap → Prop) (l_n : Int) (l_leq : AVal) (h : Heap) : Prop :=
 s72l1_E (s72l1 Ψ) (.lptr [(.int .i64 l_n), l_leq]) l_n 0 h

def s72_A (Ψ : AVal → Heap → Prop) : Ann :=
 .seq (.reg [⟨none, [(0, true), (1, false)]⟩])
 (.seq (.seq (rA 3)
 (.block (loopK [1, 7, 8] s72l1_K (s72l1 Ψ) (fun L1 =>
 .seq (rA 1)
 (.seq (.cond (.leaf)
 (.leaf))
 (.seq (.block (.seq (rA 2)
 (.seq (.seq (rA 6)
 (.cond (.seq (rA 1)
 (.leaf))
 (.leaf)))
 (.seq (rA 3)
 (.block (loopK [1, 3, 7, 8, 18, 19] s72l2_K (s72l2 Ψ (LK s72l1_K L1)) (fun L2 =>
 .seq (rA 1)
 (.seq (.cond (.leaf)
 (.leaf))
 (.seq (.block (.seq (rA 2)
 (.seq (cutK [1, 3, 4, 7, 8, 18, 19, 38] s72c3_K (s72c3 Ψ (LK s72l1_K L1) (LK s72l2_K L2)) (.reg [⟨none, [(0, false), (1, false), (2, false), (3, false)]⟩, ⟨some (25, true), [(4, false), (5, false), (6, false), (7, false), (8, false)]⟩, ⟨none, [(9, false), (10, false)]⟩, ⟨some (32, true), [(11, false), (12, false), (13, false), (14, false), (15, false)]⟩, ⟨none, [(16, false)]⟩])
 (.cond (.seq (rA 1)
 (.leaf))
 (.leaf)))
 (.seq (rA 3)
 (.block (loopK [1, 3, 4, 7, 8, 18, 19, 40, 41] s72l4_K (s72l4 Ψ (LK s72l1_K L1) (LK s72l2_K L2)) (fun L4 =>
 .seq (rA 1)
 (.seq (.cond (.leaf)
 (.leaf))
 (.seq (.block (.seq (rA 2)
 (cutK [1, 3, 4, 7, 8, 18, 19, 40, 41, 63] s72c5_K (s72c5 Ψ (LK s72l1_K L1) (LK s72l2_K L2) (LK s72l4_K L4)) (.reg [⟨none, [(0, false), (1, false), (2, false), (3, false), (4, false), (5, false)]⟩, ⟨some (49, true), [(6, false), (7, false), (8, false), (9, false), (10, false)]⟩, ⟨none, [(11, false), (12, false)]⟩, ⟨some (56, true), [(13, false), (14, false), (15, false), (16, false), (17, false), (18, false)]⟩, ⟨none, [(19, false)]⟩])
 (.cond (.seq (rA 1)
 (.leaf))
 (.leaf)))))
 (rA 2))))))))))
 (rA 2))))))))))
 (rA 2)))))))
 (.seq (rA 1)
 (.leaf)))

theorem s72_ok {Ψ : AVal → Heap → Prop} {l_n : Int} {l_leq : AVal} {h : Heap} (H : s72 Ψ l_n l_leq h) : ACalls prog 72 [(.agg [(.int .i64 l_n), l_leq])] h Ψ :=
 calls_of_evF func72 (by kernel_rfl) (by kernel_rfl) (by kernel_rfl)
 (Eq.mpr (by as_aux_lemma => kernel_rfl : oblF prog f72 (s72_A Ψ) Ψ = ((True) ∧ (((True) ∧ ((NK s72l1_K (s72l1 Ψ 0)) ∧ (∀ n1 : Nat, (QK s72l1_K (s72l1 Ψ (n1 + 1))) ∧ ((True) ∧ ((otP 1) ∧ (((True) ∧ ((otP 13) ∧ ((True) ∧ ((NK s72l2_K (s72l2 Ψ (s72l1_G (s72l1 Ψ n1)) 0)) ∧ (∀ n2 : Nat, (QK s72l2_K (s72l2 Ψ (s72l1_G (s72l1 Ψ n1)) (n2 + 1))) ∧ ((True) ∧ ((otP 1) ∧ (((True) ∧ (((True) ∧ ((QK s72c3_K (s72c3 Ψ (s72l1_G (s72l1 Ψ n1)) (s72l2_G (s72l2 Ψ (s72l1_G (s72l1 Ψ n1)) n2)))) ∧ (otP 3))) ∧ ((True) ∧ ((NK s72l4_K (s72l4 Ψ (s72l1_G (s72l1 Ψ n1)) (s72l2_G (s72l2 Ψ (s72l1_G (s72l1 Ψ n1)) n2)) 0)) ∧ (∀ n4 : Nat, (QK s72l4_K (s72l4 Ψ (s72l1_G (s72l1 Ψ n1)) (s72l2_G (s72l2 Ψ (s72l1_G (s72l1 Ψ n1)) n2)) (n4 + 1))) ∧ ((True) ∧ ((otP 1) ∧ (((True) ∧ ((True) ∧ ((QK s72c5_K (s72c5 Ψ (s72l1_G (s72l1 Ψ n1)) (s72l2_G (s72l2 Ψ (s72l1_G (s72l1 Ψ n1)) n2)) (s72l4_G (s72l4 Ψ (s72l1_G (s72l1 Ψ n1)) (s72l2_G (s72l2 Ψ (s72l1_G (s72l1 Ψ n1)) n2)) n4)))) ∧ (otP 3)))) ∧ (True))))))))) ∧ (True))))))))) ∧ (True))))))) ∧ (otP 1)))) (⟨trivial, ⟨⟨trivial, ⟨fun _ _ _ _ H => H, fun _ => ⟨oI, ⟨trivial, ⟨otP_ok 1, ⟨⟨trivial, ⟨otP_ok 13, ⟨trivial, ⟨fun _ _ _ _ _ _ _ H => H, fun _ => ⟨oI, ⟨trivial, ⟨otP_ok 1, ⟨⟨trivial, ⟨⟨trivial, ⟨oI, otP_ok 3⟩⟩, ⟨trivial, ⟨fun _ _ _ _ _ _ _ _ _ _ H => H, fun _ => ⟨oI, ⟨trivial, ⟨otP_ok 1, ⟨⟨trivial, ⟨trivial, ⟨oI, otP_ok 3⟩⟩⟩, trivial⟩⟩⟩⟩⟩⟩⟩⟩, trivial⟩⟩⟩⟩⟩⟩⟩⟩, trivial⟩⟩⟩⟩⟩⟩, otP_ok 1⟩⟩))
 (Eq.mpr (by as_aux_lemma => kernel_rfl : evF prog f72 (s72_A Ψ) Ψ [(.agg [(.int .i64 l_n), l_leq])] h = s72 Ψ l_n l_leq h) H)

/- 74 (dictum/heyting.lattice).bounds$1 -/
def s74 (Ψ : AVal → Heap → Prop) (a0 : Int) (h : Heap) : Prop :=
 retG (.bool true) h Ψ

def s74_A (Ψ : AVal → Heap → Prop) : Ann :=
 .seq (rA 1)
 (.seq (rA 1)
 (.leaf))

theorem s74_ok {Ψ : AVal → Heap → Prop} {a0 : Int} {h : Heap} (H : s74 Ψ a0 h) : ACalls prog 74 [(.int .i64 a0)] h Ψ :=
 calls_of_evF func74 (by kernel_rfl) (by kernel_rfl) (by kernel_rfl)
 (Eq.mpr (by as_aux_lemma => kernel_rfl : oblF prog f74 (s74_A Ψ) Ψ = (otP 5)) (otP_ok 5))
 (Eq.mpr (by as_aux_lemma => kernel_rfl : evF prog f74 (s74_A Ψ) Ψ [(.int .i64 a0)] h = s74 Ψ a0 h) H)

/- 76 (dictum/heyting.lattice).down -/
def s76 (Ψ : AVal → Heap → Prop) (l_n : Int) (l_leq : AVal) (z : Int) (w : Int) (h : Heap) : Prop :=
 callV prog l_leq [(.int .i64 z), (.int .i64 w)] h fun v h_ =>
 tBool v fun v1 =>
 retG (.bool v1) h_ Ψ

def s76_A (Ψ : AVal → Heap → Prop) : Ann :=
 .seq (.reg [⟨none, [(0, true), (1, false)]⟩])
 (.seq (rA 6)
 (.leaf))

theorem s76_ok {Ψ : AVal → Heap → Prop} {l_n : Int} {l_leq : AVal} {z : Int} {w : Int} {h : Heap} (H : s76 Ψ l_n l_leq z w h) : ACalls prog 76 [(.agg [(.int .i64 l_n), l_leq]), (.int .i64 z), (.int .i64 w)] h Ψ :=
 calls_of_evF func76 (by kernel_rfl) (by kernel_rfl) (by kernel_rfl)
 (Eq.mpr (by as_aux_lemma => kernel_rfl : oblF prog f76 (s76_A Ψ) Ψ = (otP 5)) (otP_ok 5))
 (Eq.mpr (by as_aux_lemma => kernel_rfl : evF prog f76 (s76_A Ψ) Ψ [(.agg [(.int .i64 l_n), l_leq]), (.int .i64 z), (.int .i64 w)] h = s76 Ψ l_n l_leq z w h) H)

/- 78 (dictum/heyting.lattice).join$1 -/
def s78 (Ψ : AVal → Heap → Prop) (z : Int) (c0 : AVal) (c1 : AVal) (c2 : AVal) (h : Heap) : Prop :=
 addOff c0 1 fun p =>
 ld1 h p fun v =>
 ld1 h c1 fun v1 =>
 tInt .i64 v1 fun v2 =>
 callV prog v [(.int .i64 v2), (.int .i64 z)] h fun v3 h_ =>
 tBool v3 fun v4 =>
 ifT v4 (
 addOff c0 1 fun p1 =>
 ld1 h_ p1 fun v5 =>
 ld1 h_ c2 fun v6 =>
 tInt .i64 v6 fun v7 =>
 callV prog v5 [(.int .i64 v7), (.int .i64 z)] h_ fun v8 h_1 =>
 tBool v8 fun v9 =>
 retG (.bool v9) h_1 Ψ) (
 retG (.bool false) h_ Ψ)

def s78_A (Ψ : AVal → Heap → Prop) : Ann :=
 .seq (rA 1)
 (.seq (.reg [⟨none, [(0, false), (1, false), (2, false), (3, false), (4, false), (5, false)]⟩, ⟨some (11, true), [(6, false), (7, false), (8, false), (9, false), (10, false)]⟩, ⟨none, [(11, false), (12, false)]⟩])
 (.leaf))

theorem s78_ok {Ψ : AVal → Heap → Prop} {z : Int} {c0 : AVal} {c1 : AVal} {c2 : AVal} {h : Heap} (H : s78 Ψ z c0 c1 c2 h) : ACalls prog 78 [(.int .i64 z), c0, c1, c2] h Ψ :=
 calls_of_evF func78 (by kernel_rfl) (by kernel_rfl) (by kernel_rfl)
 (Eq.mpr (by as_aux_lemma => kernel_rfl : oblF prog f78 (s78_A Ψ) Ψ = (otP 5)) (otP_ok 5))
 (Eq.mpr (by as_aux_lemma => kernel_rfl : evF prog f78 (s78_A Ψ) Ψ [(.int .i64 z), c0, c1, c2] h = s78 Ψ z c0 c1 c2 h) H)

/- 80 dictum/worlds.all -/
abbrev s80l1_T := AVal → AVal → Int → Int → Heap → Prop
abbrev s80l1_K : List Kd := [.any, .any, .int .i64, .int .i64]
def s80l1_G (F : s80l1_T) : s80l1_T := GK s80l1_K F
def s80l1_E (F : Nat → s80l1_T) : s80l1_T := EK s80l1_K F
theorem s80l1_go {F : s80l1_T} {x0 x1 : AVal} {x2 x3 : Int} {h : Heap} (H : F x0 x1 x2 x3 h) : s80l1_G F x0 x1 x2 x3 h := gJ_plain rfl H
theorem s80l1_in {F : Nat → s80l1_T} {x0 x1 : AVal} {x2 x3 : Int} {h : Heap} (n : Nat) (H : F n x0 x1 x2 x3 h) : s80l1_E F x0 x1 x2 x3 h := gJ_plain rfl ⟨n, H⟩

abbrev s80c2_K : List Kd := [.any, .any, .int .i64, .int .i64]
def s80c2 (Ψ : AVal → Heap → Prop) (L1 : s80l1_T) (is2 l_1 : AVal) (t9_1 t10_1 : Int) (h : Heap) : Prop :=
 rg (t10_1 + 1) (
 L1 is2 l_1 t9_1 (t10_1 + 1) h)

def s80l1 (Ψ : AVal → Heap → Prop) : Nat → s80l1_T
 | 0, _, _, _, _, _ => False
 | n1 + 1, is1, l_, t9, t10, h =>
 ifT (decide (t10 < t9)) (
 callV prog is1 [(.int .i64 t10)] h fun v h_ =>
 tBool v fun v1 =>
 ifT v1 (
 appC 1 8 h_ l_ (.lsl 1 [(.int .i64 t10)]) fun v2 h_1 =>
 s80c2 Ψ (s80l1_G (s80l1 Ψ n1)) is1 v2 t9 t10 h_1) (
 s80c2 Ψ (s80l1_G (s80l1 Ψ n1)) is1 l_ t9 t10 h_)) (
 retG l_ h Ψ)

def s80 (Ψ : AVal → Heap → Prop) (m_Up : AVal) (m_Val : AVal) (is : AVal) (h : Heap) : Prop :=
 lenN m_Up fun n =>
 s80l1_E (s80l1 Ψ) is .nilsl n 0 h

def s80_A (Ψ : AVal → Heap → Prop) : Ann :=
 .seq (.reg [⟨none, [(0, true), (1, false)]⟩])
 (.seq (rA 1)
 (.seq (.seq (rA 4)
 (.block (loopK [1, 5, 9, 10] s80l1_K (s80l1 Ψ) (fun L1 =>
 .seq (rA 1)
 (.seq (.cond (.leaf)
 (.leaf))
 (cutK [1, 5, 9, 10] s80c2_K (s80c2 Ψ (LK s80l1_K L1)) (.block (.seq (rA 2)
 (.seq (rA 3)
 (.cond (.reg [⟨none, [(0, false), (1, false), (2, true), (3, false), (4, false)]⟩])
 (.leaf)))))
 (rA 2)))))))
 (.seq (rA 2)
 (.leaf))))

theorem s80_ok {Ψ : AVal → Heap → Prop} {m_Up : AVal} {m_Val : AVal} {is : AVal} {h : Heap} (H : s80 Ψ m_Up m_Val is h) : ACalls prog 80 [(.agg [m_Up, m_Val]), is] h Ψ :=
 calls_of_evF func80 (by kernel_rfl) (by kernel_rfl) (by kernel_rfl)
 (Eq.mpr (by as_aux_lemma => kernel_rfl : oblF prog f80 (s80_A Ψ) Ψ = ((True) ∧ ((True) ∧ (((True) ∧ ((NK s80l1_K (s80l1 Ψ 0)) ∧ (∀ n1 : Nat, (QK s80l1_K (s80l1 Ψ (n1 + 1))) ∧ ((True) ∧ ((otP 1) ∧ ((otP 21) ∧ ((QK s80c2_K (s80c2 Ψ (s80l1_G (s80l1 Ψ n1)))) ∧ (True)))))))) ∧ (otP 1))))) (⟨trivial, ⟨trivial, ⟨⟨trivial, ⟨fun _ _ _ _ _ H => H, fun _ => ⟨oI, ⟨trivial, ⟨otP_ok 1, ⟨otP_ok 21, ⟨oI, trivial⟩⟩⟩⟩⟩⟩⟩, otP_ok 1⟩⟩⟩))
 (Eq.mpr (by as_aux_lemma => kernel_rfl : evF prog f80 (s80_A Ψ) Ψ [(.agg [m_Up, m_Val]), is] h = s80 Ψ m_Up m_Val is h) H)

/- 82 dictum/worlds.Tidy$2 -/
def s82 (Ψ : AVal → Heap → Prop) (b : Int) (c0 : AVal) (c1 : AVal) (h : Heap) : Prop :=
 ld1 h c0 fun v =>
 callG prog 83 [v, (.func (.func 84) [] [(.lptr [(.int .i64 b)]), c1])] h fun v1 h_ =>
 tBool v1 fun v2 =>
 retG (.bool (!v2)) h_ Ψ

def s82_A (Ψ : AVal → Heap → Prop) : Ann :=
 .seq (.reg [⟨none, [(0, true), (1, false)]⟩])
 (.seq (rA 5)
 (.leaf))

theorem s82_ok {Ψ : AVal → Heap → Prop} {b : Int} {c0 : AVal} {c1 : AVal} {h : Heap} (H : s82 Ψ b c0 c1 h) : ACalls prog 82 [(.int .i64 b), c0, c1] h Ψ :=
 calls_of_evF func82 (by kernel_rfl) (by kernel_rfl) (by kernel_rfl)
 (Eq.mpr (by as_aux_lemma => kernel_rfl : oblF prog f82 (s82_A Ψ) Ψ = (otP 5)) (otP_ok 5))
 (Eq.mpr (by as_aux_lemma => kernel_rfl : evF prog f82 (s82_A Ψ) Ψ [(.int .i64 b), c0, c1] h = s82 Ψ b c0 c1 h) H)

/- 84 dictum/worlds.Tidy$2$1 -/
def s84 (Ψ : AVal → Heap → Prop) (c : Int) (c0 : AVal) (c1 : AVal) (h : Heap) : Prop :=
 ld1 h c0 fun v =>
 tInt .i64 v fun v1 =>
 ifT (c != v1) (
 ld1 h c1 fun v2 =>
 ld1 h c0 fun v3 =>
 tInt .i64 v3 fun v4 =>
 callV prog v2 [(.int .i64 c), (.int .i64 v4)] h fun v5 h_ =>
 tBool v5 fun v6 =>
 retG (.bool v6) h_ Ψ) (
 retG (.bool false) h Ψ)

def s84_A (Ψ : AVal → Heap → Prop) : Ann :=
 .seq (rA 1)
 (.seq (.reg [⟨none, [(0, false), (1, false), (2, false), (3, false)]⟩, ⟨some (8, true), [(4, false), (5, false), (6, false), (7, false)]⟩, ⟨none, [(8, false), (9, false)]⟩])
 (.leaf))

theorem s84_ok {Ψ : AVal → Heap → Prop} {c : Int} {c0 : AVal} {c1 : AVal} {h : Heap} (H : s84 Ψ c c0 c1 h) : ACalls prog 84 [(.int .i64 c), c0, c1] h Ψ :=
 calls_of_evF func84 (by kernel_rfl) (by kernel_rfl) (by kernel_rfl)
 (Eq.mpr (by as_aux_lemma => kernel_rfl : oblF prog f84 (s84_A Ψ) Ψ = (otP 5)) (otP_ok 5))
 (Eq.mpr (by as_aux_lemma => kernel_rfl : evF prog f84 (s84_A Ψ) Ψ [(.int .i64 c), c0, c1] h = s84 Ψ c c0 c1 h) H)

/- 86 dictum/dictumref23.order -/
abbrev s86l2_T := AVal → Int → Int → Heap → Prop
abbrev s86l2_K : List Kd := [.any, .int .i64, .int .i64]
def s86l2_G (F : s86l2_T) : s86l2_T := GK s86l2_K F
def s86l2_E (F : Nat → s86l2_T) : s86l2_T := EK s86l2_K F
theorem s86l2_go {F : s86l2_T} {x0 : AVal} {x1 x2 : Int} {h : Heap} (H : F x0 x1 x2 h) : s86l2_G F x0 x1 x2 h := gJ_plain rfl H
theorem s86l2_in {F : Nat → s86l2_T} {x0 : AVal} {x1 x2 : Int} {h : Heap} (n : Nat) (H : F n x0 x1 x2 h) : s86l2_E F x0 x1 x2 h := gJ_plain rfl ⟨n, H⟩

abbrev s86l3_T := AVal → Int → Int → Heap → Prop
abbrev s86l3_K : List Kd := [.any, .int .i64, .int .i64]
def s86l3_G (F : s86l3_T) : s86l3_T := GK s86l3_K F
def s86l3_E (F : Nat → s86l3_T) : s86l3_T := EK s86l3_K F
theorem s86l3_go {F : s86l3_T} {x0 : AVal} {x1 x2 : Int} {h : Heap} (H : F x0 x1 x2 h) : s86l3_G F x0 x1 x2 h := gJ_plain rfl H
theorem s86l3_in {F : Nat → s86l3_T} {x0 : AVal} {x1 x2 : Int} {h : Heap} (n : Nat) (H : F n x0 x1 x2 h) : s86l3_E F x0 x1 x2 h := gJ_plain rfl ⟨n, H⟩

abbrev s86l4_T := AVal → Int → Int → Int → Heap → Prop
abbrev s86l4_K : List Kd := [.any, .int .i64, .int .i64, .int .i64]
def s86l4_G (F : s86l4_T) : s86l4_T := GK s86l4_K F
def s86l4_E (F : Nat → s86l4_T) : s86l4_T := EK s86l4_K F
theorem s86l4_go {F : s86l4_T} {x0 : AVal} {x1 x2 x3 : Int} {h : Heap} (H : F x0 x1 x2 x3 h) : s86l4_G F x0 x1 x2 x3 h := gJ_plain rfl H
theorem s86l4_in {F : Nat → s86l4_T} {x0 : AVal} {x1 x2 x3 : Int} {h : Heap} (n : Nat) (H : F n x0 x1 x2 x3 h) : s86l4_E F x0 x1 x2 x3 h := gJ_plain rfl ⟨n, H⟩

abbrev s86l6_T := AVal → Int → Int → Int → Int → Heap → Prop
abbrev s86l6_K : List Kd := [.any, .int .i64, .int .i64, .int .i64, .int .i64]
def s86l6_G (F : s86l6_T) : s86l6_T := GK s86l6_K F
def s86l6_E (F : Nat → s86l6_T) : s86l6_T := EK s86l6_K F
theorem s86l6_go {F : s86l6_T} {x0 : AVal} {x1 x2 x3 x4 : Int} {h : Heap} (H : F x0 x1 x2 x3 x4 h) : s86l6_G F x0 x1 x2 x3 x4 h := gJ_plain rfl H
theorem s86l6_in {F : Nat → s86l6_T} {x0 : AVal} {x1 x2 x3 x4 : Int} {h : Heap} (n : Nat) (H : F n x0 x1 x2 x3 x4 h) : s86l6_E F x0 x1 x2 x3 x4 h := gJ_plain rfl ⟨n, H⟩

abbrev s86c7_K : List Kd := [.any, .int .i64, .int .i64, .int .i64, .int .i64, .bool]
def s86c7 (Ψ : AVal → Heap → Prop) (L3 : s86l3_T) (L4 : s86l4_T) (L6 : s86l6_T) (l_7 : AVal) (n12 x5 y3 z1 : Int) (t104 : Bool) (h : Heap) : Prop :=
 ifT t104 (
 retG (.bool false) h Ψ) (
 rg (z1 + 1) (
 L6 l_7 n12 x5 y3 (z1 + 1) h))

def s86l6 (Ψ : AVal → Heap → Prop) (L3 : s86l3_T) (L4 : s86l4_T) : Nat → s86l6_T
 | 0, _, _, _, _, _, _ => False
 | n11 + 1, l_6, n10, x4, y2, z, h =>
 ifT (decide (z < n10)) (
 ixS 1 l_6 x4 fun p1 =>
 ld1 h p1 fun v1 =>
 ixS 1 v1 y2 fun p2 =>
 ld1 h p2 fun v2 =>
 tBool v2 fun v3 =>
 ifT v3 (
 ixS 1 l_6 y2 fun p3 =>
 ld1 h p3 fun v4 =>
 ixS 1 v4 z fun p4 =>
 ld1 h p4 fun v5 =>
 tBool v5 fun v6 =>
 ifT v6 (
 ixS 1 l_6 x4 fun p5 =>
 ld1 h p5 fun v7 =>
 ixS 1 v7 z fun p6 =>
 ld1 h p6 fun v8 =>
 tBool v8 fun v9 =>
 s86c7 Ψ L3 L4 (s86l6_G (s86l6 Ψ L3 L4 n11)) l_6 n10 x4 y2 z (!v9) h) (
 s86c7 Ψ L3 L4 (s86l6_G (s86l6 Ψ L3 L4 n11)) l_6 n10 x4 y2 z false h)) (
 s86c7 Ψ L3 L4 (s86l6_G (s86l6 Ψ L3 L4 n11)) l_6 n10 x4 y2 z false h)) (
 rg (y2 + 1) (
 L4 l_6 n10 x4 (y2 + 1) h))

abbrev s86c5_K : List Kd := [.any, .int .i64, .int .i64, .int .i64, .bool]
def s86c5 (Ψ : AVal → Heap → Prop) (L3 : s86l3_T) (L4 : s86l4_T) (l_5 : AVal) (n9 x3 y1 : Int) (t73 : Bool) (h : Heap) : Prop :=
 ifT t73 (
 retG (.bool false) h Ψ) (
 s86l6_E (s86l6 Ψ L3 L4) l_5 n9 x3 y1 0 h)

def s86l4 (Ψ : AVal → Heap → Prop) (L3 : s86l3_T) : Nat → s86l4_T
 | 0, _, _, _, _, _ => False
 | n8 + 1, l_4, n7, x2, y, h =>
 ifT (decide (y < n7)) (
 ifT (x2 == y) (
 ixS 1 l_4 x2 fun p7 =>
 ld1 h p7 fun v10 =>
 ixS 1 v10 x2 fun p8 =>
 ld1 h p8 fun v11 =>
 tBool v11 fun v12 =>
 ifT (!v12) (
 s86c5 Ψ L3 (s86l4_G (s86l4 Ψ L3 n8)) l_4 n7 x2 y true h) (
 ifT (x2 != y) (
 ixS 1 l_4 x2 fun p9 =>
 ld1 h p9 fun v13 =>
 ixS 1 v13 y fun p10 =>
 ld1 h p10 fun v14 =>
 tBool v14 fun v15 =>
 ifT v15 (
 ixS 1 l_4 y fun p11 =>
 ld1 h p11 fun v16 =>
 ixS 1 v16 x2 fun p12 =>
 ld1 h p12 fun v17 =>
 tBool v17 fun v18 =>
 s86c5 Ψ L3 (s86l4_G (s86l4 Ψ L3 n8)) l_4 n7 x2 y v18 h) (
 s86c5 Ψ L3 (s86l4_G (s86l4 Ψ L3 n8)) l_4 n7 x2 y false h)) (
 s86c5 Ψ L3 (s86l4_G (s86l4 Ψ L3 n8)) l_4 n7 x2 y false h))) (
 ifT (x2 != y) (
 ixS 1 l_4 x2 fun p13 =>
 ld1 h p13 fun v19 =>
 ixS 1 v19 y fun p14 =>
 ld1 h p14 fun v20 =>
 tBool v20 fun v21 =>
 ifT v21 (
 ixS 1 l_4 y fun p15 =>
 ld1 h p15 fun v22 =>
 ixS 1 v22 x2 fun p16 =>
 ld1 h p16 fun v23 =>
 tBool v23 fun v24 =>
 s86c5 Ψ L3 (s86l4_G (s86l4 Ψ L3 n8)) l_4 n7 x2 y v24 h) (
 s86c5 Ψ L3 (s86l4_G (s86l4 Ψ L3 n8)) l_4 n7 x2 y false h)) (
 s86c5 Ψ L3 (s86l4_G (s86l4 Ψ L3 n8)) l_4 n7 x2 y false h))) (
 rg (x2 + 1) (
 L3 l_4 n7 (x2 + 1) h))

def s86l3 (Ψ : AVal → Heap → Prop) : Nat → s86l3_T
 | 0, _, _, _, _ => False
 | n6 + 1, l_3, n5, x1, h =>
 ifT (decide (x1 < n5)) (
 s86l4_E (s86l4 Ψ (s86l3_G (s86l3 Ψ n6))) l_3 n5 x1 0 h) (
 retG (.bool true) h Ψ)

def s86l2 (Ψ : AVal → Heap → Prop) : Nat → s86l2_T
 | 0, _, _, _, _ => False
 | n3 + 1, l_2, n2, x, h =>
 ifT (decide (x < n2)) (
 ixS 1 l_2 x fun p =>
 ld1 h p fun v =>
 lenN v fun n4 =>
 ifT (n4 != n2) (
 retG (.bool false) h Ψ) (
 rg (x + 1) (
 s86l2_G (s86l2 Ψ n3) l_2 n2 (x + 1) h))) (
 s86l3_E (s86l3 Ψ) l_2 n2 0 h)

abbrev s86c1_K : List Kd := [.any, .int .i64, .bool]
def s86c1 (Ψ : AVal → Heap → Prop) (l_1 : AVal) (n1 : Int) (t15 : Bool) (h : Heap) : Prop :=
 ifT t15 (
 retG (.bool false) h Ψ) (
 s86l2_E (s86l2 Ψ) l_1 n1 0 h)

def s86 (Ψ : AVal → Heap → Prop) (l_ : AVal) (h : Heap) : Prop :=
 lenN l_ fun n =>
 ifT (decide (n < 1)) (
 s86c1 Ψ l_ n true h) (
 s86c1 Ψ l_ n (decide (64 < n)) h)

def s86_A (Ψ : AVal → Heap → Prop) : Ann :=
 .seq (rA 1)
 (.seq (rA 3)
 (.seq (cutK [0, 3, 15] s86c1_K (s86c1 Ψ) (.reg [⟨none, [(0, false), (1, false), (2, false)]⟩, ⟨some (12, false), [(3, false), (4, false)]⟩, ⟨none, [(5, false)]⟩])
 (.cond (.seq (rA 1)
 (.leaf))
 (.leaf)))
 (.seq (.seq (rA 1)
 (.block (loopK [0, 3, 4] s86l2_K (s86l2 Ψ) (fun L2 =>
 .seq (.seq (rA 3)
 (.cond (.leaf)
 (.leaf)))
 (.seq (.block (.seq (rA 7)
 (.cond (.seq (rA 1)
 (.leaf))
 (.leaf))))
 (rA 3))))))
 (.seq (.seq (rA 1)
 (.block (loopK [0, 3, 5] s86l3_K (s86l3 Ψ) (fun L3 =>
 .seq (.seq (rA 3)
 (.cond (.leaf)
 (.leaf)))
 (.seq (.block (.seq (rA 1)
 (.block (loopK [0, 3, 5, 6] s86l4_K (s86l4 Ψ (LK s86l3_K L3)) (fun L4 =>
 .seq (.seq (rA 3)
 (.cond (.leaf)
 (.leaf)))
 (.seq (.block (.seq (cutK [0, 3, 5, 6, 73] s86c5_K (s86c5 Ψ (LK s86l3_K L3) (LK s86l4_K L4)) (.reg [⟨none, [(0, false), (1, false), (2, false), (3, false)]⟩, ⟨some (41, true), [(4, false), (5, false), (6, false), (7, false), (8, false), (9, false), (10, false), (11, false)]⟩, ⟨none, [(12, false), (13, false)]⟩, ⟨some (51, false), [(14, false), (15, false), (16, false), (17, false)]⟩, ⟨some (55, true), [(18, false), (19, false), (20, false), (21, false), (22, false), (23, false), (24, false)]⟩, ⟨some (51, false), [(25, false), (26, false)]⟩, ⟨some (64, true), [(27, false), (28, false), (29, false), (30, false), (31, false), (32, false), (33, false)]⟩, ⟨some (51, false), [(34, false)]⟩, ⟨none, [(35, false)]⟩])
 (.cond (.seq (rA 1)
 (.leaf))
 (.leaf)))
 (.seq (rA 1)
 (.block (loopK [0, 3, 5, 6, 7] s86l6_K (s86l6 Ψ (LK s86l3_K L3) (LK s86l4_K L4)) (fun L6 =>
 .seq (.seq (rA 3)
 (.cond (.leaf)
 (.leaf)))
 (.seq (.block (cutK [0, 3, 5, 6, 7, 104] s86c7_K (s86c7 Ψ (LK s86l3_K L3) (LK s86l4_K L4) (LK s86l6_K L6)) (.reg [⟨none, [(0, false), (1, false), (2, false), (3, false), (4, false), (5, false), (6, false), (7, false)]⟩, ⟨some (86, true), [(8, false), (9, false), (10, false), (11, false), (12, false), (13, false), (14, false)]⟩, ⟨none, [(15, false), (16, false)]⟩, ⟨some (95, true), [(17, false), (18, false), (19, false), (20, false), (21, false), (22, false), (23, false), (24, false)]⟩, ⟨none, [(25, false)]⟩])
 (.cond (.seq (rA 1)
 (.leaf))
 (.leaf))))
 (rA 3))))))))
 (rA 3)))))))
 (rA 3))))))
 (.seq (rA 1)
 (.leaf))))))

theorem s86_ok {Ψ : AVal → Heap → Prop} {l_ : AVal} {h : Heap} (H : s86 Ψ l_ h) : ACalls prog 86 [l_] h Ψ :=
 calls_of_evF func86 (by kernel_rfl) (by kernel_rfl) (by kernel_rfl)
 (Eq.mpr (by as_aux_lemma => kernel_rfl : oblF prog f86 (s86_A Ψ) Ψ = ((True) ∧ ((True) ∧ (((True) ∧ ((QK s86c1_K (s86c1 Ψ)) ∧ (otP 3))) ∧ (((True) ∧ ((NK s86l2_K (s86l2 Ψ 0)) ∧ (∀ n2 : Nat, (QK s86l2_K (s86l2 Ψ (n2 + 1))) ∧ (otP 1739)))) ∧ (((True) ∧ ((NK s86l3_K (s86l3 Ψ 0)) ∧ (∀ n3 : Nat, (QK s86l3_K (s86l3 Ψ (n3 + 1))) ∧ ((otP 5) ∧ (((True) ∧ ((NK s86l4_K (s86l4 Ψ (s86l3_G (s86l3 Ψ n3)) 0)) ∧ (∀ n4 : Nat, (QK s86l4_K (s86l4 Ψ (s86l3_G (s86l3 Ψ n3)) (n4 + 1))) ∧ ((otP 5) ∧ ((((True) ∧ ((QK s86c5_K (s86c5 Ψ (s86l3_G (s86l3 Ψ n3)) (s86l4_G (s86l4 Ψ (s86l3_G (s86l3 Ψ n3)) n4)))) ∧ (otP 3))) ∧ ((True) ∧ ((NK s86l6_K (s86l6 Ψ (s86l3_G (s86l3 Ψ n3)) (s86l4_G (s86l4 Ψ (s86l3_G (s86l3 Ψ n3)) n4)) 0)) ∧ (∀ n6 : Nat, (QK s86l6_K (s86l6 Ψ (s86l3_G (s86l3 Ψ n3)) (s86l4_G (s86l4 Ψ (s86l3_G (s86l3 Ψ n3)) n4)) (n6 + 1))) ∧ ((otP 5) ∧ (((True) ∧ ((QK s86c7_K (s86c7 Ψ (s86l3_G (s86l3 Ψ n3)) (s86l4_G (s86l4 Ψ (s86l3_G (s86l3 Ψ n3)) n4)) (s86l6_G (s86l6 Ψ (s86l3_G (s86l3 Ψ n3)) (s86l4_G (s86l4 Ψ (s86l3_G (s86l3 Ψ n3)) n4)) n6)))) ∧ (otP 3))) ∧ (True))))))) ∧ (True)))))) ∧ (True)))))) ∧ (otP 1))))))) (⟨trivial, ⟨trivial, ⟨⟨trivial, ⟨oI, otP_ok 3⟩⟩, ⟨⟨trivial, ⟨fun _ _ _ _ H => H, fun _ => ⟨oI, otP_ok 1739⟩⟩⟩, ⟨⟨trivial, ⟨fun _ _ _ _ H => H, fun _ => ⟨oI, ⟨otP_ok 5, ⟨⟨trivial, ⟨fun _ _ _ _ _ H => H, fun _ => ⟨oI, ⟨otP_ok 5, ⟨⟨⟨trivial, ⟨oI, otP_ok 3⟩⟩, ⟨trivial, ⟨fun _ _ _ _ _ _ H => H, fun _ => ⟨oI, ⟨otP_ok 5, ⟨⟨trivial, ⟨oI, otP_ok 3⟩⟩, trivial⟩⟩⟩⟩⟩⟩, trivial⟩⟩⟩⟩⟩, trivial⟩⟩⟩⟩⟩, otP_ok 1⟩⟩⟩⟩⟩))
 (Eq.mpr (by as_aux_lemma => kernel_rfl : evF prog f86 (s86_A Ψ) Ψ [l_] h = s86 Ψ l_ h) H)

/- 95 (dictum/heyting.lattice).meet$1 -/
def s95 (Ψ : AVal → Heap → Prop) (z : Int) (c0 : AVal) (c1 : AVal) (c2 : AVal) (h : Heap) : Prop :=
 addOff c0 1 fun p =>
 ld1 h p fun v =>
 ld1 h c1 fun v1 =>
 tInt .i64 v1 fun v2 =>
 callV prog v [(.int .i64 z), (.int .i64 v2)] h fun v3 h_ =>
 tBool v3 fun v4 =>
 ifT v4 (
 addOff c0 1 fun p1 =>
 ld1 h_ p1 fun v5 =>
 ld1 h_ c2 fun v6 =>
 tInt .i64 v6 fun v7 =>
 callV prog v5 [(.int .i64 z), (.int .i64 v7)] h_ fun v8 h_1 =>
 tBool v8 fun v9 =>
 retG (.bool v9) h_1 Ψ) (
 retG (.bool false) h_ Ψ)

def s95_A (Ψ : AVal → Heap → Prop) : Ann :=
 .seq (rA 1)
 (.seq (.reg [⟨none, [(0, false), (1, false), (2, false), (3, false), (4, false), (5, false)]⟩, ⟨some (11, true), [(6, false), (7, false), (8, false), (9, false), (10, false)]⟩, ⟨none, [(11, false), (12, false)]⟩])
 (.leaf))

theorem s95_ok {Ψ : AVal → Heap → Prop} {z : Int} {c0 : AVal} {c1 : AVal} {c2 : AVal} {h : Heap} (H : s95 Ψ z c0 c1 c2 h) : ACalls prog 95 [(.int .i64 z), c0, c1, c2] h Ψ :=
 calls_of_evF func95 (by kernel_rfl) (by kernel_rfl) (by kernel_rfl)
 (Eq.mpr (by as_aux_lemma => kernel_rfl : oblF prog f95 (s95_A Ψ) Ψ = (otP 5)) (otP_ok 5))
 (Eq.mpr (by as_aux_lemma => kernel_rfl : evF prog f95 (s95_A Ψ) Ψ [(.int .i64 z), c0, c1, c2] h = s95 Ψ z c0 c1 c2 h) H)

/- 99 slices.Contains[[]string,string] -/
def s99 (Ψ : AVal → Heap → Prop) (s : AVal) (v : ByteArray) (h : Heap) : Prop :=
 callG prog 122 [s, (.str v)] h fun v1 h_ =>
 tInt .i64 v1 fun v2 =>
 retG (.bool (decide (0 ≤ v2))) h_ Ψ

def s99_A (Ψ : AVal → Heap → Prop) : Ann :=
 .seq (rA 1)
 (.seq (rA 5)
 (.leaf))

theorem s99_ok {Ψ : AVal → Heap → Prop} {s : AVal} {v : ByteArray} {h : Heap} (H : s99 Ψ s v h) : ACalls prog 99 [s, (.str v)] h Ψ :=
 calls_of_evF func99 (by kernel_rfl) (by kernel_rfl) (by kernel_rfl)
 (Eq.mpr (by as_aux_lemma => kernel_rfl : oblF prog f99 (s99_A Ψ) Ψ = (otP 5)) (otP_ok 5))
 (Eq.mpr (by as_aux_lemma => kernel_rfl : evF prog f99 (s99_A Ψ) Ψ [s, (.str v)] h = s99 Ψ s v h) H)

/- 103 dictum/dictumref03.Word -/
abbrev s103l2_T := ByteArray → Int → Heap → Prop
abbrev s103l2_K : List Kd := [.str, .int .i64]
def s103l2_G (F : s103l2_T) : s103l2_T := GK s103l2_K F
def s103l2_E (F : Nat → s103l2_T) : s103l2_T := EK s103l2_K F
theorem s103l2_go {F : s103l2_T} {x0 : ByteArray} {x1 : Int} {h : Heap} (H : F x0 x1 h) : s103l2_G F x0 x1 h := gJ_plain rfl H
theorem s103l2_in {F : Nat → s103l2_T} {x0 : ByteArray} {x1 : Int} {h : Heap} (n : Nat) (H : F n x0 x1 h) : s103l2_E F x0 x1 h := gJ_plain rfl ⟨n, H⟩

abbrev s103c3_K : List Kd := [.str, .int .i64, .bool]
def s103c3 (Ψ : AVal → Heap → Prop) (L2 : s103l2_T) (s3 : ByteArray) (i1 : Int) (t55 : Bool) (h : Heap) : Prop :=
 ifT t55 (
 retG (.bool false) h Ψ) (
 rg (i1 + 1) (
 L2 s3 (i1 + 1) h))

abbrev s103l4_T := ByteArray → AVal → Int → Heap → Prop
abbrev s103l4_K : List Kd := [.str, .any, .int .i64]
def s103l4_G (F : s103l4_T) : s103l4_T := GK s103l4_K F
def s103l4_E (F : Nat → s103l4_T) : s103l4_T := EK s103l4_K F
theorem s103l4_go {F : s103l4_T} {x0 : ByteArray} {x1 : AVal} {x2 : Int} {h : Heap} (H : F x0 x1 x2 h) : s103l4_G F x0 x1 x2 h := gJ_plain rfl H
theorem s103l4_in {F : Nat → s103l4_T} {x0 : ByteArray} {x1 : AVal} {x2 : Int} {h : Heap} (n : Nat) (H : F n x0 x1 x2 h) : s103l4_E F x0 x1 x2 h := gJ_plain rfl ⟨n, H⟩

def s103l4 (Ψ : AVal → Heap → Prop) : Nat → s103l4_T
 | 0, _, _, _, _ => False
 | n1 + 1, s4, l_, i2, h =>
 lenN l_ fun n2 =>
 ifT (decide (i2 < n2)) (
 ixS 1 l_ i2 fun p =>
 ld1 h p fun v3 =>
 tStr v3 fun v4 =>
 ifT (strEq v4 s4) (
 retG (.bool false) h Ψ) (
 rg (i2 + 1) (
 s103l4_G (s103l4 Ψ n1) s4 l_ (i2 + 1) h))) (
 retG (.bool true) h Ψ)

def s103l2 (Ψ : AVal → Heap → Prop) : Nat → s103l2_T
 | 0, _, _, _ => False
 | n + 1, s2, i, h =>
 ifT (decide (i < (s2.size : Int))) (
 ((0 : Int) ≤ i ∧ i < (s2.size : Int)) ∧
 callG prog 131 [(.int .u8 (btA s2 i))] h fun v h_ =>
 tBool v fun v1 =>
 ifT (!v1) (
 ((0 : Int) ≤ i ∧ i < (s2.size : Int)) ∧
 ifT (decide (48 ≤ (btA s2 i))) (
 ((0 : Int) ≤ i ∧ i < (s2.size : Int)) ∧
 ifT (!(decide ((btA s2 i) ≤ 57))) (
 ((0 : Int) ≤ i ∧ i < (s2.size : Int)) ∧
 ifT ((btA s2 i) != 95) (
 ((0 : Int) ≤ i ∧ i < (s2.size : Int)) ∧
 s103c3 Ψ (s103l2_G (s103l2 Ψ n)) s2 i ((btA s2 i) != 39) h_) (
 s103c3 Ψ (s103l2_G (s103l2 Ψ n)) s2 i false h_)) (
 s103c3 Ψ (s103l2_G (s103l2 Ψ n)) s2 i false h_)) (
 ((0 : Int) ≤ i ∧ i < (s2.size : Int)) ∧
 ifT ((btA s2 i) != 95) (
 ((0 : Int) ≤ i ∧ i < (s2.size : Int)) ∧
 s103c3 Ψ (s103l2_G (s103l2 Ψ n)) s2 i ((btA s2 i) != 39) h_) (
 s103c3 Ψ (s103l2_G (s103l2 Ψ n)) s2 i false h_))) (
 s103c3 Ψ (s103l2_G (s103l2 Ψ n)) s2 i false h_)) (
 callG prog 132 [] h fun v2 h_1 =>
 s103l4_E (s103l4 Ψ) s2 v2 0 h_1)

abbrev s103c1_K : List Kd := [.str, .bool]
def s103c1 (Ψ : AVal → Heap → Prop) (s1 : ByteArray) (t19 : Bool) (h : Heap) : Prop :=
 ifT t19 (
 retG (.bool false) h Ψ) (
 s103l2_E (s103l2 Ψ) s1 1 h)

def s103 (Ψ : AVal → Heap → Prop) (s : ByteArray) (h : Heap) : Prop :=
 ifT (decide ((s.size : Int) < 1)) (
 s103c1 Ψ s true h) (
 ifT (decide (31 < (s.size : Int))) (
 s103c1 Ψ s true h) (
 ((0 : Int) ≤ 0 ∧ 0 < (s.size : Int)) ∧
 callG prog 131 [(.int .u8 (btA s 0))] h fun v5 h_2 =>
 tBool v5 fun v6 =>
 s103c1 Ψ s (!v6) h_2))

def s103_A (Ψ : AVal → Heap → Prop) : Ann :=
 .seq (rA 1)
 (.seq (cutK [0, 19] s103c1_K (s103c1 Ψ) (.reg [⟨none, [(0, false), (1, false), (2, false), (3, false)]⟩, ⟨some (9, false), [(4, false), (5, false), (6, false)]⟩, ⟨none, [(7, false), (8, false)]⟩, ⟨some (14, false), [(9, false), (10, false), (11, false), (12, false)]⟩, ⟨none, [(13, false)]⟩])
 (.cond (.seq (rA 1)
 (.leaf))
 (.leaf)))
 (.seq (.seq (rA 1)
 (.block (loopK [0, 3] s103l2_K (s103l2 Ψ) (fun L2 =>
 .seq (.seq (rA 4)
 (.cond (.leaf)
 (.leaf)))
 (.seq (.block (cutK [0, 3, 55] s103c3_K (s103c3 Ψ (LK s103l2_K L2)) (.reg [⟨none, [(0, false), (1, false), (2, false), (3, false), (4, false), (5, false)]⟩, ⟨some (31, true), [(6, false), (7, false), (8, false), (9, false), (10, false)]⟩, ⟨some (36, true), [(11, false), (12, false), (13, false), (14, false)]⟩, ⟨some (31, true), [(15, false), (16, false)]⟩, ⟨none, [(17, false), (18, false)]⟩, ⟨some (44, true), [(19, false), (20, false), (21, false), (22, false)]⟩, ⟨none, [(23, false), (24, false)]⟩, ⟨some (50, true), [(25, false), (26, false), (27, false), (28, false)]⟩, ⟨none, [(29, false)]⟩])
 (.cond (.seq (rA 1)
 (.leaf))
 (.leaf))))
 (rA 3))))))
 (.seq (rA 2)
 (.seq (.seq (rA 1)
 (.block (loopK [0, 4, 5] s103l4_K (s103l4 Ψ) (fun L4 =>
 .seq (.seq (rA 4)
 (.cond (.leaf)
 (.leaf)))
 (.seq (.block (.seq (rA 6)
 (.cond (.seq (rA 1)
 (.leaf))
 (.leaf))))
 (rA 3))))))
 (.seq (rA 1)
 (.leaf))))))

theorem s103_ok {Ψ : AVal → Heap → Prop} {s : ByteArray} {h : Heap} (H : s103 Ψ s h) : ACalls prog 103 [(.str s)] h Ψ :=
 calls_of_evF func103 (by kernel_rfl) (by kernel_rfl) (by kernel_rfl)
 (Eq.mpr (by as_aux_lemma => kernel_rfl : oblF prog f103 (s103_A Ψ) Ψ = ((True) ∧ (((True) ∧ ((QK s103c1_K (s103c1 Ψ)) ∧ (otP 3))) ∧ (((True) ∧ ((NK s103l2_K (s103l2 Ψ 0)) ∧ (∀ n2 : Nat, (QK s103l2_K (s103l2 Ψ (n2 + 1))) ∧ ((otP 5) ∧ (((True) ∧ ((QK s103c3_K (s103c3 Ψ (s103l2_G (s103l2 Ψ n2)))) ∧ (otP 3))) ∧ (True)))))) ∧ ((True) ∧ (((True) ∧ ((NK s103l4_K (s103l4 Ψ 0)) ∧ (∀ n4 : Nat, (QK s103l4_K (s103l4 Ψ (n4 + 1))) ∧ (otP 1739)))) ∧ (otP 1))))))) (⟨trivial, ⟨⟨trivial, ⟨oI, otP_ok 3⟩⟩, ⟨⟨trivial, ⟨fun _ _ _ H => H, fun _ => ⟨oI, ⟨otP_ok 5, ⟨⟨trivial, ⟨oI, otP_ok 3⟩⟩, trivial⟩⟩⟩⟩⟩, ⟨trivial, ⟨⟨trivial, ⟨fun _ _ _ _ H => H, fun _ => ⟨oI, otP_ok 1739⟩⟩⟩, otP_ok 1⟩⟩⟩⟩⟩))
 (Eq.mpr (by as_aux_lemma => kernel_rfl : evF prog f103 (s103_A Ψ) Ψ [(.str s)] h = s103 Ψ s h) H)

/- 114 math/bits.Len64 -/
abbrev s114c3_K : List Kd := [.int .u64, .int .i64]
def s114c3 (Ψ : AVal → Heap → Prop) (x3 n2 : Int) (h : Heap) : Prop :=
 ((0 : Int) ≤ (IntKind.u8.wrap x3) ∧ (IntKind.u8.wrap x3) < ((ByteArray.mk #[0, 1, 2, 2, 3, 3, 3, 3, 4, 4, 4, 4, 4, 4, 4, 4, 5, 5, 5, 5, 5, 5, 5, 5, 5, 5, 5, 5, 5, 5, 5, 5, 6, 6, 6, 6, 6, 6, 6, 6, 6, 6, 6, 6, 6, 6, 6, 6, 6, 6, 6, 6, 6, 6, 6, 6, 6, 6, 6, 6, 6, 6, 6, 6, 7, 7, 7, 7, 7, 7, 7, 7, 7, 7, 7, 7, 7, 7, 7, 7, 7, 7, 7, 7, 7, 7, 7, 7, 7, 7, 7, 7, 7, 7, 7, 7, 7, 7, 7, 7, 7, 7, 7, 7, 7, 7, 7, 7, 7, 7, 7, 7, 7, 7, 7, 7, 7, 7, 7, 7, 7, 7, 7, 7, 7, 7, 7, 7, 8, 8, 8, 8, 8, 8, 8, 8, 8, 8, 8, 8, 8, 8, 8, 8, 8, 8, 8, 8, 8, 8, 8, 8, 8, 8, 8, 8, 8, 8, 8, 8, 8, 8, 8, 8, 8, 8, 8, 8, 8, 8, 8, 8, 8, 8, 8, 8, 8, 8, 8, 8, 8, 8, 8, 8, 8, 8, 8, 8, 8, 8, 8, 8, 8, 8, 8, 8, 8, 8, 8, 8, 8, 8, 8, 8, 8, 8, 8, 8, 8, 8, 8, 8, 8, 8, 8, 8, 8, 8, 8, 8, 8, 8, 8, 8, 8, 8, 8, 8, 8, 8, 8, 8, 8, 8, 8, 8, 8, 8, 8, 8, 8, 8, 8, 8, 8, 8, 8, 8, 8, 8, 8, 8, 8, 8, 8, 8]).size : Int)) ∧
 rg (btA (ByteArray.mk #[0, 1, 2, 2, 3, 3, 3, 3, 4, 4, 4, 4, 4, 4, 4, 4, 5, 5, 5, 5, 5, 5, 5, 5, 5, 5, 5, 5, 5, 5, 5, 5, 6, 6, 6, 6, 6, 6, 6, 6, 6, 6, 6, 6, 6, 6, 6, 6, 6, 6, 6, 6, 6, 6, 6, 6, 6, 6, 6, 6, 6, 6, 6, 6, 7, 7, 7, 7, 7, 7, 7, 7, 7, 7, 7, 7, 7, 7, 7, 7, 7, 7, 7, 7, 7, 7, 7, 7, 7, 7, 7, 7, 7, 7, 7, 7, 7, 7, 7, 7, 7, 7, 7, 7, 7, 7, 7, 7, 7, 7, 7, 7, 7, 7, 7, 7, 7, 7, 7, 7, 7, 7, 7, 7, 7, 7, 7, 7, 8, 8, 8, 8, 8, 8, 8, 8, 8, 8, 8, 8, 8, 8, 8, 8, 8, 8, 8, 8, 8, 8, 8, 8, 8, 8, 8, 8, 8, 8, 8, 8, 8, 8, 8, 8, 8, 8, 8, 8, 8, 8, 8, 8, 8, 8, 8, 8, 8, 8, 8, 8, 8, 8, 8, 8, 8, 8, 8, 8, 8, 8, 8, 8, 8, 8, 8, 8, 8, 8, 8, 8, 8, 8, 8, 8, 8, 8, 8, 8, 8, 8, 8, 8, 8, 8, 8, 8, 8, 8, 8, 8, 8, 8, 8, 8, 8, 8, 8, 8, 8, 8, 8, 8, 8, 8, 8, 8, 8, 8, 8, 8, 8, 8, 8, 8, 8, 8, 8, 8, 8, 8, 8, 8, 8, 8, 8, 8]) (IntKind.u8.wrap x3)) (
 rg (n2 + (btA (ByteArray.mk #[0, 1, 2, 2, 3, 3, 3, 3, 4, 4, 4, 4, 4, 4, 4, 4, 5, 5, 5, 5, 5, 5, 5, 5, 5, 5, 5, 5, 5, 5, 5, 5, 6, 6, 6, 6, 6, 6, 6, 6, 6, 6, 6, 6, 6, 6, 6, 6, 6, 6, 6, 6, 6, 6, 6, 6, 6, 6, 6, 6, 6, 6, 6, 6, 7, 7, 7, 7, 7, 7, 7, 7, 7, 7, 7, 7, 7, 7, 7, 7, 7, 7, 7, 7, 7, 7, 7, 7, 7, 7, 7, 7, 7, 7, 7, 7, 7, 7, 7, 7, 7, 7, 7, 7, 7, 7, 7, 7, 7, 7, 7, 7, 7, 7, 7, 7, 7, 7, 7, 7, 7, 7, 7, 7, 7, 7, 7, 7, 8, 8, 8, 8, 8, 8, 8, 8, 8, 8, 8, 8, 8, 8, 8, 8, 8, 8, 8, 8, 8, 8, 8, 8, 8, 8, 8, 8, 8, 8, 8, 8, 8, 8, 8, 8, 8, 8, 8, 8, 8, 8, 8, 8, 8, 8, 8, 8, 8, 8, 8, 8, 8, 8, 8, 8, 8, 8, 8, 8, 8, 8, 8, 8, 8, 8, 8, 8, 8, 8, 8, 8, 8, 8, 8, 8, 8, 8, 8, 8, 8, 8, 8, 8, 8, 8, 8, 8, 8, 8, 8, 8, 8, 8, 8, 8, 8, 8, 8, 8, 8, 8, 8, 8, 8, 8, 8, 8, 8, 8, 8, 8, 8, 8, 8, 8, 8, 8, 8, 8, 8, 8, 8, 8, 8, 8, 8, 8]) (IntKind.u8.wrap x3))) (
 retG (.int .i64 (n2 + (btA (ByteArray.mk #[0, 1, 2, 2, 3, 3, 3, 3, 4, 4, 4, 4, 4, 4, 4, 4, 5, 5, 5, 5, 5, 5, 5, 5, 5, 5, 5, 5, 5, 5, 5, 5, 6, 6, 6, 6, 6, 6, 6, 6, 6, 6, 6, 6, 6, 6, 6, 6, 6, 6, 6, 6, 6, 6, 6, 6, 6, 6, 6, 6, 6, 6, 6, 6, 7, 7, 7, 7, 7, 7, 7, 7, 7, 7, 7, 7, 7, 7, 7, 7, 7, 7, 7, 7, 7, 7, 7, 7, 7, 7, 7, 7, 7, 7, 7, 7, 7, 7, 7, 7, 7, 7, 7, 7, 7, 7, 7, 7, 7, 7, 7, 7, 7, 7, 7, 7, 7, 7, 7, 7, 7, 7, 7, 7, 7, 7, 7, 7, 8, 8, 8, 8, 8, 8, 8, 8, 8, 8, 8, 8, 8, 8, 8, 8, 8, 8, 8, 8, 8, 8, 8, 8, 8, 8, 8, 8, 8, 8, 8, 8, 8, 8, 8, 8, 8, 8, 8, 8, 8, 8, 8, 8, 8, 8, 8, 8, 8, 8, 8, 8, 8, 8, 8, 8, 8, 8, 8, 8, 8, 8, 8, 8, 8, 8, 8, 8, 8, 8, 8, 8, 8, 8, 8, 8, 8, 8, 8, 8, 8, 8, 8, 8, 8, 8, 8, 8, 8, 8, 8, 8, 8, 8, 8, 8, 8, 8, 8, 8, 8, 8, 8, 8, 8, 8, 8, 8, 8, 8, 8, 8, 8, 8, 8, 8, 8, 8, 8, 8, 8, 8, 8, 8, 8, 8, 8, 8]) (IntKind.u8.wrap x3)))) h Ψ))

abbrev s114c2_K : List Kd := [.int .u64, .int .i64]
def s114c2 (Ψ : AVal → Heap → Prop) (x2 n1 : Int) (h : Heap) : Prop :=
 ifT (decide (256 ≤ x2)) (
 (0 : Int) ≤ 8 ∧
 rg (n1 + 8) (
 s114c3 Ψ (Int.fdiv x2 (2 ^ (min (Int.toNat 8) (IntKind.u64.bits)))) (n1 + 8) h)) (
 s114c3 Ψ x2 n1 h)

abbrev s114c1_K : List Kd := [.int .u64, .int .i64]
def s114c1 (Ψ : AVal → Heap → Prop) (x1 n : Int) (h : Heap) : Prop :=
 ifT (decide (65536 ≤ x1)) (
 (0 : Int) ≤ 16 ∧
 rg (n + 16) (
 s114c2 Ψ (Int.fdiv x1 (2 ^ (min (Int.toNat 16) (IntKind.u64.bits)))) (n + 16) h)) (
 s114c2 Ψ x1 n h)

def s114 (Ψ : AVal → Heap → Prop) (x : Int) (h : Heap) : Prop :=
 ifT (decide (4294967296 ≤ x)) (
 (0 : Int) ≤ 32 ∧
 s114c1 Ψ (Int.fdiv x (2 ^ (min (Int.toNat 32) (IntKind.u64.bits)))) 32 h) (
 s114c1 Ψ x 0 h)

def s114_A (Ψ : AVal → Heap → Prop) : Ann :=
 .seq (rA 1)
 (cutK [0, 2] s114c1_K (s114c1 Ψ) (.seq (rA 2)
 (.cond (.seq (rA 3)
 (rA 1))
 (.leaf)))
 (cutK [0, 2] s114c2_K (s114c2 Ψ) (.seq (rA 2)
 (.cond (.seq (rA 3)
 (rA 3))
 (.leaf)))
 (cutK [0, 2] s114c3_K (s114c3 Ψ) (.seq (rA 2)
 (.cond (.seq (rA 3)
 (rA 3))
 (.leaf)))
 (.seq (rA 7)
 (.leaf)))))

theorem s114_ok {Ψ : AVal → Heap → Prop} {x : Int} {h : Heap} (H : s114 Ψ x h) : ACalls prog 114 [(.int .u64 x)] h Ψ :=
 calls_of_evF func114 (by kernel_rfl) (by kernel_rfl) (by kernel_rfl)
 (Eq.mpr (by as_aux_lemma => kernel_rfl : oblF prog f114 (s114_A Ψ) Ψ = ((True) ∧ ((otP 13) ∧ ((QK s114c1_K (s114c1 Ψ)) ∧ ((otP 13) ∧ ((QK s114c2_K (s114c2 Ψ)) ∧ ((otP 13) ∧ ((QK s114c3_K (s114c3 Ψ)) ∧ (otP 1))))))))) (⟨trivial, ⟨otP_ok 13, ⟨oI, ⟨otP_ok 13, ⟨oI, ⟨otP_ok 13, ⟨oI, otP_ok 1⟩⟩⟩⟩⟩⟩⟩))
 (Eq.mpr (by as_aux_lemma => kernel_rfl : evF prog f114 (s114_A Ψ) Ψ [(.int .u64 x)] h = s114 Ψ x h) H)

/- 116 dictum/worlds.looked -/
abbrev s116l2_T := AVal → Int → AVal → AVal → Int → Int → Heap → Prop
abbrev s116l2_K : List Kd := [.any, .int .i64, .any, .any, .int .i64, .int .i64]
def s116l2_G (F : s116l2_T) : s116l2_T := GK s116l2_K F
def s116l2_E (F : Nat → s116l2_T) : s116l2_T := EK s116l2_K F
theorem s116l2_go {F : s116l2_T} {x0 : AVal} {x1 : Int} {x2 x3 : AVal} {x4 x5 : Int} {h : Heap} (H : F x0 x1 x2 x3 x4 x5 h) : s116l2_G F x0 x1 x2 x3 x4 x5 h := gJ_plain rfl H
theorem s116l2_in {F : Nat → s116l2_T} {x0 : AVal} {x1 : Int} {x2 x3 : AVal} {x4 x5 : Int} {h : Heap} (n : Nat) (H : F n x0 x1 x2 x3 x4 x5 h) : s116l2_E F x0 x1 x2 x3 x4 x5 h := gJ_plain rfl ⟨n, H⟩

abbrev s116l3_T := AVal → Int → AVal → Int → AVal → AVal → Int → Int → Int → Int → Heap → Prop
abbrev s116l3_K : List Kd := [.any, .int .i64, .any, .int .i64, .any, .any, .int .i64, .int .i64, .int .i64, .int .i64]
def s116l3_G (F : s116l3_T) : s116l3_T := GK s116l3_K F
def s116l3_E (F : Nat → s116l3_T) : s116l3_T := EK s116l3_K F
theorem s116l3_in {F : Nat → s116l3_T} {x0 : AVal} {x1 : Int} {x2 : AVal} {x3 : Int} {x4 x5 : AVal} {x6 x7 x8 x9 : Int} {h : Heap} (n : Nat) (H : F n x0 x1 x2 x3 x4 x5 x6 x7 x8 x9 h) : s116l3_E F x0 x1 x2 x3 x4 x5 x6 x7 x8 x9 h := gJ_plain rfl ⟨n, H⟩

abbrev s116c4_K : List Kd := [.any, .int .i64, .any, .int .i64, .any, .any, .int .i64, .int .i64, .int .i64, .int .i64]
def s116c4 (Ψ : AVal → Heap → Prop) (L2 : s116l2_T) (L3 : s116l3_T) (m3 : AVal) (n7 : Int) (leq2 : AVal) (a1 : Int) (l_7 t34_2 : AVal) (t35_2 t36_2 t44_1 t45_1 : Int) (h : Heap) : Prop :=
 rg (t45_1 + 1) (
 L3 m3 n7 leq2 a1 l_7 t34_2 t35_2 t36_2 t44_1 (t45_1 + 1) h)

abbrev s116c6_K : List Kd := [.any, .int .i64, .any, .int .i64, .any, .any, .int .i64, .int .i64, .int .i64, .int .i64, .bool]
def s116c6 (Ψ : AVal → Heap → Prop) (L2 : s116l2_T) (L3 : s116l3_T) (m5 : AVal) (n9 : Int) (leq4 : AVal) (a3 : Int) (l_9 t34_4 : AVal) (t35_4 t36_4 t44_3 t45_3 : Int) (t66 : Bool) (h : Heap) : Prop :=
 ifT t66 (
 retG (.tuple [.nilfunc, (.bool false)]) h Ψ) (
 s116c4 Ψ L2 L3 m5 n9 leq4 a3 l_9 t34_4 t35_4 t36_4 t44_3 t45_3 h)

abbrev s116c5_K : List Kd := [.any, .int .i64, .any, .int .i64, .any, .any, .any, .int .i64, .int .i64, .int .i64, .int .i64, .bool]
def s116c5 (Ψ : AVal → Heap → Prop) (L2 : s116l2_T) (L3 : s116l3_T) (m4 : AVal) (n8 : Int) (leq3 : AVal) (a2 : Int) (l_8 b t34_3 : AVal) (t35_3 t36_3 t44_2 t45_2 : Int) (t57 : Bool) (h : Heap) : Prop :=
 ifT t57 (
 s116c4 Ψ L2 L3 m4 n8 leq3 a2 l_8 t34_3 t35_3 t36_3 t44_2 t45_2 h) (
 ld1 h b fun v10 =>
 tInt .i64 v10 fun v11 =>
 callV prog leq3 [(.int .i64 v11), (.int .i64 a2)] h fun v12 h_4 =>
 tBool v12 fun v13 =>
 ifT v13 (
 s116c6 Ψ L2 L3 m4 n8 leq3 a2 l_8 t34_3 t35_3 t36_3 t44_2 t45_2 true h_4) (
 callG prog 141 [l_8, (.func (.func 142) [] [m4, b])] h_4 fun v14 h_5 =>
 tBool v14 fun v15 =>
 s116c6 Ψ L2 L3 m4 n8 leq3 a2 l_8 t34_3 t35_3 t36_3 t44_2 t45_2 v15 h_5))

def s116l3 (Ψ : AVal → Heap → Prop) (L2 : s116l2_T) : Nat → s116l3_T
 | 0, _, _, _, _, _, _, _, _, _, _, _ => False
 | n6 + 1, m2, n5, leq1, a, l_6, t34_1, t35_1, t36_1, t44, t45, h =>
 ifT (decide (t45 < t44)) (
 Sym.newRow 1 [(.int .i64 0)] h fun r h_2 =>
 st true h_2 (.ptr r 0 0) [(.int .i64 t45)] fun h_3 =>
 ld1 h_3 (.ptr r 0 0) fun v16 =>
 tInt .i64 v16 fun v17 =>
 ifT (a == v17) (
 s116c5 Ψ L2 (s116l3_G (s116l3 Ψ L2 n6)) m2 n5 leq1 a l_6 (.ptr r 0 0) t34_1 t35_1 t36_1 t44 t45 true h_3) (
 ld1 h_3 (.ptr r 0 0) fun v18 =>
 tInt .i64 v18 fun v19 =>
 callV prog leq1 [(.int .i64 a), (.int .i64 v19)] h_3 fun v20 h_6 =>
 tBool v20 fun v21 =>
 s116c5 Ψ L2 (s116l3_G (s116l3 Ψ L2 n6)) m2 n5 leq1 a l_6 (.ptr r 0 0) t34_1 t35_1 t36_1 t44 t45 (!v21) h_6)) (
 rg (t36_1 + 1) (
 L2 m2 n5 leq1 t34_1 t35_1 (t36_1 + 1) h))

def s116l2 (Ψ : AVal → Heap → Prop) : Nat → s116l2_T
 | 0, _, _, _, _, _, _, _ => False
 | n4 + 1, m1, n3, leq, t34, t35, t36, h =>
 ifT (decide (t36 < t35)) (
 ixS 1 t34 t36 fun p1 =>
 ld1 h p1 fun v7 =>
 callG prog 140 [v7] h fun v8 h_1 =>
 tBool v8 fun v9 =>
 ifT (!v9) (
 retG (.tuple [.nilfunc, (.bool false)]) h_1 Ψ) (
 s116l3_E (s116l3 Ψ (s116l2_G (s116l2 Ψ n4))) m1 n3 leq t36 v7 t34 t35 t36 n3 0 h_1)) (
 retG (.tuple [leq, (.bool true)]) h Ψ)

abbrev s116c1_K : List Kd := [.any, .int .i64, .bool]
def s116c1 (Ψ : AVal → Heap → Prop) (m : AVal) (n1 : Int) (t25 : Bool) (h : Heap) : Prop :=
 ifT t25 (
 retG (.tuple [.nilfunc, (.bool false)]) h Ψ) (
 ldN 2 h m fun l_ =>
 tCons l_ fun v l_1 =>
 tCons l_1 fun v1 l_2 =>
 tNil l_2 (
 callG prog 139 [(.agg [v, v1])] h fun v2 h_ =>
 tTup v2 fun l_3 =>
 tCons l_3 fun v3 l_4 =>
 tCons l_4 fun v4 l_5 =>
 tBool v4 fun v5 =>
 tNil l_5 (
 ifT (!v5) (
 retG (.tuple [.nilfunc, (.bool false)]) h_ Ψ) (
 addOff m 1 fun p =>
 ld1 h_ p fun v6 =>
 lenN v6 fun n2 =>
 s116l2_E (s116l2 Ψ) m n1 v3 v6 n2 0 h_))))

def s116 (Ψ : AVal → Heap → Prop) (m_Up : AVal) (m_Val : AVal) (h : Heap) : Prop :=
 lenN m_Up fun n =>
 ifT (decide (n < 1)) (
 s116c1 Ψ (.lptr [m_Up, m_Val]) n true h) (
 ifT (decide (512 < n)) (
 s116c1 Ψ (.lptr [m_Up, m_Val]) n true h) (
 lenN m_Val fun n12 =>
 s116c1 Ψ (.lptr [m_Up, m_Val]) n (n12 != n) h))

def s116_A (Ψ : AVal → Heap → Prop) : Ann :=
 .seq (.reg [⟨none, [(0, true), (1, false), (2, false)]⟩])
 (.seq (rA 4)
 (.seq (cutK [1, 4, 25] s116c1_K (s116c1 Ψ) (.reg [⟨none, [(0, false), (1, false), (2, false)]⟩, ⟨some (15, false), [(3, false), (4, false)]⟩, ⟨none, [(5, false), (6, false)]⟩, ⟨some (19, false), [(7, false), (8, false), (9, false), (10, false), (11, false)]⟩, ⟨none, [(12, false)]⟩])
 (.cond (.seq (rA 2)
 (.leaf))
 (.leaf)))
 (.seq (rA 7)
 (.seq (.seq (rA 2)
 (.cond (.seq (rA 2)
 (.leaf))
 (.leaf)))
 (.seq (.seq (rA 4)
 (.block (loopK [1, 4, 5, 34, 35, 36] s116l2_K (s116l2 Ψ) (fun L2 =>
 .seq (rA 1)
 (.seq (.cond (.leaf)
 (.leaf))
 (.seq (.block (.seq (rA 5)
 (.seq (.seq (rA 3)
 (.cond (.seq (rA 2)
 (.leaf))
 (.leaf)))
 (.seq (rA 2)
 (.block (loopK [1, 4, 5, 7, 8, 34, 35, 36, 44, 45] s116l3_K (s116l3 Ψ (LK s116l2_K L2)) (fun L3 =>
 .seq (rA 1)
 (.seq (.cond (.leaf)
 (.leaf))
 (cutK [1, 4, 5, 7, 8, 34, 35, 36, 44, 45] s116c4_K (s116c4 Ψ (LK s116l2_K L2) (LK s116l3_K L3)) (.block (.seq (rA 3)
 (.seq (cutK [1, 4, 5, 7, 8, 9, 34, 35, 36, 44, 45, 57] s116c5_K (s116c5 Ψ (LK s116l2_K L2) (LK s116l3_K L3)) (.reg [⟨none, [(0, false), (1, false), (2, false), (3, false)]⟩, ⟨some (51, false), [(4, false), (5, false), (6, false), (7, false), (8, false)]⟩, ⟨none, [(9, false)]⟩])
 (.cond (.leaf)
 (.leaf)))
 (cutK [1, 4, 5, 7, 8, 34, 35, 36, 44, 45, 66] s116c6_K (s116c6 Ψ (LK s116l2_K L2) (LK s116l3_K L3)) (.reg [⟨none, [(0, false), (1, false), (2, false), (3, false), (4, false)]⟩, ⟨some (62, false), [(5, false), (6, false), (7, false)]⟩, ⟨none, [(8, false)]⟩])
 (.cond (.seq (rA 2)
 (.leaf))
 (.leaf))))))
 (rA 2))))))))))
 (rA 2)))))))
 (.seq (rA 3)
 (.leaf)))))))

theorem s116_ok {Ψ : AVal → Heap → Prop} {m_Up : AVal} {m_Val : AVal} {h : Heap} (H : s116 Ψ m_Up m_Val h) : ACalls prog 116 [(.agg [m_Up, m_Val])] h Ψ :=
 calls_of_evF func116 (by kernel_rfl) (by kernel_rfl) (by kernel_rfl)
 (Eq.mpr (by as_aux_lemma => kernel_rfl : oblF prog f116 (s116_A Ψ) Ψ = ((True) ∧ ((True) ∧ (((True) ∧ ((QK s116c1_K (s116c1 Ψ)) ∧ (otP 3))) ∧ ((True) ∧ ((otP 13) ∧ (((True) ∧ ((NK s116l2_K (s116l2 Ψ 0)) ∧ (∀ n2 : Nat, (QK s116l2_K (s116l2 Ψ (n2 + 1))) ∧ ((True) ∧ ((otP 1) ∧ (((True) ∧ ((otP 13) ∧ ((True) ∧ ((NK s116l3_K (s116l3 Ψ (s116l2_G (s116l2 Ψ n2)) 0)) ∧ (∀ n3 : Nat, (QK s116l3_K (s116l3 Ψ (s116l2_G (s116l2 Ψ n2)) (n3 + 1))) ∧ ((True) ∧ ((otP 1) ∧ (((True) ∧ (((True) ∧ ((QK s116c5_K (s116c5 Ψ (s116l2_G (s116l2 Ψ n2)) (s116l3_G (s116l3 Ψ (s116l2_G (s116l2 Ψ n2)) n3)))) ∧ (otP 1))) ∧ ((True) ∧ ((QK s116c6_K (s116c6 Ψ (s116l2_G (s116l2 Ψ n2)) (s116l3_G (s116l3 Ψ (s116l2_G (s116l2 Ψ n2)) n3)))) ∧ (otP 3))))) ∧ ((QK s116c4_K (s116c4 Ψ (s116l2_G (s116l2 Ψ n2)) (s116l3_G (s116l3 Ψ (s116l2_G (s116l2 Ψ n2)) n3)))) ∧ (True)))))))))) ∧ (True))))))) ∧ (otP 1)))))))) (⟨trivial, ⟨trivial, ⟨⟨trivial, ⟨oI, otP_ok 3⟩⟩, ⟨trivial, ⟨otP_ok 13, ⟨⟨trivial, ⟨fun _ _ _ _ _ _ _ H => H, fun _ => ⟨oI, ⟨trivial, ⟨otP_ok 1, ⟨⟨trivial, ⟨otP_ok 13, ⟨trivial, ⟨fun _ _ _ _ _ _ _ _ _ _ _ H => H, fun _ => ⟨oI, ⟨trivial, ⟨otP_ok 1, ⟨⟨trivial, ⟨⟨trivial, ⟨oI, otP_ok 1⟩⟩, ⟨trivial, ⟨oI, otP_ok 3⟩⟩⟩⟩, ⟨oI, trivial⟩⟩⟩⟩⟩⟩⟩⟩⟩, trivial⟩⟩⟩⟩⟩⟩, otP_ok 1⟩⟩⟩⟩⟩⟩))
 (Eq.mpr (by as_aux_lemma => kernel_rfl : evF prog f116 (s116_A Ψ) Ψ [(.agg [m_Up, m_Val])] h = s116 Ψ m_Up m_Val h) H)

/- 118 dictum/dictumref23.within -/
def s118 (Ψ : AVal → Heap → Prop) (l_ : AVal) (z : Int) (x : Int) (y : Int) (down : Bool) (h : Heap) : Prop :=
 ifT down (
 ixS 1 l_ z fun p =>
 ld1 h p fun v =>
 ixS 1 v x fun p1 =>
 ld1 h p1 fun v1 =>
 tBool v1 fun v2 =>
 ifT v2 (
 ixS 1 l_ z fun p2 =>
 ld1 h p2 fun v3 =>
 ixS 1 v3 y fun p3 =>
 ld1 h p3 fun v4 =>
 tBool v4 fun v5 =>
 retG (.bool v5) h Ψ) (
 retG (.bool false) h Ψ)) (
 ixS 1 l_ x fun p4 =>
 ld1 h p4 fun v6 =>
 ixS 1 v6 z fun p5 =>
 ld1 h p5 fun v7 =>
 tBool v7 fun v8 =>
 ifT v8 (
 ixS 1 l_ y fun p6 =>
 ld1 h p6 fun v9 =>
 ixS 1 v9 z fun p7 =>
 ld1 h p7 fun v10 =>
 tBool v10 fun v11 =>
 retG (.bool v11) h Ψ) (
 retG (.bool false) h Ψ))

def s118_A (Ψ : AVal → Heap → Prop) : Ann :=
 .seq (rA 1)
 (.seq (.seq (rA 1)
 (.cond (.seq (.reg [⟨none, [(0, false), (1, false), (2, false), (3, false), (4, false), (5, false), (6, false), (7, false)]⟩, ⟨some (19, true), [(8, false), (9, false), (10, false), (11, false), (12, false), (13, false), (14, false)]⟩, ⟨none, [(15, false), (16, false)]⟩])
 (.leaf))
 (.leaf)))
 (.seq (.reg [⟨none, [(0, false), (1, false), (2, false), (3, false), (4, false), (5, false), (6, false), (7, false)]⟩, ⟨some (35, true), [(8, false), (9, false), (10, false), (11, false), (12, false), (13, false), (14, false)]⟩, ⟨none, [(15, false), (16, false)]⟩])
 (.leaf)))

theorem s118_ok {Ψ : AVal → Heap → Prop} {l_ : AVal} {z : Int} {x : Int} {y : Int} {down : Bool} {h : Heap} (H : s118 Ψ l_ z x y down h) : ACalls prog 118 [l_, (.int .i64 z), (.int .i64 x), (.int .i64 y), (.bool down)] h Ψ :=
 calls_of_evF func118 (by kernel_rfl) (by kernel_rfl) (by kernel_rfl)
 (Eq.mpr (by as_aux_lemma => kernel_rfl : oblF prog f118 (s118_A Ψ) Ψ = (otP 1133)) (otP_ok 1133))
 (Eq.mpr (by as_aux_lemma => kernel_rfl : evF prog f118 (s118_A Ψ) Ψ [l_, (.int .i64 z), (.int .i64 x), (.int .i64 y), (.bool down)] h = s118 Ψ l_ z x y down h) H)

/- 131 dictum/dictumref03.letter -/
def s131 (Ψ : AVal → Heap → Prop) (c : Int) (h : Heap) : Prop :=
 ifT (decide (97 ≤ c)) (
 ifT (decide (c ≤ 122)) (
 retG (.bool true) h Ψ) (
 ifT (decide (65 ≤ c)) (
 retG (.bool (decide (c ≤ 90))) h Ψ) (
 retG (.bool false) h Ψ))) (
 ifT (decide (65 ≤ c)) (
 retG (.bool (decide (c ≤ 90))) h Ψ) (
 retG (.bool false) h Ψ))

def s131_A (Ψ : AVal → Heap → Prop) : Ann :=
 .seq (rA 1)
 (.seq (.reg [⟨none, [(0, false), (1, false), (2, false)]⟩, ⟨some (5, true), [(3, false), (4, false)]⟩, ⟨none, [(5, false), (6, false)]⟩, ⟨some (9, false), [(7, false), (8, false), (9, false)]⟩, ⟨some (12, true), [(10, false), (11, false)]⟩, ⟨some (9, false), [(12, false)]⟩, ⟨none, [(13, false), (14, false)]⟩])
 (.leaf))

theorem s131_ok {Ψ : AVal → Heap → Prop} {c : Int} {h : Heap} (H : s131 Ψ c h) : ACalls prog 131 [(.int .u8 c)] h Ψ :=
 calls_of_evF func131 (by kernel_rfl) (by kernel_rfl) (by kernel_rfl)
 (Eq.mpr (by as_aux_lemma => kernel_rfl : oblF prog f131 (s131_A Ψ) Ψ = (otP 5)) (otP_ok 5))
 (Eq.mpr (by as_aux_lemma => kernel_rfl : evF prog f131 (s131_A Ψ) Ψ [(.int .u8 c)] h = s131 Ψ c h) H)

/- 139 dictum/worlds.reckon -/
abbrev s139l1_T := AVal → Int → AVal → Int → Int → Heap → Prop
abbrev s139l1_K : List Kd := [.any, .int .i64, .any, .int .i64, .int .i64]
def s139l1_G (F : s139l1_T) : s139l1_T := GK s139l1_K F
def s139l1_E (F : Nat → s139l1_T) : s139l1_T := EK s139l1_K F
theorem s139l1_in {F : Nat → s139l1_T} {x0 : AVal} {x1 : Int} {x2 : AVal} {x3 x4 : Int} {h : Heap} (n : Nat) (H : F n x0 x1 x2 x3 x4 h) : s139l1_E F x0 x1 x2 x3 x4 h := gJ_plain rfl ⟨n, H⟩

abbrev s139l2_T := AVal → Int → AVal → AVal → AVal → Int → Int → Heap → Prop
abbrev s139l2_K : List Kd := [.any, .int .i64, .any, .any, .any, .int .i64, .int .i64]
def s139l2_G (F : s139l2_T) : s139l2_T := GK s139l2_K F
def s139l2_E (F : Nat → s139l2_T) : s139l2_T := EK s139l2_K F
theorem s139l2_go {F : s139l2_T} {x0 : AVal} {x1 : Int} {x2 x3 x4 : AVal} {x5 x6 : Int} {h : Heap} (H : F x0 x1 x2 x3 x4 x5 x6 h) : s139l2_G F x0 x1 x2 x3 x4 x5 x6 h := gJ_plain rfl H
theorem s139l2_in {F : Nat → s139l2_T} {x0 : AVal} {x1 : Int} {x2 x3 x4 : AVal} {x5 x6 : Int} {h : Heap} (n : Nat) (H : F n x0 x1 x2 x3 x4 x5 x6 h) : s139l2_E F x0 x1 x2 x3 x4 x5 x6 h := gJ_plain rfl ⟨n, H⟩

abbrev s139l3_T := AVal → Int → AVal → AVal → AVal → Int → Int → AVal → Int → Int → Heap → Prop
abbrev s139l3_K : List Kd := [.any, .int .i64, .any, .any, .any, .int .i64, .int .i64, .any, .int .i64, .int .i64]
def s139l3_G (F : s139l3_T) : s139l3_T := GK s139l3_K F
def s139l3_E (F : Nat → s139l3_T) : s139l3_T := EK s139l3_K F
theorem s139l3_go {F : s139l3_T} {x0 : AVal} {x1 : Int} {x2 x3 x4 : AVal} {x5 x6 : Int} {x7 : AVal} {x8 x9 : Int} {h : Heap} (H : F x0 x1 x2 x3 x4 x5 x6 x7 x8 x9 h) : s139l3_G F x0 x1 x2 x3 x4 x5 x6 x7 x8 x9 h := gJ_plain rfl H
theorem s139l3_in {F : Nat → s139l3_T} {x0 : AVal} {x1 : Int} {x2 x3 x4 : AVal} {x5 x6 : Int} {x7 : AVal} {x8 x9 : Int} {h : Heap} (n : Nat) (H : F n x0 x1 x2 x3 x4 x5 x6 x7 x8 x9 h) : s139l3_E F x0 x1 x2 x3 x4 x5 x6 x7 x8 x9 h := gJ_plain rfl ⟨n, H⟩

abbrev s139c4_K : List Kd := [.any, .int .i64, .any, .any, .any, .int .i64, .int .i64, .any, .int .i64, .int .i64]
def s139c4 (Ψ : AVal → Heap → Prop) (L1 : s139l1_T) (L2 : s139l2_T) (L3 : s139l3_T) (m3 : AVal) (n12 : Int) (above3 row2 stack2 : AVal) (t18_3 t19_3 : Int) (t51_1 : AVal) (t52_1 t53_1 : Int) (h : Heap) : Prop :=
 rg (t53_1 + 1) (
 L3 m3 n12 above3 row2 stack2 t18_3 t19_3 t51_1 t52_1 (t53_1 + 1) h)

abbrev s139c5_K : List Kd := [.any, .int .i64, .any, .any, .any, .int .i64, .int .i64, .int .i64, .any, .int .i64, .int .i64, .bool]
def s139c5 (Ψ : AVal → Heap → Prop) (L1 : s139l1_T) (L2 : s139l2_T) (L3 : s139l3_T) (m4 : AVal) (n13 : Int) (above4 row3 stack3 : AVal) (b t18_4 t19_4 : Int) (t51_2 : AVal) (t52_2 t53_2 : Int) (t63 : Bool) (h : Heap) : Prop :=
 ifT t63 (
 retG (.tuple [.nilfunc, (.bool false)]) h Ψ) (
 ixS 1 row3 b fun p6 =>
 ld1 h p6 fun v11 =>
 tBool v11 fun v12 =>
 ifT (!v12) (
 ixS 1 row3 b fun p7 =>
 st true h p7 [(.bool true)] fun h_7 =>
 appC 1 8 h_7 stack3 (.lsl 1 [(.int .i64 b)]) fun v13 h_8 =>
 s139c4 Ψ L1 L2 L3 m4 n13 above4 row3 v13 t18_4 t19_4 t51_2 t52_2 t53_2 h_8) (
 s139c4 Ψ L1 L2 L3 m4 n13 above4 row3 stack3 t18_4 t19_4 t51_2 t52_2 t53_2 h))

def s139l3 (Ψ : AVal → Heap → Prop) (L1 : s139l1_T) (L2 : s139l2_T) : Nat → s139l3_T
 | 0, _, _, _, _, _, _, _, _, _, _, _ => False
 | n11 + 1, m2, n10, above2, row1, stack1, t18_2, t19_2, t51, t52, t53, h =>
 ifT (decide (t53 < t52)) (
 ixS 1 t51 t53 fun p5 =>
 ld1 h p5 fun v9 =>
 tInt .i64 v9 fun v10 =>
 ifT (decide (v10 < 0)) (
 s139c5 Ψ L1 L2 (s139l3_G (s139l3 Ψ L1 L2 n11)) m2 n10 above2 row1 stack1 v10 t18_2 t19_2 t51 t52 t53 true h) (
 s139c5 Ψ L1 L2 (s139l3_G (s139l3 Ψ L1 L2 n11)) m2 n10 above2 row1 stack1 v10 t18_2 t19_2 t51 t52 t53 (decide (n10 ≤ v10)) h)) (
 L2 m2 n10 above2 row1 stack1 t18_2 t19_2 h)

def s139l2 (Ψ : AVal → Heap → Prop) (L1 : s139l1_T) : Nat → s139l2_T
 | 0, _, _, _, _, _, _, _, _ => False
 | n5 + 1, m1, n4, above1, row, stack, t18_1, t19_1, h =>
 lenN stack fun n6 =>
 ifT (decide (0 < n6)) (
 lenN stack fun n7 =>
 rg (n7 - 1) (
 ixS 1 stack (n7 - 1) fun p2 =>
 ld1 h p2 fun v4 =>
 tInt .i64 v4 fun v5 =>
 lenN stack fun n8 =>
 rg (n8 - 1) (
 slX 1 stack 0 (some (n8 - 1)) fun v6 =>
 addOff m1 0 fun p3 =>
 ld1 h p3 fun v7 =>
 ixS 1 v7 v5 fun p4 =>
 ld1 h p4 fun v8 =>
 lenN v8 fun n9 =>
 s139l3_E (s139l3 Ψ L1 (s139l2_G (s139l2 Ψ L1 n5))) m1 n4 above1 row v6 t18_1 t19_1 v8 n9 0 h))) (
 rg (t19_1 + 1) (
 L1 m1 n4 above1 t18_1 (t19_1 + 1) h))

def s139l1 (Ψ : AVal → Heap → Prop) : Nat → s139l1_T
 | 0, _, _, _, _, _, _ => False
 | n3 + 1, m, n2, above, t18, t19, h =>
 ifT (decide (t19 < t18)) (
 mkS false 1 1 (.bool false) h n2 n2 fun v2 h_3 =>
 ld1 h_3 above fun v3 =>
 ixS 1 v3 t19 fun p =>
 chk (sc v2) (
 st true h_3 p [v2] fun h_4 =>
 ixS 1 v2 t19 fun p1 =>
 st true h_4 p1 [(.bool true)] fun h_5 =>
 Sym.newRow 1 [(.int .i64 t19)] h_5 fun r1 h_6 =>
 s139l2_E (s139l2 Ψ (s139l1_G (s139l1 Ψ n3))) m n2 above v2 (.sl r1 1 0 1) t18 t19 h_6)) (
 retG (.tuple [(.func (.func 157) [] [above]), (.bool true)]) h Ψ)

def s139 (Ψ : AVal → Heap → Prop) (m_Up : AVal) (m_Val : AVal) (h : Heap) : Prop :=
 lenN m_Up fun n =>
 mkS false 1 24 .nilsl h n n fun v h_ =>
 Sym.newRow 1 [.nilsl] h_ fun r h_1 =>
 chk (sc v) (
 st true h_1 (.ptr r 0 0) [v] fun h_2 =>
 ld1 h_2 (.ptr r 0 0) fun v1 =>
 lenN v1 fun n1 =>
 s139l1_E (s139l1 Ψ) (.lptr [m_Up, m_Val]) n (.ptr r 0 0) n1 0 h_2)

def s139_A (Ψ : AVal → Heap → Prop) : Ann :=
 .seq (.reg [⟨none, [(0, true), (1, false), (2, false)]⟩])
 (.seq (rA 4)
 (.seq (rA 4)
 (.seq (.seq (rA 3)
 (.block (loopK [1, 4, 5, 18, 19] s139l1_K (s139l1 Ψ) (fun L1 =>
 .seq (rA 1)
 (.seq (.cond (.leaf)
 (.leaf))
 (.seq (.block (.seq (rA 2)
 (.seq (rA 3)
 (.seq (rA 5)
 (.seq (rA 4)
 (.seq (rA 3)
 (.block (loopK [1, 4, 5, 7, 8, 18, 19] s139l2_K (s139l2 Ψ (LK s139l1_K L1)) (fun L2 =>
 .seq (.seq (rA 3)
 (.cond (.leaf)
 (.leaf)))
 (.block (.seq (rA 7)
 (.seq (rA 6)
 (.seq (rA 7)
 (.block (loopK [1, 4, 5, 7, 8, 18, 19, 51, 52, 53] s139l3_K (s139l3 Ψ (LK s139l1_K L1) (LK s139l2_K L2)) (fun L3 =>
 .seq (rA 1)
 (.seq (.cond (.leaf)
 (.leaf))
 (cutK [1, 4, 5, 7, 8, 18, 19, 51, 52, 53] s139c4_K (s139c4 Ψ (LK s139l1_K L1) (LK s139l2_K L2) (LK s139l3_K L3)) (.block (.seq (rA 3)
 (.seq (cutK [1, 4, 5, 7, 8, 11, 18, 19, 51, 52, 53, 63] s139c5_K (s139c5 Ψ (LK s139l1_K L1) (LK s139l2_K L2) (LK s139l3_K L3)) (.reg [⟨none, [(0, false), (1, false), (2, false)]⟩, ⟨some (59, false), [(3, false), (4, false), (5, false)]⟩, ⟨none, [(6, false)]⟩])
 (.cond (.seq (rA 2)
 (.leaf))
 (.leaf)))
 (.seq (rA 5)
 (.cond (.seq (rA 4)
 (.reg [⟨none, [(0, false), (1, false), (2, true), (3, false), (4, false)]⟩]))
 (.leaf))))))
 (rA 2)))))))))))))))))))
 (rA 2)))))))
 (.seq (rA 3)
 (.leaf)))))

theorem s139_ok {Ψ : AVal → Heap → Prop} {m_Up : AVal} {m_Val : AVal} {h : Heap} (H : s139 Ψ m_Up m_Val h) : ACalls prog 139 [(.agg [m_Up, m_Val])] h Ψ :=
 calls_of_evF func139 (by kernel_rfl) (by kernel_rfl) (by kernel_rfl)
 (Eq.mpr (by as_aux_lemma => kernel_rfl : oblF prog f139 (s139_A Ψ) Ψ = ((True) ∧ ((True) ∧ ((True) ∧ (((True) ∧ ((NK s139l1_K (s139l1 Ψ 0)) ∧ (∀ n1 : Nat, (QK s139l1_K (s139l1 Ψ (n1 + 1))) ∧ ((True) ∧ ((otP 1) ∧ (((True) ∧ ((True) ∧ ((True) ∧ ((True) ∧ ((True) ∧ ((NK s139l2_K (s139l2 Ψ (s139l1_G (s139l1 Ψ n1)) 0)) ∧ (∀ n2 : Nat, (QK s139l2_K (s139l2 Ψ (s139l1_G (s139l1 Ψ n1)) (n2 + 1))) ∧ ((otP 5) ∧ ((True) ∧ ((True) ∧ ((True) ∧ ((NK s139l3_K (s139l3 Ψ (s139l1_G (s139l1 Ψ n1)) (s139l2_G (s139l2 Ψ (s139l1_G (s139l1 Ψ n1)) n2)) 0)) ∧ (∀ n3 : Nat, (QK s139l3_K (s139l3 Ψ (s139l1_G (s139l1 Ψ n1)) (s139l2_G (s139l2 Ψ (s139l1_G (s139l1 Ψ n1)) n2)) (n3 + 1))) ∧ ((True) ∧ ((otP 1) ∧ (((True) ∧ (((True) ∧ ((QK s139c5_K (s139c5 Ψ (s139l1_G (s139l1 Ψ n1)) (s139l2_G (s139l2 Ψ (s139l1_G (s139l1 Ψ n1)) n2)) (s139l3_G (s139l3 Ψ (s139l1_G (s139l1 Ψ n1)) (s139l2_G (s139l2 Ψ (s139l1_G (s139l1 Ψ n1)) n2)) n3)))) ∧ (otP 3))) ∧ (otP 13))) ∧ ((QK s139c4_K (s139c4 Ψ (s139l1_G (s139l1 Ψ n1)) (s139l2_G (s139l2 Ψ (s139l1_G (s139l1 Ψ n1)) n2)) (s139l3_G (s139l3 Ψ (s139l1_G (s139l1 Ψ n1)) (s139l2_G (s139l2 Ψ (s139l1_G (s139l1 Ψ n1)) n2)) n3)))) ∧ (True)))))))))))))))))) ∧ (True))))))) ∧ (otP 1)))))) (⟨trivial, ⟨trivial, ⟨trivial, ⟨⟨trivial, ⟨fun _ _ _ _ _ _ H => H, fun _ => ⟨oI, ⟨trivial, ⟨otP_ok 1, ⟨⟨trivial, ⟨trivial, ⟨trivial, ⟨trivial, ⟨trivial, ⟨fun _ _ _ _ _ _ _ _ H => H, fun _ => ⟨oI, ⟨otP_ok 5, ⟨trivial, ⟨trivial, ⟨trivial, ⟨fun _ _ _ _ _ _ _ _ _ _ _ H => H, fun _ => ⟨oI, ⟨trivial, ⟨otP_ok 1, ⟨⟨trivial, ⟨⟨trivial, ⟨oI, otP_ok 3⟩⟩, otP_ok 13⟩⟩, ⟨oI, trivial⟩⟩⟩⟩⟩⟩⟩⟩⟩⟩⟩⟩⟩⟩⟩⟩⟩, trivial⟩⟩⟩⟩⟩⟩, otP_ok 1⟩⟩⟩⟩))
 (Eq.mpr (by as_aux_lemma => kernel_rfl : evF prog f139 (s139_A Ψ) Ψ [(.agg [m_Up, m_Val])] h = s139 Ψ m_Up m_Val h) H)

/- 141 slices.ContainsFunc[[]string,string] -/
def s141 (Ψ : AVal → Heap → Prop) (s : AVal) (f : AVal) (h : Heap) : Prop :=
 callG prog 158 [s, f] h fun v h_ =>
 tInt .i64 v fun v1 =>
 retG (.bool (decide (0 ≤ v1))) h_ Ψ

def s141_A (Ψ : AVal → Heap → Prop) : Ann :=
 .seq (rA 1)
 (.seq (rA 5)
 (.leaf))

theorem s141_ok {Ψ : AVal → Heap → Prop} {s : AVal} {f : AVal} {h : Heap} (H : s141 Ψ s f h) : ACalls prog 141 [s, f] h Ψ :=
 calls_of_evF func141 (by kernel_rfl) (by kernel_rfl) (by kernel_rfl)
 (Eq.mpr (by as_aux_lemma => kernel_rfl : oblF prog f141 (s141_A Ψ) Ψ = (otP 5)) (otP_ok 5))
 (Eq.mpr (by as_aux_lemma => kernel_rfl : evF prog f141 (s141_A Ψ) Ψ [s, f] h = s141 Ψ s f h) H)

/- 143 dictum/formula.Word -/
abbrev s143l1_T := ByteArray → Int → Int → Heap → Prop
abbrev s143l1_K : List Kd := [.str, .int .i64, .int .i64]
def s143l1_G (F : s143l1_T) : s143l1_T := GK s143l1_K F
def s143l1_E (F : Nat → s143l1_T) : s143l1_T := EK s143l1_K F
theorem s143l1_go {F : s143l1_T} {x0 : ByteArray} {x1 x2 : Int} {h : Heap} (H : F x0 x1 x2 h) : s143l1_G F x0 x1 x2 h := gJ_plain rfl H
theorem s143l1_in {F : Nat → s143l1_T} {x0 : ByteArray} {x1 x2 : Int} {h : Heap} (n : Nat) (H : F n x0 x1 x2 h) : s143l1_E F x0 x1 x2 h := gJ_plain rfl ⟨n, H⟩

abbrev s143c3_K : List Kd := [.str, .int .i64, .int .i64, .bool]
def s143c3 (Ψ : AVal → Heap → Prop) (L1 : s143l1_T) (name3 : ByteArray) (t8_2 t9_2 : Int) (t44 : Bool) (h : Heap) : Prop :=
 ifT t44 (
 retG (.bool false) h Ψ) (
 rg (t9_2 + 1) (
 L1 name3 t8_2 (t9_2 + 1) h))

abbrev s143c2_K : List Kd := [.str, .int .i64, .int .u8, .bool, .int .i64, .int .i64]
def s143c2 (Ψ : AVal → Heap → Prop) (L1 : s143l1_T) (name2 : ByteArray) (i c : Int) (letter : Bool) (t8_1 t9_1 : Int) (h : Heap) : Prop :=
 ifT (!letter) (
 ifT (i == 0) (
 s143c3 Ψ L1 name2 t8_1 t9_1 true h) (
 ifT (c != 95) (
 ifT (c != 39) (
 ifT (decide (c < 48)) (
 s143c3 Ψ L1 name2 t8_1 t9_1 true h) (
 s143c3 Ψ L1 name2 t8_1 t9_1 (decide (57 < c)) h)) (
 s143c3 Ψ L1 name2 t8_1 t9_1 false h)) (
 s143c3 Ψ L1 name2 t8_1 t9_1 false h))) (
 s143c3 Ψ L1 name2 t8_1 t9_1 false h)

def s143l1 (Ψ : AVal → Heap → Prop) : Nat → s143l1_T
 | 0, _, _, _, _ => False
 | n + 1, name1, t8, t9, h =>
 ifT (decide (t9 < t8)) (
 ((0 : Int) ≤ t9 ∧ t9 < (name1.size : Int)) ∧
 ifT (decide (97 ≤ (bitsI .or .u8 (btA name1 t9) 32))) (
 s143c2 Ψ (s143l1_G (s143l1 Ψ n)) name1 t9 (btA name1 t9) (decide ((bitsI .or .u8 (btA name1 t9) 32) ≤ 122)) t8 t9 h) (
 s143c2 Ψ (s143l1_G (s143l1 Ψ n)) name1 t9 (btA name1 t9) false t8 t9 h)) (
 ifT (!strEq name1 (ByteArray.mk #[])) (
 ifT (decide ((name1.size : Int) ≤ 31)) (
 callG prog 159 [(.str name1)] h fun v h_ =>
 tBool v fun v1 =>
 retG (.bool (!v1)) h_ Ψ) (
 retG (.bool false) h Ψ)) (
 retG (.bool false) h Ψ))

def s143 (Ψ : AVal → Heap → Prop) (name : ByteArray) (h : Heap) : Prop :=
 s143l1_E (s143l1 Ψ) name (name.size : Int) 0 h

def s143_A (Ψ : AVal → Heap → Prop) : Ann :=
 .seq (rA 1)
 (.seq (.seq (rA 3)
 (.block (loopK [0, 8, 9] s143l1_K (s143l1 Ψ) (fun L1 =>
 .seq (rA 1)
 (.seq (.cond (.leaf)
 (.leaf))
 (.seq (.block (.seq (rA 2)
 (.seq (rA 4)
 (.seq (rA 3)
 (cutK [0, 3, 4, 6, 8, 9] s143c2_K (s143c2 Ψ (LK s143l1_K L1)) (.reg [⟨none, [(0, false), (1, false), (2, false)]⟩, ⟨some (19, true), [(3, false), (4, false)]⟩, ⟨none, [(5, false), (6, false)]⟩])
 (cutK [0, 8, 9, 44] s143c3_K (s143c3 Ψ (LK s143l1_K L1)) (.reg [⟨none, [(0, false), (1, false), (2, false)]⟩, ⟨some (25, true), [(3, false), (4, false), (5, false)]⟩, ⟨some (28, false), [(6, false), (7, false), (8, false)]⟩, ⟨some (31, true), [(9, false), (10, false)]⟩, ⟨some (28, false), [(11, false), (12, false)]⟩, ⟨some (35, true), [(13, false), (14, false), (15, false)]⟩, ⟨some (38, false), [(16, false), (17, false)]⟩, ⟨some (35, true), [(18, false)]⟩, ⟨some (28, false), [(19, false)]⟩, ⟨some (25, true), [(20, false)]⟩, ⟨none, [(21, false)]⟩])
 (.cond (.seq (rA 1)
 (.leaf))
 (.leaf))))))))
 (rA 2)))))))
 (.seq (.reg [⟨none, [(0, false), (1, false), (2, false)]⟩, ⟨some (48, true), [(3, false), (4, false), (5, false)]⟩, ⟨none, [(6, false), (7, false)]⟩, ⟨some (53, true), [(8, false), (9, false), (10, false)]⟩, ⟨none, [(11, false), (12, false)]⟩])
 (.leaf)))

theorem s143_ok {Ψ : AVal → Heap → Prop} {name : ByteArray} {h : Heap} (H : s143 Ψ name h) : ACalls prog 143 [(.str name)] h Ψ :=
 calls_of_evF func143 (by kernel_rfl) (by kernel_rfl) (by kernel_rfl)
 (Eq.mpr (by as_aux_lemma => kernel_rfl : oblF prog f143 (s143_A Ψ) Ψ = ((True) ∧ (((True) ∧ ((NK s143l1_K (s143l1 Ψ 0)) ∧ (∀ n1 : Nat, (QK s143l1_K (s143l1 Ψ (n1 + 1))) ∧ ((True) ∧ ((otP 1) ∧ (((True) ∧ ((True) ∧ ((True) ∧ ((True) ∧ ((QK s143c2_K (s143c2 Ψ (s143l1_G (s143l1 Ψ n1)))) ∧ ((True) ∧ ((QK s143c3_K (s143c3 Ψ (s143l1_G (s143l1 Ψ n1)))) ∧ (otP 3)))))))) ∧ (True))))))) ∧ (otP 1)))) (⟨trivial, ⟨⟨trivial, ⟨fun _ _ _ _ H => H, fun _ => ⟨oI, ⟨trivial, ⟨otP_ok 1, ⟨⟨trivial, ⟨trivial, ⟨trivial, ⟨trivial, ⟨oI, ⟨trivial, ⟨oI, otP_ok 3⟩⟩⟩⟩⟩⟩⟩, trivial⟩⟩⟩⟩⟩⟩, otP_ok 1⟩⟩))
 (Eq.mpr (by as_aux_lemma => kernel_rfl : evF prog f143 (s143_A Ψ) Ψ [(.str name)] h = s143 Ψ name h) H)

/- 158 slices.IndexFunc[[]string,string] -/
abbrev s158l1_T := AVal → AVal → Int → Int → Heap → Prop
abbrev s158l1_K : List Kd := [.any, .any, .int .i64, .int .i64]
def s158l1_G (F : s158l1_T) : s158l1_T := GK s158l1_K F
def s158l1_E (F : Nat → s158l1_T) : s158l1_T := EK s158l1_K F
theorem s158l1_go {F : s158l1_T} {x0 x1 : AVal} {x2 x3 : Int} {h : Heap} (H : F x0 x1 x2 x3 h) : s158l1_G F x0 x1 x2 x3 h := gJ_plain rfl H
theorem s158l1_in {F : Nat → s158l1_T} {x0 x1 : AVal} {x2 x3 : Int} {h : Heap} (n : Nat) (H : F n x0 x1 x2 x3 h) : s158l1_E F x0 x1 x2 x3 h := gJ_plain rfl ⟨n, H⟩

def s158l1 (Ψ : AVal → Heap → Prop) : Nat → s158l1_T
 | 0, _, _, _, _, _ => False
 | n1 + 1, s1, f1, t7, t8, h =>
 ifT (decide (t8 < t7)) (
 ixS 1 s1 t8 fun p =>
 ld1 h p fun v =>
 tStr v fun v1 =>
 callV prog f1 [(.str v1)] h fun v2 h_ =>
 tBool v2 fun v3 =>
 ifT v3 (
 retG (.int .i64 t8) h_ Ψ) (
 rg (t8 + 1) (
 s158l1_G (s158l1 Ψ n1) s1 f1 t7 (t8 + 1) h_))) (
 retG (.int .i64 (-1)) h Ψ)

def s158 (Ψ : AVal → Heap → Prop) (s : AVal) (f : AVal) (h : Heap) : Prop :=
 lenN s fun n =>
 s158l1_E (s158l1 Ψ) s f n 0 h

def s158_A (Ψ : AVal → Heap → Prop) : Ann :=
 .seq (rA 1)
 (.seq (.seq (rA 3)
 (.block (loopK [0, 1, 7, 8] s158l1_K (s158l1 Ψ) (fun L1 =>
 .seq (rA 1)
 (.seq (.cond (.leaf)
 (.leaf))
 (.seq (.block (.seq (rA 2)
 (.seq (rA 6)
 (.cond (.seq (rA 2)
 (.leaf))
 (.leaf)))))
 (rA 2)))))))
 (.seq (rA 1)
 (.leaf)))

theorem s158_ok {Ψ : AVal → Heap → Prop} {s : AVal} {f : AVal} {h : Heap} (H : s158 Ψ s f h) : ACalls prog 158 [s, f] h Ψ :=
 calls_of_evF func158 (by kernel_rfl) (by kernel_rfl) (by kernel_rfl)
 (Eq.mpr (by as_aux_lemma => kernel_rfl : oblF prog f158 (s158_A Ψ) Ψ = ((True) ∧ (((True) ∧ ((NK s158l1_K (s158l1 Ψ 0)) ∧ (∀ n1 : Nat, (QK s158l1_K (s158l1 Ψ (n1 + 1))) ∧ (otP 6861)))) ∧ (otP 1)))) (⟨trivial, ⟨⟨trivial, ⟨fun _ _ _ _ _ H => H, fun _ => ⟨oI, otP_ok 6861⟩⟩⟩, otP_ok 1⟩⟩))
 (Eq.mpr (by as_aux_lemma => kernel_rfl : evF prog f158 (s158_A Ψ) Ψ [s, f] h = s158 Ψ s f h) H)

end Go.Proofs.YtljglglbfcgjpaaGreat

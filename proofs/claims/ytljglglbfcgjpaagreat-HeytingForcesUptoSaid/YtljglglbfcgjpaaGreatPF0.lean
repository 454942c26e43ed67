/- The functions that the proof meets, each as a text that Lean has checked against the program. No condition. -/
import Derived.Test.YtljglglbfcgjpaaGreatM3
import Derived.Test.YtljglglbfcgjpaaGreatChecked
namespace Go.Proofs.YtljglglbfcgjpaaGreat
open Go Go.Sym Go.Proofs.Tryz
set_option maxRecDepth 100000
set_option linter.unusedVariables false

/- 5 dictum/dictumlaw23.HeytingForces -/
abbrev s5l2_T := AVal → Int → AVal → AVal → AVal → AVal → AVal → Int → Int → Heap → Prop
def s5l2_R (F : s5l2_T) (l : List AVal) (h : Heap) : Prop := J.cons l fun x0 l => J.ci .i64 l fun x1 l => J.cons l fun x2 l => J.cons l fun x3 l => J.cons l fun x4 l => J.cons l fun x5 l => J.cons l fun x6 l => J.ci .i64 l fun x7 l => J.ci .i64 l fun x8 l => J.nil l (F x0 x1 x2 x3 x4 x5 x6 x7 x8 h)
def s5l2_G (F : s5l2_T) (x0 : AVal) (x1 : Int) (x2 x3 x4 x5 x6 : AVal) (x7 x8 : Int) (h : Heap) : Prop := gJ [.any, .int .i64, .any, .any, .any, .any, .any, .int .i64, .int .i64] [x0, (.int .i64 x1), x2, x3, x4, x5, x6, (.int .i64 x7), (.int .i64 x8)] h (s5l2_R F)
def s5l2_E (F : Nat → s5l2_T) (x0 : AVal) (x1 : Int) (x2 x3 x4 x5 x6 : AVal) (x7 x8 : Int) (h : Heap) : Prop := gJ [.any, .int .i64, .any, .any, .any, .any, .any, .int .i64, .int .i64] [x0, (.int .i64 x1), x2, x3, x4, x5, x6, (.int .i64 x7), (.int .i64 x8)] h (fun l h => ∃ n, s5l2_R (F n) l h)
theorem s5l2_go {F : s5l2_T} {x0 : AVal} {x1 : Int} {x2 x3 x4 x5 x6 : AVal} {x7 x8 : Int} {h : Heap} (H : F x0 x1 x2 x3 x4 x5 x6 x7 x8 h) : s5l2_G F x0 x1 x2 x3 x4 x5 x6 x7 x8 h := gJ_plain rfl H
theorem s5l2_in {F : Nat → s5l2_T} {x0 : AVal} {x1 : Int} {x2 x3 x4 x5 x6 : AVal} {x7 x8 : Int} {h : Heap} (n : Nat) (H : F n x0 x1 x2 x3 x4 x5 x6 x7 x8 h) : s5l2_E F x0 x1 x2 x3 x4 x5 x6 x7 x8 h := gJ_plain rfl ⟨n, H⟩

def s5c3 (Ψ : AVal → Heap → Prop) (L2 : s5l2_T) (rows3 : AVal) (id_3 : Int) (m2 t2 a2 l_21 by_2 : AVal) (low1 i1 : Int) (h : Heap) : Prop :=
 rg (i1 + 1) (
 L2 rows3 id_3 m2 t2 a2 l_21 by_2 low1 (i1 + 1) h)

abbrev s5l4_T := AVal → Int → AVal → AVal → AVal → AVal → AVal → Int → Int → Bool → Int → Heap → Prop
def s5l4_R (F : s5l4_T) (l : List AVal) (h : Heap) : Prop := J.cons l fun x0 l => J.ci .i64 l fun x1 l => J.cons l fun x2 l => J.cons l fun x3 l => J.cons l fun x4 l => J.cons l fun x5 l => J.cons l fun x6 l => J.ci .i64 l fun x7 l => J.ci .i64 l fun x8 l => J.cb l fun x9 l => J.ci .i64 l fun x10 l => J.nil l (F x0 x1 x2 x3 x4 x5 x6 x7 x8 x9 x10 h)
def s5l4_G (F : s5l4_T) (x0 : AVal) (x1 : Int) (x2 x3 x4 x5 x6 : AVal) (x7 x8 : Int) (x9 : Bool) (x10 : Int) (h : Heap) : Prop := gJ [.any, .int .i64, .any, .any, .any, .any, .any, .int .i64, .int .i64, .bool, .int .i64] [x0, (.int .i64 x1), x2, x3, x4, x5, x6, (.int .i64 x7), (.int .i64 x8), (.bool x9), (.int .i64 x10)] h (s5l4_R F)
def s5l4_E (F : Nat → s5l4_T) (x0 : AVal) (x1 : Int) (x2 x3 x4 x5 x6 : AVal) (x7 x8 : Int) (x9 : Bool) (x10 : Int) (h : Heap) : Prop := gJ [.any, .int .i64, .any, .any, .any, .any, .any, .int .i64, .int .i64, .bool, .int .i64] [x0, (.int .i64 x1), x2, x3, x4, x5, x6, (.int .i64 x7), (.int .i64 x8), (.bool x9), (.int .i64 x10)] h (fun l h => ∃ n, s5l4_R (F n) l h)
theorem s5l4_go {F : s5l4_T} {x0 : AVal} {x1 : Int} {x2 x3 x4 x5 x6 : AVal} {x7 x8 : Int} {x9 : Bool} {x10 : Int} {h : Heap} (H : F x0 x1 x2 x3 x4 x5 x6 x7 x8 x9 x10 h) : s5l4_G F x0 x1 x2 x3 x4 x5 x6 x7 x8 x9 x10 h := gJ_plain rfl H
theorem s5l4_in {F : Nat → s5l4_T} {x0 : AVal} {x1 : Int} {x2 x3 x4 x5 x6 : AVal} {x7 x8 : Int} {x9 : Bool} {x10 : Int} {h : Heap} (n : Nat) (H : F n x0 x1 x2 x3 x4 x5 x6 x7 x8 x9 x10 h) : s5l4_E F x0 x1 x2 x3 x4 x5 x6 x7 x8 x9 x10 h := gJ_plain rfl ⟨n, H⟩

def s5c5 (Ψ : AVal → Heap → Prop) (L2 : s5l2_T) (L4 : s5l4_T) (rows5 : AVal) (id_5 : Int) (m4 t4 a4 l_23 by_4 : AVal) (low3 i3 : Int) (there1 : Bool) (k1 : Int) (h : Heap) : Prop :=
 rg (k1 + 1) (
 L4 rows5 id_5 m4 t4 a4 l_23 by_4 low3 i3 there1 (k1 + 1) h)

def s5l4 (Ψ : AVal → Heap → Prop) (L2 : s5l2_T) : Nat → s5l4_T
 | 0, _, _, _, _, _, _, _, _, _, _, _, _ => False
 | n2 + 1, rows4, id_4, m3, t3, a3, l_22, by_3, low2, i2, there, k, h =>
 lenN by_3 fun n3 =>
 ifT (decide (k < n3)) (
 ifT there (
 s5c5 Ψ L2 (s5l4_G (s5l4 Ψ L2 n2)) rows4 id_4 m3 t3 a3 l_22 by_3 low2 i2 true k h) (
 ixS 2 by_3 k fun p2 =>
 addOff p2 0 fun p3 =>
 ld1 h p3 fun v27 =>
 tStr v27 fun v28 =>
 ixS 4 rows4 i2 fun p4 =>
 addOff p4 1 fun p5 =>
 ld1 h p5 fun v29 =>
 tStr v29 fun v30 =>
 s5c5 Ψ L2 (s5l4_G (s5l4 Ψ L2 n2)) rows4 id_4 m3 t3 a3 l_22 by_3 low2 i2 (strEq v28 v30) k h)) (
 ifT (!there) (
 ixS 4 rows4 i2 fun p6 =>
 addOff p6 1 fun p7 =>
 ld1 h p7 fun v31 =>
 tStr v31 fun v32 =>
 appC 2 24 h by_3 (.lsl 2 [(.agg [(.str v32), (.int .i64 low2)])]) fun v33 h_7 =>
 s5c3 Ψ L2 rows4 id_4 m3 t3 a3 l_22 v33 low2 i2 h_7) (
 s5c3 Ψ L2 rows4 id_4 m3 t3 a3 l_22 by_3 low2 i2 h))

abbrev s5l7_T := Int → AVal → AVal → AVal → Int → AVal → Int → Heap → Prop
def s5l7_R (F : s5l7_T) (l : List AVal) (h : Heap) : Prop := J.ci .i64 l fun x0 l => J.cons l fun x1 l => J.cons l fun x2 l => J.cons l fun x3 l => J.ci .i64 l fun x4 l => J.cons l fun x5 l => J.ci .i64 l fun x6 l => J.nil l (F x0 x1 x2 x3 x4 x5 x6 h)
def s5l7_G (F : s5l7_T) (x0 : Int) (x1 x2 x3 : AVal) (x4 : Int) (x5 : AVal) (x6 : Int) (h : Heap) : Prop := gJ [.int .i64, .any, .any, .any, .int .i64, .any, .int .i64] [(.int .i64 x0), x1, x2, x3, (.int .i64 x4), x5, (.int .i64 x6)] h (s5l7_R F)
def s5l7_E (F : Nat → s5l7_T) (x0 : Int) (x1 x2 x3 : AVal) (x4 : Int) (x5 : AVal) (x6 : Int) (h : Heap) : Prop := gJ [.int .i64, .any, .any, .any, .int .i64, .any, .int .i64] [(.int .i64 x0), x1, x2, x3, (.int .i64 x4), x5, (.int .i64 x6)] h (fun l h => ∃ n, s5l7_R (F n) l h)
theorem s5l7_go {F : s5l7_T} {x0 : Int} {x1 x2 x3 : AVal} {x4 : Int} {x5 : AVal} {x6 : Int} {h : Heap} (H : F x0 x1 x2 x3 x4 x5 x6 h) : s5l7_G F x0 x1 x2 x3 x4 x5 x6 h := gJ_plain rfl H
theorem s5l7_in {F : Nat → s5l7_T} {x0 : Int} {x1 x2 x3 : AVal} {x4 : Int} {x5 : AVal} {x6 : Int} {h : Heap} (n : Nat) (H : F n x0 x1 x2 x3 x4 x5 x6 h) : s5l7_E F x0 x1 x2 x3 x4 x5 x6 h := gJ_plain rfl ⟨n, H⟩

def s5c8 (Ψ : AVal → Heap → Prop) (L7 : s5l7_T) (id_8 : Int) (m7 t7 l_31 : AVal) (x2 : Int) (on1 : AVal) (w1 : Int) (h : Heap) : Prop :=
 rg (w1 + 1) (
 L7 id_8 m7 t7 l_31 x2 on1 (w1 + 1) h)

def s5l7 (Ψ : AVal → Heap → Prop) : Nat → s5l7_T
 | 0, _, _, _, _, _, _, _, _ => False
 | n5 + 1, id_7, m6, t6, l_30, x1, on, w, h =>
 addOff m6 0 fun p8 =>
 ld1 h p8 fun v40 =>
 lenN v40 fun n6 =>
 ifT (decide (w < n6)) (
 ldN 2 h m6 fun l_32 =>
 tCons l_32 fun v41 l_33 =>
 tCons l_33 fun v42 l_34 =>
 tNil l_34 (
 callG prog 26 [t6, (.agg [v41, v42]), (.int .i64 w), (.int .i64 id_7)] h fun v43 h_9 =>
 tTup v43 fun l_35 =>
 tCons l_35 fun v44 l_36 =>
 tBool v44 fun v45 =>
 tCons l_36 fun v46 l_37 =>
 tInt .i64 v46 fun v47 =>
 tNil l_37 (
 ifT (v47 != 0) (
 retG (.bool false) h_9 Ψ) (
 ifT v45 (
 appC 1 8 h_9 on (.lsl 1 [(.int .i64 w)]) fun v48 h_10 =>
 s5c8 Ψ (s5l7_G (s5l7 Ψ n5)) id_7 m6 t6 l_30 x1 v48 w h_10) (
 s5c8 Ψ (s5l7_G (s5l7 Ψ n5)) id_7 m6 t6 l_30 x1 on w h_9))))) (
 ixS 1 l_30 x1 fun p9 =>
 ld1 h p9 fun v49 =>
 callG prog 18 [on, v49] h fun v50 h_11 =>
 tBool v50 fun v51 =>
 ifT v51 (
 callG prog 19 [] h_11 fun v52 h_12 =>
 tBool v52 fun v53 =>
 retG (.bool v53) h_12 Ψ) (
 retG (.bool false) h_11 Ψ))

def s5c6 (Ψ : AVal → Heap → Prop) (id_6 : Int) (m5 t5 l_29 : AVal) (x : Int) (t135 : Bool) (h : Heap) : Prop :=
 ifT t135 (
 retG (.bool false) h Ψ) (
 s5l7_E (s5l7 Ψ) id_6 m5 t5 l_29 x .nilsl 0 h)

def s5l2 (Ψ : AVal → Heap → Prop) : Nat → s5l2_T
 | 0, _, _, _, _, _, _, _, _, _, _ => False
 | n + 1, rows2, id_2, m1, t1, a1, l_20, by_1, low, i, h =>
 lenN rows2 fun n1 =>
 ifT (decide (i < n1)) (
 ixS 4 rows2 i fun p =>
 addOff p 0 fun p1 =>
 ld1 h p1 fun v25 =>
 tInt .i64 v25 fun v26 =>
 s5l4_E (s5l4 Ψ (s5l2_G (s5l2 Ψ n))) rows2 id_2 m1 t1 a1 l_20 by_1 low i (v26 != 1) 0 h) (
 ldN 1 h a1 fun l_24 =>
 tCons l_24 fun v34 l_25 =>
 tNil l_25 (
 callG prog 21 [(.agg [v34]), t1, (.int .i64 id_2), by_1] h fun v35 h_8 =>
 tTup v35 fun l_26 =>
 tCons l_26 fun v36 l_27 =>
 tInt .i64 v36 fun v37 =>
 tCons l_27 fun v38 l_28 =>
 tInt .i64 v38 fun v39 =>
 tNil l_28 (
 ifT (v39 != 0) (
 s5c6 Ψ id_2 m1 t1 l_20 v37 true h_8) (
 ifT (decide (v37 < 0)) (
 s5c6 Ψ id_2 m1 t1 l_20 v37 true h_8) (
 lenN l_20 fun n8 =>
 s5c6 Ψ id_2 m1 t1 l_20 v37 (decide (n8 ≤ v37)) h_8)))))

def s5c1 (Ψ : AVal → Heap → Prop) (rows1 : AVal) (id_1 : Int) (m t a l_13 : AVal) (e : Int) (by_ : AVal) (f : Int) (t59 : Bool) (h : Heap) : Prop :=
 ifT t59 (
 ifT (e == f) (
 callG prog 19 [] h fun v15 h_5 =>
 tBool v15 fun v16 =>
 retG (.bool v16) h_5 Ψ) (
 retG (.bool false) h Ψ)) (
 ldN 1 h a fun l_14 =>
 tCons l_14 fun v17 l_15 =>
 tNil l_15 (
 callG prog 25 [(.agg [v17])] h fun v18 h_6 =>
 tTup v18 fun l_16 =>
 tCons l_16 fun v19 l_17 =>
 tInt .i64 v19 fun v20 =>
 tCons l_17 fun v21 l_18 =>
 tInt .i64 v21 fun v22 =>
 tCons l_18 fun v23 l_19 =>
 tInt .i64 v23 fun v24 =>
 tNil l_19 (
 s5l2_E (s5l2 Ψ) rows1 id_1 m t a l_13 by_ v20 0 h_6)))

def s5 (Ψ : AVal → Heap → Prop) (m_Up : AVal) (m_Val : AVal) (rows : AVal) (id_ : Int) (h : Heap) : Prop :=
 callG prog 20 [rows] h fun v h_ =>
 tTup v fun l_ =>
 tCons l_ fun v1 l_1 =>
 tCons l_1 fun v2 l_2 =>
 tCons l_2 fun v3 l_3 =>
 tBool v3 fun v4 =>
 tNil l_3 (
 callG prog 6 [(.agg [m_Up, m_Val])] h_ fun v5 h_1 =>
 tTup v5 fun l_4 =>
 tCons l_4 fun v6 l_5 =>
 tCons l_5 fun v7 l_6 =>
 tCons l_6 fun v8 l_7 =>
 tInt .i64 v8 fun v9 =>
 tNil l_7 (
 tAgg v6 fun l_8 =>
 tCons l_8 fun v10 l_9 =>
 tNil l_9 (
 Sym.newRow 1 [(.agg [.nilsl])] h_1 fun r h_2 =>
 st false h_2 (.ptr r 0 0) [v10] fun h_3 =>
 callG prog 10 [(.agg [m_Up, m_Val])] h_3 fun v11 h_4 =>
 tTup v11 fun l_10 =>
 tCons l_10 fun v12 l_11 =>
 tCons l_11 fun v13 l_12 =>
 tInt .i64 v13 fun v14 =>
 tNil l_12 (
 ifT (!v4) (
 s5c1 Ψ rows id_ (.lptr [m_Up, m_Val]) v1 (.ptr r 0 0) v7 v9 v12 v14 true h_4) (
 callG prog 24 [v2, (.int .i64 id_)] h_4 fun v54 h_13 =>
 tBool v54 fun v55 =>
 ifT (!v55) (
 s5c1 Ψ rows id_ (.lptr [m_Up, m_Val]) v1 (.ptr r 0 0) v7 v9 v12 v14 true h_13) (
 ifT (v9 != 0) (
 s5c1 Ψ rows id_ (.lptr [m_Up, m_Val]) v1 (.ptr r 0 0) v7 v9 v12 v14 true h_13) (
 s5c1 Ψ rows id_ (.lptr [m_Up, m_Val]) v1 (.ptr r 0 0) v7 v9 v12 v14 (v14 != 0) h_13)))))))

def s5_A (Ψ : AVal → Heap → Prop) : Ann :=
 .seq (.reg [⟨none, [(0, true), (1, false)]⟩])
 (.seq (rA 9)
 (.seq (rA 10)
 (.seq (rA 7)
 (.seq (.cut [(1, .any), (2, .int .i64), (3, .any), (7, .any), (10, .any), (11, .any), (12, .int .i64), (13, .any), (14, .int .i64), (59, .bool)] (fun l h => J.cons l fun x0 l => J.ci .i64 l fun x1 l => J.cons l fun x2 l => J.cons l fun x3 l => J.cons l fun x4 l => J.cons l fun x5 l => J.ci .i64 l fun x6 l => J.cons l fun x7 l => J.ci .i64 l fun x8 l => J.cb l fun x9 l => J.nil l (s5c1 Ψ x0 x1 x2 x3 x4 x5 x6 x7 x8 x9 h)) (.reg [⟨none, [(0, false), (1, false), (2, false)]⟩, ⟨some (46, false), [(3, false), (4, false), (5, false), (6, false)]⟩, ⟨none, [(7, false), (8, false)]⟩, ⟨some (52, false), [(9, false), (10, false)]⟩, ⟨none, [(11, false), (12, false)]⟩, ⟨some (56, false), [(13, false), (14, false)]⟩, ⟨none, [(15, false)]⟩])
 (.cond (.seq (.reg [⟨none, [(0, false), (1, false), (2, false), (3, false)]⟩, ⟨some (63, true), [(4, false)]⟩, ⟨none, [(5, false), (6, false)]⟩])
 (.leaf))
 (.leaf)))
 (.seq (rA 9)
 (.seq (.seq (rA 1)
 (.block (.loop [(1, .any), (2, .int .i64), (3, .any), (7, .any), (10, .any), (11, .any), (13, .any), (15, .int .i64), (18, .int .i64)] (fun n l h => s5l2_R (s5l2 Ψ n) l h) (fun L2 =>
 .seq (.seq (rA 4)
 (.cond (.leaf)
 (.leaf)))
 (.cut [(1, .any), (2, .int .i64), (3, .any), (7, .any), (10, .any), (11, .any), (13, .any), (15, .int .i64), (18, .int .i64)] (fun l h => J.cons l fun x0 l => J.ci .i64 l fun x1 l => J.cons l fun x2 l => J.cons l fun x3 l => J.cons l fun x4 l => J.cons l fun x5 l => J.cons l fun x6 l => J.ci .i64 l fun x7 l => J.ci .i64 l fun x8 l => J.nil l (s5c3 Ψ (fun y0 y1 y2 y3 y4 y5 y6 y7 y8 h => L2 [y0, (.int .i64 y1), y2, y3, y4, y5, y6, (.int .i64 y7), (.int .i64 y8)] h) x0 x1 x2 x3 x4 x5 x6 x7 x8 h)) (.block (.seq (rA 7)
 (.seq (.seq (rA 1)
 (.block (.loop [(1, .any), (2, .int .i64), (3, .any), (7, .any), (10, .any), (11, .any), (13, .any), (15, .int .i64), (18, .int .i64), (19, .bool), (20, .int .i64)] (fun n l h => s5l4_R (s5l4 Ψ (fun y0 y1 y2 y3 y4 y5 y6 y7 y8 h => L2 [y0, (.int .i64 y1), y2, y3, y4, y5, y6, (.int .i64 y7), (.int .i64 y8)] h) n) l h) (fun L4 =>
 .seq (.seq (rA 4)
 (.cond (.leaf)
 (.leaf)))
 (.cut [(1, .any), (2, .int .i64), (3, .any), (7, .any), (10, .any), (11, .any), (13, .any), (15, .int .i64), (18, .int .i64), (19, .bool), (20, .int .i64)] (fun l h => J.cons l fun x0 l => J.ci .i64 l fun x1 l => J.cons l fun x2 l => J.cons l fun x3 l => J.cons l fun x4 l => J.cons l fun x5 l => J.cons l fun x6 l => J.ci .i64 l fun x7 l => J.ci .i64 l fun x8 l => J.cb l fun x9 l => J.ci .i64 l fun x10 l => J.nil l (s5c5 Ψ (fun y0 y1 y2 y3 y4 y5 y6 y7 y8 h => L2 [y0, (.int .i64 y1), y2, y3, y4, y5, y6, (.int .i64 y7), (.int .i64 y8)] h) (fun y0 y1 y2 y3 y4 y5 y6 y7 y8 y9 y10 h => L4 [y0, (.int .i64 y1), y2, y3, y4, y5, y6, (.int .i64 y7), (.int .i64 y8), (.bool y9), (.int .i64 y10)] h) x0 x1 x2 x3 x4 x5 x6 x7 x8 x9 x10 h)) (.block (.draw [(0, false), (1, false), (2, false), (3, false), (4, false), (5, false), (6, false), (7, false), (8, false), (9, false), (10, false), (11, false), (12, false), (13, false), (14, false)] [0, 1, 3, 3, 15, 31, 63, 3, 3, 387, 899, 1923, 4095, 8191, 16383]))
 (rA 3))))))
 (.seq (rA 2)
 (.cond (.reg [⟨none, [(0, false), (1, false), (2, false), (3, false), (4, false), (5, false), (6, false), (7, false), (8, true), (9, false), (10, false)]⟩])
 (.leaf))))))
 (rA 3))))))
 (.seq (rA 10)
 (.seq (.cut [(2, .int .i64), (3, .any), (7, .any), (11, .any), (21, .int .i64), (135, .bool)] (fun l h => J.ci .i64 l fun x0 l => J.cons l fun x1 l => J.cons l fun x2 l => J.cons l fun x3 l => J.ci .i64 l fun x4 l => J.cb l fun x5 l => J.nil l (s5c6 Ψ x0 x1 x2 x3 x4 x5 h)) (.reg [⟨none, [(0, false), (1, false), (2, false)]⟩, ⟨some (126, false), [(3, false), (4, false)]⟩, ⟨none, [(5, false), (6, false)]⟩, ⟨some (130, false), [(7, false), (8, false), (9, false), (10, false)]⟩, ⟨none, [(11, false)]⟩])
 (.cond (.seq (rA 1)
 (.leaf))
 (.leaf)))
 (.seq (rA 1)
 (.seq (.seq (rA 1)
 (.block (.loop [(2, .int .i64), (3, .any), (7, .any), (11, .any), (21, .int .i64), (23, .any), (24, .int .i64)] (fun n l h => s5l7_R (s5l7 Ψ n) l h) (fun L7 =>
 .seq (.seq (rA 5)
 (.cond (.leaf)
 (.leaf)))
 (.cut [(2, .int .i64), (3, .any), (7, .any), (11, .any), (21, .int .i64), (23, .any), (24, .int .i64)] (fun l h => J.ci .i64 l fun x0 l => J.cons l fun x1 l => J.cons l fun x2 l => J.cons l fun x3 l => J.ci .i64 l fun x4 l => J.cons l fun x5 l => J.ci .i64 l fun x6 l => J.nil l (s5c8 Ψ (fun y0 y1 y2 y3 y4 y5 y6 h => L7 [(.int .i64 y0), y1, y2, y3, (.int .i64 y4), y5, (.int .i64 y6)] h) x0 x1 x2 x3 x4 x5 x6 h)) (.block (.seq (rA 10)
 (.seq (.seq (rA 2)
 (.cond (.seq (rA 1)
 (.leaf))
 (.leaf)))
 (.seq (rA 1)
 (.cond (.reg [⟨none, [(0, false), (1, false), (2, true), (3, false), (4, false)]⟩])
 (.leaf))))))
 (rA 3))))))
 (.seq (.reg [⟨none, [(0, false), (1, false), (2, false), (3, false), (4, false), (5, false), (6, false)]⟩, ⟨some (164, true), [(7, false)]⟩, ⟨none, [(8, false), (9, false)]⟩])
 (.leaf))))))))))))

theorem s5_ok {Ψ : AVal → Heap → Prop} {m_Up : AVal} {m_Val : AVal} {rows : AVal} {id_ : Int} {h : Heap} (H : s5 Ψ m_Up m_Val rows id_ h) : ACalls prog 5 [(.agg [m_Up, m_Val]), rows, (.int .i64 id_)] h Ψ :=
 calls_of_evF func5 (by kernel_rfl) (by kernel_rfl) (by kernel_rfl)
 (Eq.mpr (by as_aux_lemma => kernel_rfl : oblF prog f5 (s5_A Ψ) Ψ = ((True) ∧ ((True) ∧ ((True) ∧ ((True) ∧ (((True) ∧ ((∀ (h : Heap) (x0 : AVal) (x1 : Int) (x2 x3 x4 x5 : AVal) (x6 : Int) (x7 : AVal) (x8 : Int) (x9 : Bool), OI (s5c1 Ψ x0 x1 x2 x3 x4 x5 x6 x7 x8 x9 h)) ∧ (otP 3))) ∧ ((True) ∧ (((True) ∧ ((∀ (h : Heap) (x0 : AVal) (x1 : Int) (x2 x3 x4 x5 x6 : AVal) (x7 x8 : Int), ON (s5l2 Ψ 0 x0 x1 x2 x3 x4 x5 x6 x7 x8 h)) ∧ (∀ n2 : Nat, (∀ (h : Heap) (x0 : AVal) (x1 : Int) (x2 x3 x4 x5 x6 : AVal) (x7 x8 : Int), OI (s5l2 Ψ (n2 + 1) x0 x1 x2 x3 x4 x5 x6 x7 x8 h)) ∧ ((otP 5) ∧ (((True) ∧ (((True) ∧ ((∀ (h : Heap) (x0 : AVal) (x1 : Int) (x2 x3 x4 x5 x6 : AVal) (x7 x8 : Int) (x9 : Bool) (x10 : Int), ON (s5l4 Ψ (s5l2_G (s5l2 Ψ n2)) 0 x0 x1 x2 x3 x4 x5 x6 x7 x8 x9 x10 h)) ∧ (∀ n4 : Nat, (∀ (h : Heap) (x0 : AVal) (x1 : Int) (x2 x3 x4 x5 x6 : AVal) (x7 x8 : Int) (x9 : Bool) (x10 : Int), OI (s5l4 Ψ (s5l2_G (s5l2 Ψ n2)) (n4 + 1) x0 x1 x2 x3 x4 x5 x6 x7 x8 x9 x10 h)) ∧ ((otP 5) ∧ ((True) ∧ ((∀ (h : Heap) (x0 : AVal) (x1 : Int) (x2 x3 x4 x5 x6 : AVal) (x7 x8 : Int) (x9 : Bool) (x10 : Int), OI (s5c5 Ψ (s5l2_G (s5l2 Ψ n2)) (s5l4_G (s5l4 Ψ (s5l2_G (s5l2 Ψ n2)) n4)) x0 x1 x2 x3 x4 x5 x6 x7 x8 x9 x10 h)) ∧ (True))))))) ∧ (otP 5))) ∧ ((∀ (h : Heap) (x0 : AVal) (x1 : Int) (x2 x3 x4 x5 x6 : AVal) (x7 x8 : Int), OI (s5c3 Ψ (s5l2_G (s5l2 Ψ n2)) x0 x1 x2 x3 x4 x5 x6 x7 x8 h)) ∧ (True))))))) ∧ ((True) ∧ (((True) ∧ ((∀ (h : Heap) (x0 : Int) (x1 x2 x3 : AVal) (x4 : Int) (x5 : Bool), OI (s5c6 Ψ x0 x1 x2 x3 x4 x5 h)) ∧ (otP 3))) ∧ ((True) ∧ (((True) ∧ ((∀ (h : Heap) (x0 : Int) (x1 x2 x3 : AVal) (x4 : Int) (x5 : AVal) (x6 : Int), ON (s5l7 Ψ 0 x0 x1 x2 x3 x4 x5 x6 h)) ∧ (∀ n7 : Nat, (∀ (h : Heap) (x0 : Int) (x1 x2 x3 : AVal) (x4 : Int) (x5 : AVal) (x6 : Int), OI (s5l7 Ψ (n7 + 1) x0 x1 x2 x3 x4 x5 x6 h)) ∧ ((otP 5) ∧ ((otP 5229) ∧ ((∀ (h : Heap) (x0 : Int) (x1 x2 x3 : AVal) (x4 : Int) (x5 : AVal) (x6 : Int), OI (s5c8 Ψ (s5l7_G (s5l7 Ψ n7)) x0 x1 x2 x3 x4 x5 x6 h)) ∧ (True))))))) ∧ (otP 1))))))))))))) (⟨trivial, ⟨trivial, ⟨trivial, ⟨trivial, ⟨⟨trivial, ⟨fun _ _ _ _ _ _ _ _ _ _ _ H => H, otP_ok 3⟩⟩, ⟨trivial, ⟨⟨trivial, ⟨fun _ _ _ _ _ _ _ _ _ _ H => H, fun _ => ⟨fun _ _ _ _ _ _ _ _ _ _ H => H, ⟨otP_ok 5, ⟨⟨trivial, ⟨⟨trivial, ⟨fun _ _ _ _ _ _ _ _ _ _ _ _ H => H, fun _ => ⟨fun _ _ _ _ _ _ _ _ _ _ _ _ H => H, ⟨otP_ok 5, ⟨trivial, ⟨fun _ _ _ _ _ _ _ _ _ _ _ _ H => H, trivial⟩⟩⟩⟩⟩⟩, otP_ok 5⟩⟩, ⟨fun _ _ _ _ _ _ _ _ _ _ H => H, trivial⟩⟩⟩⟩⟩⟩, ⟨trivial, ⟨⟨trivial, ⟨fun _ _ _ _ _ _ _ H => H, otP_ok 3⟩⟩, ⟨trivial, ⟨⟨trivial, ⟨fun _ _ _ _ _ _ _ _ H => H, fun _ => ⟨fun _ _ _ _ _ _ _ _ H => H, ⟨otP_ok 5, ⟨otP_ok 5229, ⟨fun _ _ _ _ _ _ _ _ H => H, trivial⟩⟩⟩⟩⟩⟩, otP_ok 1⟩⟩⟩⟩⟩⟩⟩⟩⟩⟩⟩))
 (Eq.mpr (by as_aux_lemma => kernel_rfl : evF prog f5 (s5_A Ψ) Ψ [(.agg [m_Up, m_Val]), rows, (.int .i64 id_)] h = s5 Ψ m_Up m_Val rows id_ h) H)

/- 8 dictum/dictumref23.Same -/
abbrev s8l1_T := AVal → AVal → Int → Heap → Prop
def s8l1_R (F : s8l1_T) (l : List AVal) (h : Heap) : Prop := J.cons l fun x0 l => J.cons l fun x1 l => J.ci .i64 l fun x2 l => J.nil l (F x0 x1 x2 h)
def s8l1_G (F : s8l1_T) (x0 x1 : AVal) (x2 : Int) (h : Heap) : Prop := gJ [.any, .any, .int .i64] [x0, x1, (.int .i64 x2)] h (s8l1_R F)
def s8l1_E (F : Nat → s8l1_T) (x0 x1 : AVal) (x2 : Int) (h : Heap) : Prop := gJ [.any, .any, .int .i64] [x0, x1, (.int .i64 x2)] h (fun l h => ∃ n, s8l1_R (F n) l h)
theorem s8l1_go {F : s8l1_T} {x0 x1 : AVal} {x2 : Int} {h : Heap} (H : F x0 x1 x2 h) : s8l1_G F x0 x1 x2 h := gJ_plain rfl H
theorem s8l1_in {F : Nat → s8l1_T} {x0 x1 : AVal} {x2 : Int} {h : Heap} (n : Nat) (H : F n x0 x1 x2 h) : s8l1_E F x0 x1 x2 h := gJ_plain rfl ⟨n, H⟩

abbrev s8l2_T := AVal → AVal → Int → Int → Heap → Prop
def s8l2_R (F : s8l2_T) (l : List AVal) (h : Heap) : Prop := J.cons l fun x0 l => J.cons l fun x1 l => J.ci .i64 l fun x2 l => J.ci .i64 l fun x3 l => J.nil l (F x0 x1 x2 x3 h)
def s8l2_G (F : s8l2_T) (x0 x1 : AVal) (x2 x3 : Int) (h : Heap) : Prop := gJ [.any, .any, .int .i64, .int .i64] [x0, x1, (.int .i64 x2), (.int .i64 x3)] h (s8l2_R F)
def s8l2_E (F : Nat → s8l2_T) (x0 x1 : AVal) (x2 x3 : Int) (h : Heap) : Prop := gJ [.any, .any, .int .i64, .int .i64] [x0, x1, (.int .i64 x2), (.int .i64 x3)] h (fun l h => ∃ n, s8l2_R (F n) l h)
theorem s8l2_go {F : s8l2_T} {x0 x1 : AVal} {x2 x3 : Int} {h : Heap} (H : F x0 x1 x2 x3 h) : s8l2_G F x0 x1 x2 x3 h := gJ_plain rfl H
theorem s8l2_in {F : Nat → s8l2_T} {x0 x1 : AVal} {x2 x3 : Int} {h : Heap} (n : Nat) (H : F n x0 x1 x2 x3 h) : s8l2_E F x0 x1 x2 x3 h := gJ_plain rfl ⟨n, H⟩

def s8l2 (Ψ : AVal → Heap → Prop) (L1 : s8l1_T) : Nat → s8l2_T
 | 0, _, _, _, _, _ => False
 | n6 + 1, a1, b1, x1, y, h =>
 addOff a1 0 fun p5 =>
 ld1 h p5 fun v5 =>
 ixS 1 v5 x1 fun p6 =>
 ld1 h p6 fun v6 =>
 lenN v6 fun n7 =>
 ifT (decide (y < n7)) (
 addOff a1 0 fun p7 =>
 ld1 h p7 fun v7 =>
 ixS 1 v7 x1 fun p8 =>
 ld1 h p8 fun v8 =>
 ixS 1 v8 y fun p9 =>
 ld1 h p9 fun v9 =>
 tBool v9 fun v10 =>
 addOff b1 0 fun p10 =>
 ld1 h p10 fun v11 =>
 ixS 1 v11 x1 fun p11 =>
 ld1 h p11 fun v12 =>
 ixS 1 v12 y fun p12 =>
 ld1 h p12 fun v13 =>
 tBool v13 fun v14 =>
 eqQ prog 4 (.bool v10) (.bool v14) fun b2 =>
 ifT (!b2) (
 retG (.bool false) h Ψ) (
 rg (y + 1) (
 s8l2_G (s8l2 Ψ L1 n6) a1 b1 x1 (y + 1) h))) (
 rg (x1 + 1) (
 L1 a1 b1 (x1 + 1) h))

def s8l1 (Ψ : AVal → Heap → Prop) : Nat → s8l1_T
 | 0, _, _, _, _ => False
 | n2 + 1, a, b, x, h =>
 addOff a 0 fun p =>
 ld1 h p fun v =>
 lenN v fun n3 =>
 ifT (decide (x < n3)) (
 addOff a 0 fun p1 =>
 ld1 h p1 fun v1 =>
 ixS 1 v1 x fun p2 =>
 ld1 h p2 fun v2 =>
 lenN v2 fun n4 =>
 addOff b 0 fun p3 =>
 ld1 h p3 fun v3 =>
 ixS 1 v3 x fun p4 =>
 ld1 h p4 fun v4 =>
 lenN v4 fun n5 =>
 ifT (n4 != n5) (
 retG (.bool false) h Ψ) (
 s8l2_E (s8l2 Ψ (s8l1_G (s8l1 Ψ n2))) a b x 0 h)) (
 retG (.bool true) h Ψ)

def s8 (Ψ : AVal → Heap → Prop) (a_Leq : AVal) (b_Leq : AVal) (h : Heap) : Prop :=
 lenN a_Leq fun n =>
 lenN b_Leq fun n1 =>
 ifT (n != n1) (
 retG (.bool false) h Ψ) (
 s8l1_E (s8l1 Ψ) (.lptr [a_Leq]) (.lptr [b_Leq]) 0 h)

def s8_A (Ψ : AVal → Heap → Prop) : Ann :=
 .seq (.reg [⟨none, [(0, true), (1, true), (2, false)]⟩])
 (.seq (.seq (rA 7)
 (.cond (.seq (rA 1)
 (.leaf))
 (.leaf)))
 (.seq (.seq (rA 1)
 (.block (.loop [(2, .any), (3, .any), (5, .int .i64)] (fun n l h => s8l1_R (s8l1 Ψ n) l h) (fun L1 =>
 .seq (.seq (rA 5)
 (.cond (.leaf)
 (.leaf)))
 (.seq (.block (.seq (.seq (.draw [(0, false), (1, false), (2, false), (3, false), (4, false), (5, false), (6, false), (7, false), (8, false), (9, false), (10, false), (11, false), (12, false)] [0, 1, 0, 7, 15, 31, 0, 64, 0, 448, 960, 1984, 4095])
 (.cond (.seq (rA 1)
 (.leaf))
 (.leaf)))
 (.seq (rA 1)
 (.block (.loop [(2, .any), (3, .any), (5, .int .i64), (6, .int .i64)] (fun n l h => s8l2_R (s8l2 Ψ (fun y0 y1 y2 h => L1 [y0, y1, (.int .i64 y2)] h) n) l h) (fun L2 =>
 .seq (.seq (rA 8)
 (.cond (.leaf)
 (.leaf)))
 (.seq (.block (.seq (.draw [(0, false), (1, false), (2, false), (3, false), (4, false), (5, false), (6, false), (7, false), (8, false), (9, false), (10, false), (11, false), (12, false), (13, false), (14, false), (15, false), (16, false)] [0, 1, 0, 7, 15, 0, 63, 127, 0, 256, 0, 1792, 3840, 0, 16128, 32512, 65535])
 (.cond (.seq (rA 1)
 (.leaf))
 (.leaf))))
 (rA 3))))))))
 (rA 3))))))
 (.seq (rA 1)
 (.leaf))))

theorem s8_ok {Ψ : AVal → Heap → Prop} {a_Leq : AVal} {b_Leq : AVal} {h : Heap} (H : s8 Ψ a_Leq b_Leq h) : ACalls prog 8 [(.agg [a_Leq]), (.agg [b_Leq])] h Ψ :=
 calls_of_evF func8 (by kernel_rfl) (by kernel_rfl) (by kernel_rfl)
 (Eq.mpr (by as_aux_lemma => kernel_rfl : oblF prog f8 (s8_A Ψ) Ψ = ((True) ∧ ((otP 13) ∧ (((True) ∧ ((∀ (h : Heap) (x0 x1 : AVal) (x2 : Int), ON (s8l1 Ψ 0 x0 x1 x2 h)) ∧ (∀ n1 : Nat, (∀ (h : Heap) (x0 x1 : AVal) (x2 : Int), OI (s8l1 Ψ (n1 + 1) x0 x1 x2 h)) ∧ ((otP 5) ∧ (((otP 13) ∧ ((True) ∧ ((∀ (h : Heap) (x0 x1 : AVal) (x2 x3 : Int), ON (s8l2 Ψ (s8l1_G (s8l1 Ψ n1)) 0 x0 x1 x2 x3 h)) ∧ (∀ n2 : Nat, (∀ (h : Heap) (x0 x1 : AVal) (x2 x3 : Int), OI (s8l2 Ψ (s8l1_G (s8l1 Ψ n1)) (n2 + 1) x0 x1 x2 x3 h)) ∧ (otP 1739))))) ∧ (True)))))) ∧ (otP 1))))) (⟨trivial, ⟨otP_ok 13, ⟨⟨trivial, ⟨fun _ _ _ _ H => H, fun _ => ⟨fun _ _ _ _ H => H, ⟨otP_ok 5, ⟨⟨otP_ok 13, ⟨trivial, ⟨fun _ _ _ _ _ H => H, fun _ => ⟨fun _ _ _ _ _ H => H, otP_ok 1739⟩⟩⟩⟩, trivial⟩⟩⟩⟩⟩, otP_ok 1⟩⟩⟩))
 (Eq.mpr (by as_aux_lemma => kernel_rfl : evF prog f8 (s8_A Ψ) Ψ [(.agg [a_Leq]), (.agg [b_Leq])] h = s8 Ψ a_Leq b_Leq h) H)

/- 13 dictum/heyting.Primes -/
abbrev s13l1_T := AVal → AVal → AVal → Int → Int → Heap → Prop
def s13l1_R (F : s13l1_T) (l : List AVal) (h : Heap) : Prop := J.cons l fun x0 l => J.cons l fun x1 l => J.cons l fun x2 l => J.ci .i64 l fun x3 l => J.ci .i64 l fun x4 l => J.nil l (F x0 x1 x2 x3 x4 h)
def s13l1_G (F : s13l1_T) (x0 x1 x2 : AVal) (x3 x4 : Int) (h : Heap) : Prop := gJ [.any, .any, .any, .int .i64, .int .i64] [x0, x1, x2, (.int .i64 x3), (.int .i64 x4)] h (s13l1_R F)
def s13l1_E (F : Nat → s13l1_T) (x0 x1 x2 : AVal) (x3 x4 : Int) (h : Heap) : Prop := gJ [.any, .any, .any, .int .i64, .int .i64] [x0, x1, x2, (.int .i64 x3), (.int .i64 x4)] h (fun l h => ∃ n, s13l1_R (F n) l h)
theorem s13l1_go {F : s13l1_T} {x0 x1 x2 : AVal} {x3 x4 : Int} {h : Heap} (H : F x0 x1 x2 x3 x4 h) : s13l1_G F x0 x1 x2 x3 x4 h := gJ_plain rfl H
theorem s13l1_in {F : Nat → s13l1_T} {x0 x1 x2 : AVal} {x3 x4 : Int} {h : Heap} (n : Nat) (H : F n x0 x1 x2 x3 x4 h) : s13l1_E F x0 x1 x2 x3 x4 h := gJ_plain rfl ⟨n, H⟩

abbrev s13l2_T := AVal → AVal → AVal → Int → Int → Int → Int → Int → Heap → Prop
def s13l2_R (F : s13l2_T) (l : List AVal) (h : Heap) : Prop := J.cons l fun x0 l => J.cons l fun x1 l => J.cons l fun x2 l => J.ci .i64 l fun x3 l => J.ci .i64 l fun x4 l => J.ci .i64 l fun x5 l => J.ci .i64 l fun x6 l => J.ci .i64 l fun x7 l => J.nil l (F x0 x1 x2 x3 x4 x5 x6 x7 h)
def s13l2_G (F : s13l2_T) (x0 x1 x2 : AVal) (x3 x4 x5 x6 x7 : Int) (h : Heap) : Prop := gJ [.any, .any, .any, .int .i64, .int .i64, .int .i64, .int .i64, .int .i64] [x0, x1, x2, (.int .i64 x3), (.int .i64 x4), (.int .i64 x5), (.int .i64 x6), (.int .i64 x7)] h (s13l2_R F)
def s13l2_E (F : Nat → s13l2_T) (x0 x1 x2 : AVal) (x3 x4 x5 x6 x7 : Int) (h : Heap) : Prop := gJ [.any, .any, .any, .int .i64, .int .i64, .int .i64, .int .i64, .int .i64] [x0, x1, x2, (.int .i64 x3), (.int .i64 x4), (.int .i64 x5), (.int .i64 x6), (.int .i64 x7)] h (fun l h => ∃ n, s13l2_R (F n) l h)
theorem s13l2_go {F : s13l2_T} {x0 x1 x2 : AVal} {x3 x4 x5 x6 x7 : Int} {h : Heap} (H : F x0 x1 x2 x3 x4 x5 x6 x7 h) : s13l2_G F x0 x1 x2 x3 x4 x5 x6 x7 h := gJ_plain rfl H
theorem s13l2_in {F : Nat → s13l2_T} {x0 x1 x2 : AVal} {x3 x4 x5 x6 x7 : Int} {h : Heap} (n : Nat) (H : F n x0 x1 x2 x3 x4 x5 x6 x7 h) : s13l2_E F x0 x1 x2 x3 x4 x5 x6 x7 h := gJ_plain rfl ⟨n, H⟩

def s13c3 (Ψ : AVal → Heap → Prop) (L1 : s13l1_T) (L2 : s13l2_T) (t2_2 l_17 split2 : AVal) (x1 t40_2 t41_2 t45_1 t46_1 : Int) (h : Heap) : Prop :=
 rg (t46_1 + 1) (
 L2 t2_2 l_17 split2 x1 t40_2 t41_2 t45_1 (t46_1 + 1) h)

def s13c4 (Ψ : AVal → Heap → Prop) (L1 : s13l1_T) (L2 : s13l2_T) (t2_3 l_24 split3 : AVal) (x2 z t40_3 t41_3 t45_2 t46_2 : Int) (t63 : Bool) (h : Heap) : Prop :=
 ifT t63 (
 mapPut h split3 (.int .i64 z) (.int .i64 1) fun h_9 =>
 s13c3 Ψ L1 L2 t2_3 l_24 split3 x2 t40_3 t41_3 t45_2 t46_2 h_9) (
 s13c3 Ψ L1 L2 t2_3 l_24 split3 x2 t40_3 t41_3 t45_2 t46_2 h)

def s13l2 (Ψ : AVal → Heap → Prop) (L1 : s13l1_T) : Nat → s13l2_T
 | 0, _, _, _, _, _, _, _, _, _ => False
 | n1 + 1, t2_1, l_16, split1, x, t40_1, t41_1, t45, t46, h =>
 ifT (decide (t46 < t45)) (
 ldN 2 h l_16 fun l_18 =>
 tCons l_18 fun v21 l_19 =>
 tInt .i64 v21 fun v22 =>
 tCons l_19 fun v23 l_20 =>
 tNil l_20 (
 callG prog 37 [(.agg [(.int .i64 v22), v23]), (.int .i64 x), (.int .i64 t46)] h fun v24 h_8 =>
 tTup v24 fun l_21 =>
 tCons l_21 fun v25 l_22 =>
 tInt .i64 v25 fun v26 =>
 tCons l_22 fun v27 l_23 =>
 tBool v27 fun v28 =>
 tNil l_23 (
 ifT (v26 != x) (
 s13c4 Ψ L1 (s13l2_G (s13l2 Ψ L1 n1)) t2_1 l_16 split1 x v26 t40_1 t41_1 t45 t46 (v26 != t46) h_8) (
 s13c4 Ψ L1 (s13l2_G (s13l2 Ψ L1 n1)) t2_1 l_16 split1 x v26 t40_1 t41_1 t45 t46 false h_8)))) (
 rg (t41_1 + 1) (
 L1 t2_1 l_16 split1 t40_1 (t41_1 + 1) h))

abbrev s13l5_T := AVal → AVal → AVal → AVal → Int → Int → Heap → Prop
def s13l5_R (F : s13l5_T) (l : List AVal) (h : Heap) : Prop := J.cons l fun x0 l => J.cons l fun x1 l => J.cons l fun x2 l => J.cons l fun x3 l => J.ci .i64 l fun x4 l => J.ci .i64 l fun x5 l => J.nil l (F x0 x1 x2 x3 x4 x5 h)
def s13l5_G (F : s13l5_T) (x0 x1 x2 x3 : AVal) (x4 x5 : Int) (h : Heap) : Prop := gJ [.any, .any, .any, .any, .int .i64, .int .i64] [x0, x1, x2, x3, (.int .i64 x4), (.int .i64 x5)] h (s13l5_R F)
def s13l5_E (F : Nat → s13l5_T) (x0 x1 x2 x3 : AVal) (x4 x5 : Int) (h : Heap) : Prop := gJ [.any, .any, .any, .any, .int .i64, .int .i64] [x0, x1, x2, x3, (.int .i64 x4), (.int .i64 x5)] h (fun l h => ∃ n, s13l5_R (F n) l h)
theorem s13l5_go {F : s13l5_T} {x0 x1 x2 x3 : AVal} {x4 x5 : Int} {h : Heap} (H : F x0 x1 x2 x3 x4 x5 h) : s13l5_G F x0 x1 x2 x3 x4 x5 h := gJ_plain rfl H
theorem s13l5_in {F : Nat → s13l5_T} {x0 x1 x2 x3 : AVal} {x4 x5 : Int} {h : Heap} (n : Nat) (H : F n x0 x1 x2 x3 x4 x5 h) : s13l5_E F x0 x1 x2 x3 x4 x5 h := gJ_plain rfl ⟨n, H⟩

def s13c6 (Ψ : AVal → Heap → Prop) (L5 : s13l5_T) (t2_5 l_26 split5 elems1 : AVal) (t69_1 t70_1 : Int) (h : Heap) : Prop :=
 rg (t70_1 + 1) (
 L5 t2_5 l_26 split5 elems1 t69_1 (t70_1 + 1) h)

abbrev s13l7_T := AVal → AVal → AVal → AVal → AVal → Int → Int → Heap → Prop
def s13l7_R (F : s13l7_T) (l : List AVal) (h : Heap) : Prop := J.cons l fun x0 l => J.cons l fun x1 l => J.cons l fun x2 l => J.cons l fun x3 l => J.cons l fun x4 l => J.ci .i64 l fun x5 l => J.ci .i64 l fun x6 l => J.nil l (F x0 x1 x2 x3 x4 x5 x6 h)
def s13l7_G (F : s13l7_T) (x0 x1 x2 x3 x4 : AVal) (x5 x6 : Int) (h : Heap) : Prop := gJ [.any, .any, .any, .any, .any, .int .i64, .int .i64] [x0, x1, x2, x3, x4, (.int .i64 x5), (.int .i64 x6)] h (s13l7_R F)
def s13l7_E (F : Nat → s13l7_T) (x0 x1 x2 x3 x4 : AVal) (x5 x6 : Int) (h : Heap) : Prop := gJ [.any, .any, .any, .any, .any, .int .i64, .int .i64] [x0, x1, x2, x3, x4, (.int .i64 x5), (.int .i64 x6)] h (fun l h => ∃ n, s13l7_R (F n) l h)
theorem s13l7_go {F : s13l7_T} {x0 x1 x2 x3 x4 : AVal} {x5 x6 : Int} {h : Heap} (H : F x0 x1 x2 x3 x4 x5 x6 h) : s13l7_G F x0 x1 x2 x3 x4 x5 x6 h := gJ_plain rfl H
theorem s13l7_in {F : Nat → s13l7_T} {x0 x1 x2 x3 x4 : AVal} {x5 x6 : Int} {h : Heap} (n : Nat) (H : F n x0 x1 x2 x3 x4 x5 x6 h) : s13l7_E F x0 x1 x2 x3 x4 x5 x6 h := gJ_plain rfl ⟨n, H⟩

abbrev s13l8_T := AVal → AVal → AVal → AVal → Int → Int → AVal → AVal → Int → Int → AVal → Int → Int → Heap → Prop
def s13l8_R (F : s13l8_T) (l : List AVal) (h : Heap) : Prop := J.cons l fun x0 l => J.cons l fun x1 l => J.cons l fun x2 l => J.cons l fun x3 l => J.ci .i64 l fun x4 l => J.ci .i64 l fun x5 l => J.cons l fun x6 l => J.cons l fun x7 l => J.ci .i64 l fun x8 l => J.ci .i64 l fun x9 l => J.cons l fun x10 l => J.ci .i64 l fun x11 l => J.ci .i64 l fun x12 l => J.nil l (F x0 x1 x2 x3 x4 x5 x6 x7 x8 x9 x10 x11 x12 h)
def s13l8_G (F : s13l8_T) (x0 x1 x2 x3 : AVal) (x4 x5 : Int) (x6 x7 : AVal) (x8 x9 : Int) (x10 : AVal) (x11 x12 : Int) (h : Heap) : Prop := gJ [.any, .any, .any, .any, .int .i64, .int .i64, .any, .any, .int .i64, .int .i64, .any, .int .i64, .int .i64] [x0, x1, x2, x3, (.int .i64 x4), (.int .i64 x5), x6, x7, (.int .i64 x8), (.int .i64 x9), x10, (.int .i64 x11), (.int .i64 x12)] h (s13l8_R F)
def s13l8_E (F : Nat → s13l8_T) (x0 x1 x2 x3 : AVal) (x4 x5 : Int) (x6 x7 : AVal) (x8 x9 : Int) (x10 : AVal) (x11 x12 : Int) (h : Heap) : Prop := gJ [.any, .any, .any, .any, .int .i64, .int .i64, .any, .any, .int .i64, .int .i64, .any, .int .i64, .int .i64] [x0, x1, x2, x3, (.int .i64 x4), (.int .i64 x5), x6, x7, (.int .i64 x8), (.int .i64 x9), x10, (.int .i64 x11), (.int .i64 x12)] h (fun l h => ∃ n, s13l8_R (F n) l h)
theorem s13l8_go {F : s13l8_T} {x0 x1 x2 x3 : AVal} {x4 x5 : Int} {x6 x7 : AVal} {x8 x9 : Int} {x10 : AVal} {x11 x12 : Int} {h : Heap} (H : F x0 x1 x2 x3 x4 x5 x6 x7 x8 x9 x10 x11 x12 h) : s13l8_G F x0 x1 x2 x3 x4 x5 x6 x7 x8 x9 x10 x11 x12 h := gJ_plain rfl H
theorem s13l8_in {F : Nat → s13l8_T} {x0 x1 x2 x3 : AVal} {x4 x5 : Int} {x6 x7 : AVal} {x8 x9 : Int} {x10 : AVal} {x11 x12 : Int} {h : Heap} (n : Nat) (H : F n x0 x1 x2 x3 x4 x5 x6 x7 x8 x9 x10 x11 x12 h) : s13l8_E F x0 x1 x2 x3 x4 x5 x6 x7 x8 x9 x10 x11 x12 h := gJ_plain rfl ⟨n, H⟩

def s13c9 (Ψ : AVal → Heap → Prop) (L7 : s13l7_T) (L8 : s13l8_T) (t2_8 l_32 elems4 m2 : AVal) (w1 x4 : Int) (up1 t86_2 : AVal) (t87_2 t88_2 : Int) (t93_1 : AVal) (t94_1 t95_1 : Int) (h : Heap) : Prop :=
 rg (t95_1 + 1) (
 L8 t2_8 l_32 elems4 m2 w1 x4 up1 t86_2 t87_2 t88_2 t93_1 t94_1 (t95_1 + 1) h)

def s13c10 (Ψ : AVal → Heap → Prop) (L7 : s13l7_T) (L8 : s13l8_T) (t2_9 l_33 elems5 m3 : AVal) (w2 x5 : Int) (up2 : AVal) (v40 : Int) (t86_3 : AVal) (t87_3 t88_3 : Int) (t93_2 : AVal) (t94_2 t95_2 : Int) (t109 : Bool) (h : Heap) : Prop :=
 ifT t109 (
 appC 1 8 h up2 (.lsl 1 [(.int .i64 v40)]) fun v41 h_13 =>
 s13c9 Ψ L7 L8 t2_9 l_33 elems5 m3 w2 x5 v41 t86_3 t87_3 t88_3 t93_2 t94_2 t95_2 h_13) (
 s13c9 Ψ L7 L8 t2_9 l_33 elems5 m3 w2 x5 up2 t86_3 t87_3 t88_3 t93_2 t94_2 t95_2 h)

def s13l8 (Ψ : AVal → Heap → Prop) (L7 : s13l7_T) : Nat → s13l8_T
 | 0, _, _, _, _, _, _, _, _, _, _, _, _, _, _ => False
 | n8 + 1, t2_7, l_31, elems3, m1, w, x3, up, t86_1, t87_1, t88_1, t93, t94, t95, h =>
 ifT (decide (t95 < t94)) (
 ixS 1 t93 t95 fun p3 =>
 ld1 h p3 fun v38 =>
 tInt .i64 v38 fun v39 =>
 ifT (t95 != w) (
 addOff l_31 1 fun p4 =>
 ld1 h p4 fun v42 =>
 callV prog v42 [(.int .i64 v39), (.int .i64 x3)] h fun v43 h_14 =>
 tBool v43 fun v44 =>
 s13c10 Ψ L7 (s13l8_G (s13l8 Ψ L7 n8)) t2_7 l_31 elems3 m1 w x3 up t95 t86_1 t87_1 t88_1 t93 t94 t95 v44 h_14) (
 s13c10 Ψ L7 (s13l8_G (s13l8 Ψ L7 n8)) t2_7 l_31 elems3 m1 w x3 up t95 t86_1 t87_1 t88_1 t93 t94 t95 false h)) (
 addOff m1 0 fun p5 =>
 ld1 h p5 fun v45 =>
 chk (sc up) (
 appC 1 24 h v45 (.lsl 1 [up]) fun v46 h_15 =>
 addOff m1 0 fun p6 =>
 chk (sc v46) (
 st true h_15 p6 [v46] fun h_16 =>
 addOff m1 1 fun p7 =>
 ld1 h_16 p7 fun v47 =>
 appC 1 24 h_16 v47 (.lsl 1 [.nilsl]) fun v48 h_17 =>
 addOff m1 1 fun p8 =>
 chk (sc v48) (
 st true h_17 p8 [v48] fun h_18 =>
 rg (t88_1 + 1) (
 L7 t2_7 l_31 elems3 m1 t86_1 t87_1 (t88_1 + 1) h_18)))))

def s13l7 (Ψ : AVal → Heap → Prop) : Nat → s13l7_T
 | 0, _, _, _, _, _, _, _, _ => False
 | n6 + 1, t2_6, l_30, elems2, m, t86, t87, t88, h =>
 ifT (decide (t88 < t87)) (
 ixS 1 t86 t88 fun p2 =>
 ld1 h p2 fun v36 =>
 tInt .i64 v36 fun v37 =>
 lenN elems2 fun n7 =>
 s13l8_E (s13l8 Ψ (s13l7_G (s13l7 Ψ n6))) t2_6 l_30 elems2 m t88 v37 .nilsl t86 t87 t88 elems2 n7 0 h) (
 ldN 2 h m fun l_34 =>
 tCons l_34 fun v49 l_35 =>
 tCons l_35 fun v50 l_36 =>
 tNil l_36 (
 callG prog 38 [(.agg [v49, v50])] h fun v51 h_19 =>
 tTup v51 fun l_37 =>
 tCons l_37 fun v52 l_38 =>
 tCons l_38 fun v53 l_39 =>
 tInt .i64 v53 fun v54 =>
 tNil l_39 (
 tAgg v52 fun l_40 =>
 tCons l_40 fun v55 l_41 =>
 tCons l_41 fun v56 l_42 =>
 tNil l_42 (
 st false h_19 m [v55, v56] fun h_20 =>
 ldN 2 h_20 m fun l_43 =>
 tCons l_43 fun v57 l_44 =>
 tCons l_44 fun v58 l_45 =>
 tNil l_45 (
 st false h_20 t2_6 [v57, v58] fun h_21 =>
 ldN 2 h_21 t2_6 fun l_46 =>
 tCons l_46 fun v59 l_47 =>
 tCons l_47 fun v60 l_48 =>
 tNil l_48 (
 retG (.tuple [(.agg [v59, v60]), elems2, (.int .i64 0)]) h_21 Ψ))))))

def s13l5 (Ψ : AVal → Heap → Prop) : Nat → s13l5_T
 | 0, _, _, _, _, _, _, _ => False
 | n3 + 1, t2_4, l_25, split4, elems, t69, t70, h =>
 ifT (decide (t70 < t69)) (
 mapGet (.int .i64 0) h split4 (.int .i64 t70) fun v31 b =>
 tInt .i64 v31 fun v32 =>
 ifT (v32 == 0) (
 appC 1 8 h elems (.lsl 1 [(.int .i64 t70)]) fun v33 h_10 =>
 s13c6 Ψ (s13l5_G (s13l5 Ψ n3)) t2_4 l_25 split4 v33 t69 t70 h_10) (
 s13c6 Ψ (s13l5_G (s13l5 Ψ n3)) t2_4 l_25 split4 elems t69 t70 h)) (
 lenN elems fun n4 =>
 ifT (n4 == 0) (
 st false h t2_4 [.nilsl, .nilsl] fun h_11 =>
 ldN 2 h_11 t2_4 fun l_27 =>
 tCons l_27 fun v34 l_28 =>
 tCons l_28 fun v35 l_29 =>
 tNil l_29 (
 retG (.tuple [(.agg [v34, v35]), .nilsl, (.int .i64 231)]) h_11 Ψ)) (
 Sym.newRow 2 [(.agg [.nilsl, .nilsl])] h fun r3 h_12 =>
 lenN elems fun n5 =>
 s13l7_E (s13l7 Ψ) t2_4 l_25 elems (.ptr r3 0 0) elems n5 0 h_12))

def s13l1 (Ψ : AVal → Heap → Prop) : Nat → s13l1_T
 | 0, _, _, _, _, _, _ => False
 | n + 1, t2, l_15, split, t40, t41, h =>
 ifT (decide (t41 < t40)) (
 addOff l_15 0 fun p =>
 ld1 h p fun v19 =>
 tInt .i64 v19 fun v20 =>
 s13l2_E (s13l2 Ψ (s13l1_G (s13l1 Ψ n))) t2 l_15 split t41 t40 t41 v20 0 h) (
 addOff l_15 0 fun p1 =>
 ld1 h p1 fun v29 =>
 tInt .i64 v29 fun v30 =>
 s13l5_E (s13l5 Ψ) t2 l_15 split .nilsl v30 0 h)

def s13 (Ψ : AVal → Heap → Prop) (a_Leq : AVal) (h : Heap) : Prop :=
 Sym.newRow 2 [(.agg [.nilsl, .nilsl])] h fun r h_ =>
 callG prog 35 [(.agg [a_Leq]), .nilsl] h_ fun v h_1 =>
 tTup v fun l_ =>
 tCons l_ fun v1 l_1 =>
 tCons l_1 fun v2 l_2 =>
 tInt .i64 v2 fun v3 =>
 tNil l_2 (
 tAgg v1 fun l_3 =>
 tCons l_3 fun v4 l_4 =>
 tInt .i64 v4 fun v5 =>
 tCons l_4 fun v6 l_5 =>
 tNil l_5 (
 Sym.newRow 2 [(.agg [(.int .i64 0), .nilfunc])] h_1 fun r1 h_2 =>
 st false h_2 (.ptr r1 0 0) [(.int .i64 v5), v6] fun h_3 =>
 ifT (v3 != 0) (
 st false h_3 (.ptr r 0 0) [.nilsl, .nilsl] fun h_4 =>
 ldN 2 h_4 (.ptr r 0 0) fun l_6 =>
 tCons l_6 fun v7 l_7 =>
 tCons l_7 fun v8 l_8 =>
 tNil l_8 (
 retG (.tuple [(.agg [v7, v8]), .nilsl, (.int .i64 v3)]) h_4 Ψ)) (
 ldN 2 h_3 (.ptr r1 0 0) fun l_9 =>
 tCons l_9 fun v9 l_10 =>
 tInt .i64 v9 fun v10 =>
 tCons l_10 fun v11 l_11 =>
 tNil l_11 (
 callG prog 36 [(.agg [(.int .i64 v10), v11])] h_3 fun v12 h_5 =>
 tTup v12 fun l_12 =>
 tCons l_12 fun v13 l_13 =>
 tInt .i64 v13 fun v14 =>
 tCons l_13 fun v15 l_14 =>
 tInt .i64 v15 fun v16 =>
 tNil l_14 (
 newMap h_5 fun r2 h_6 =>
 mapPut h_6 (.mapr r2) (.int .i64 v14) (.int .i64 1) fun h_7 =>
 ld1 h_7 (.ptr r1 0 0) fun v17 =>
 tInt .i64 v17 fun v18 =>
 s13l1_E (s13l1 Ψ) (.ptr r 0 0) (.ptr r1 0 0) (.mapr r2) v18 0 h_7)))))

def s13_A (Ψ : AVal → Heap → Prop) : Ann :=
 .seq (.reg [⟨none, [(0, true), (1, false), (2, false), (3, false)]⟩])
 (.seq (rA 8)
 (.seq (.seq (rA 2)
 (.cond (.seq (rA 5)
 (.leaf))
 (.leaf)))
 (.seq (rA 7)
 (.seq (rA 5)
 (.seq (.seq (rA 3)
 (.block (.loop [(2, .any), (5, .any), (9, .any), (40, .int .i64), (41, .int .i64)] (fun n l h => s13l1_R (s13l1 Ψ n) l h) (fun L1 =>
 .seq (rA 1)
 (.seq (.cond (.leaf)
 (.leaf))
 (.seq (.block (.seq (rA 2)
 (.seq (rA 3)
 (.block (.loop [(2, .any), (5, .any), (9, .any), (10, .int .i64), (40, .int .i64), (41, .int .i64), (45, .int .i64), (46, .int .i64)] (fun n l h => s13l2_R (s13l2 Ψ (fun y0 y1 y2 y3 y4 h => L1 [y0, y1, y2, (.int .i64 y3), (.int .i64 y4)] h) n) l h) (fun L2 =>
 .seq (rA 1)
 (.seq (.cond (.leaf)
 (.leaf))
 (.cut [(2, .any), (5, .any), (9, .any), (10, .int .i64), (40, .int .i64), (41, .int .i64), (45, .int .i64), (46, .int .i64)] (fun l h => J.cons l fun x0 l => J.cons l fun x1 l => J.cons l fun x2 l => J.ci .i64 l fun x3 l => J.ci .i64 l fun x4 l => J.ci .i64 l fun x5 l => J.ci .i64 l fun x6 l => J.ci .i64 l fun x7 l => J.nil l (s13c3 Ψ (fun y0 y1 y2 y3 y4 h => L1 [y0, y1, y2, (.int .i64 y3), (.int .i64 y4)] h) (fun y0 y1 y2 y3 y4 y5 y6 y7 h => L2 [y0, y1, y2, (.int .i64 y3), (.int .i64 y4), (.int .i64 y5), (.int .i64 y6), (.int .i64 y7)] h) x0 x1 x2 x3 x4 x5 x6 x7 h)) (.block (.seq (rA 2)
 (.seq (rA 9)
 (.cut [(2, .any), (5, .any), (9, .any), (10, .int .i64), (12, .int .i64), (40, .int .i64), (41, .int .i64), (45, .int .i64), (46, .int .i64), (63, .bool)] (fun l h => J.cons l fun x0 l => J.cons l fun x1 l => J.cons l fun x2 l => J.ci .i64 l fun x3 l => J.ci .i64 l fun x4 l => J.ci .i64 l fun x5 l => J.ci .i64 l fun x6 l => J.ci .i64 l fun x7 l => J.ci .i64 l fun x8 l => J.cb l fun x9 l => J.nil l (s13c4 Ψ (fun y0 y1 y2 y3 y4 h => L1 [y0, y1, y2, (.int .i64 y3), (.int .i64 y4)] h) (fun y0 y1 y2 y3 y4 y5 y6 y7 h => L2 [y0, y1, y2, (.int .i64 y3), (.int .i64 y4), (.int .i64 y5), (.int .i64 y6), (.int .i64 y7)] h) x0 x1 x2 x3 x4 x5 x6 x7 x8 x9 h)) (.reg [⟨none, [(0, false), (1, false), (2, false), (3, false)]⟩, ⟨some (59, true), [(4, false), (5, false), (6, false)]⟩, ⟨none, [(7, false)]⟩])
 (.cond (rA 3)
 (.leaf))))))
 (rA 2)))))))))
 (rA 2)))))))
 (.seq (rA 1)
 (.seq (.seq (rA 3)
 (.block (.loop [(2, .any), (5, .any), (9, .any), (14, .any), (69, .int .i64), (70, .int .i64)] (fun n l h => s13l5_R (s13l5 Ψ n) l h) (fun L5 =>
 .seq (rA 1)
 (.seq (.cond (.leaf)
 (.leaf))
 (.cut [(2, .any), (5, .any), (9, .any), (14, .any), (69, .int .i64), (70, .int .i64)] (fun l h => J.cons l fun x0 l => J.cons l fun x1 l => J.cons l fun x2 l => J.cons l fun x3 l => J.ci .i64 l fun x4 l => J.ci .i64 l fun x5 l => J.nil l (s13c6 Ψ (fun y0 y1 y2 y3 y4 y5 h => L5 [y0, y1, y2, y3, (.int .i64 y4), (.int .i64 y5)] h) x0 x1 x2 x3 x4 x5 h)) (.block (.seq (rA 2)
 (.seq (rA 4)
 (.cond (.reg [⟨none, [(0, false), (1, false), (2, true), (3, false), (4, false)]⟩])
 (.leaf)))))
 (rA 2)))))))
 (.seq (.seq (rA 3)
 (.cond (.seq (rA 4)
 (.leaf))
 (.leaf)))
 (.seq (rA 1)
 (.seq (.seq (rA 3)
 (.block (.loop [(2, .any), (5, .any), (14, .any), (16, .any), (86, .any), (87, .int .i64), (88, .int .i64)] (fun n l h => s13l7_R (s13l7 Ψ n) l h) (fun L7 =>
 .seq (rA 1)
 (.seq (.cond (.leaf)
 (.leaf))
 (.seq (.block (.seq (rA 5)
 (.seq (rA 1)
 (.seq (.seq (rA 3)
 (.block (.loop [(2, .any), (5, .any), (14, .any), (16, .any), (17, .int .i64), (18, .int .i64), (19, .any), (86, .any), (87, .int .i64), (88, .int .i64), (93, .any), (94, .int .i64), (95, .int .i64)] (fun n l h => s13l8_R (s13l8 Ψ (fun y0 y1 y2 y3 y4 y5 y6 h => L7 [y0, y1, y2, y3, y4, (.int .i64 y5), (.int .i64 y6)] h) n) l h) (fun L8 =>
 .seq (rA 1)
 (.seq (.cond (.leaf)
 (.leaf))
 (.cut [(2, .any), (5, .any), (14, .any), (16, .any), (17, .int .i64), (18, .int .i64), (19, .any), (86, .any), (87, .int .i64), (88, .int .i64), (93, .any), (94, .int .i64), (95, .int .i64)] (fun l h => J.cons l fun x0 l => J.cons l fun x1 l => J.cons l fun x2 l => J.cons l fun x3 l => J.ci .i64 l fun x4 l => J.ci .i64 l fun x5 l => J.cons l fun x6 l => J.cons l fun x7 l => J.ci .i64 l fun x8 l => J.ci .i64 l fun x9 l => J.cons l fun x10 l => J.ci .i64 l fun x11 l => J.ci .i64 l fun x12 l => J.nil l (s13c9 Ψ (fun y0 y1 y2 y3 y4 y5 y6 h => L7 [y0, y1, y2, y3, y4, (.int .i64 y5), (.int .i64 y6)] h) (fun y0 y1 y2 y3 y4 y5 y6 y7 y8 y9 y10 y11 y12 h => L8 [y0, y1, y2, y3, (.int .i64 y4), (.int .i64 y5), y6, y7, (.int .i64 y8), (.int .i64 y9), y10, (.int .i64 y11), (.int .i64 y12)] h) x0 x1 x2 x3 x4 x5 x6 x7 x8 x9 x10 x11 x12 h)) (.block (.seq (rA 5)
 (.cut [(2, .any), (5, .any), (14, .any), (16, .any), (17, .int .i64), (18, .int .i64), (19, .any), (20, .int .i64), (86, .any), (87, .int .i64), (88, .int .i64), (93, .any), (94, .int .i64), (95, .int .i64), (109, .bool)] (fun l h => J.cons l fun x0 l => J.cons l fun x1 l => J.cons l fun x2 l => J.cons l fun x3 l => J.ci .i64 l fun x4 l => J.ci .i64 l fun x5 l => J.cons l fun x6 l => J.ci .i64 l fun x7 l => J.cons l fun x8 l => J.ci .i64 l fun x9 l => J.ci .i64 l fun x10 l => J.cons l fun x11 l => J.ci .i64 l fun x12 l => J.ci .i64 l fun x13 l => J.cb l fun x14 l => J.nil l (s13c10 Ψ (fun y0 y1 y2 y3 y4 y5 y6 h => L7 [y0, y1, y2, y3, y4, (.int .i64 y5), (.int .i64 y6)] h) (fun y0 y1 y2 y3 y4 y5 y6 y7 y8 y9 y10 y11 y12 h => L8 [y0, y1, y2, y3, (.int .i64 y4), (.int .i64 y5), y6, y7, (.int .i64 y8), (.int .i64 y9), y10, (.int .i64 y11), (.int .i64 y12)] h) x0 x1 x2 x3 x4 x5 x6 x7 x8 x9 x10 x11 x12 x13 x14 h)) (.reg [⟨none, [(0, false), (1, false), (2, false), (3, false)]⟩, ⟨some (103, true), [(4, false), (5, false), (6, false), (7, false), (8, false)]⟩, ⟨none, [(9, false)]⟩])
 (.cond (.reg [⟨none, [(0, false), (1, false), (2, true), (3, false), (4, false)]⟩])
 (.leaf)))))
 (rA 2)))))))
 (.seq (.reg [⟨none, [(0, false), (1, false), (2, false), (3, true), (4, false), (5, false), (6, false)]⟩])
 (.reg [⟨none, [(0, false), (1, false), (2, true), (3, false), (4, false), (5, false)]⟩]))))))
 (rA 2)))))))
 (.seq (rA 6)
 (.seq (rA 5)
 (.leaf)))))))))))))

theorem s13_ok {Ψ : AVal → Heap → Prop} {a_Leq : AVal} {h : Heap} (H : s13 Ψ a_Leq h) : ACalls prog 13 [(.agg [a_Leq])] h Ψ :=
 calls_of_evF func13 (by kernel_rfl) (by kernel_rfl) (by kernel_rfl)
 (Eq.mpr (by as_aux_lemma => kernel_rfl : oblF prog f13 (s13_A Ψ) Ψ = ((True) ∧ ((True) ∧ ((otP 13) ∧ ((True) ∧ ((True) ∧ (((True) ∧ ((∀ (h : Heap) (x0 x1 x2 : AVal) (x3 x4 : Int), ON (s13l1 Ψ 0 x0 x1 x2 x3 x4 h)) ∧ (∀ n1 : Nat, (∀ (h : Heap) (x0 x1 x2 : AVal) (x3 x4 : Int), OI (s13l1 Ψ (n1 + 1) x0 x1 x2 x3 x4 h)) ∧ ((True) ∧ ((otP 1) ∧ (((True) ∧ ((True) ∧ ((∀ (h : Heap) (x0 x1 x2 : AVal) (x3 x4 x5 x6 x7 : Int), ON (s13l2 Ψ (s13l1_G (s13l1 Ψ n1)) 0 x0 x1 x2 x3 x4 x5 x6 x7 h)) ∧ (∀ n2 : Nat, (∀ (h : Heap) (x0 x1 x2 : AVal) (x3 x4 x5 x6 x7 : Int), OI (s13l2 Ψ (s13l1_G (s13l1 Ψ n1)) (n2 + 1) x0 x1 x2 x3 x4 x5 x6 x7 h)) ∧ ((True) ∧ ((otP 1) ∧ (((True) ∧ ((True) ∧ ((True) ∧ ((∀ (h : Heap) (x0 x1 x2 : AVal) (x3 x4 x5 x6 x7 x8 : Int) (x9 : Bool), OI (s13c4 Ψ (s13l1_G (s13l1 Ψ n1)) (s13l2_G (s13l2 Ψ (s13l1_G (s13l1 Ψ n1)) n2)) x0 x1 x2 x3 x4 x5 x6 x7 x8 x9 h)) ∧ (otP 1))))) ∧ ((∀ (h : Heap) (x0 x1 x2 : AVal) (x3 x4 x5 x6 x7 : Int), OI (s13c3 Ψ (s13l1_G (s13l1 Ψ n1)) (s13l2_G (s13l2 Ψ (s13l1_G (s13l1 Ψ n1)) n2)) x0 x1 x2 x3 x4 x5 x6 x7 h)) ∧ (True))))))))) ∧ (True))))))) ∧ ((True) ∧ (((True) ∧ ((∀ (h : Heap) (x0 x1 x2 x3 : AVal) (x4 x5 : Int), ON (s13l5 Ψ 0 x0 x1 x2 x3 x4 x5 h)) ∧ (∀ n5 : Nat, (∀ (h : Heap) (x0 x1 x2 x3 : AVal) (x4 x5 : Int), OI (s13l5 Ψ (n5 + 1) x0 x1 x2 x3 x4 x5 h)) ∧ ((True) ∧ ((otP 1) ∧ ((otP 21) ∧ ((∀ (h : Heap) (x0 x1 x2 x3 : AVal) (x4 x5 : Int), OI (s13c6 Ψ (s13l5_G (s13l5 Ψ n5)) x0 x1 x2 x3 x4 x5 h)) ∧ (True)))))))) ∧ ((otP 13) ∧ ((True) ∧ (((True) ∧ ((∀ (h : Heap) (x0 x1 x2 x3 x4 : AVal) (x5 x6 : Int), ON (s13l7 Ψ 0 x0 x1 x2 x3 x4 x5 x6 h)) ∧ (∀ n7 : Nat, (∀ (h : Heap) (x0 x1 x2 x3 x4 : AVal) (x5 x6 : Int), OI (s13l7 Ψ (n7 + 1) x0 x1 x2 x3 x4 x5 x6 h)) ∧ ((True) ∧ ((otP 1) ∧ (((True) ∧ ((True) ∧ (((True) ∧ ((∀ (h : Heap) (x0 x1 x2 x3 : AVal) (x4 x5 : Int) (x6 x7 : AVal) (x8 x9 : Int) (x10 : AVal) (x11 x12 : Int), ON (s13l8 Ψ (s13l7_G (s13l7 Ψ n7)) 0 x0 x1 x2 x3 x4 x5 x6 x7 x8 x9 x10 x11 x12 h)) ∧ (∀ n8 : Nat, (∀ (h : Heap) (x0 x1 x2 x3 : AVal) (x4 x5 : Int) (x6 x7 : AVal) (x8 x9 : Int) (x10 : AVal) (x11 x12 : Int), OI (s13l8 Ψ (s13l7_G (s13l7 Ψ n7)) (n8 + 1) x0 x1 x2 x3 x4 x5 x6 x7 x8 x9 x10 x11 x12 h)) ∧ ((True) ∧ ((otP 1) ∧ (((True) ∧ ((True) ∧ ((∀ (h : Heap) (x0 x1 x2 x3 : AVal) (x4 x5 : Int) (x6 : AVal) (x7 : Int) (x8 : AVal) (x9 x10 : Int) (x11 : AVal) (x12 x13 : Int) (x14 : Bool), OI (s13c10 Ψ (s13l7_G (s13l7 Ψ n7)) (s13l8_G (s13l8 Ψ (s13l7_G (s13l7 Ψ n7)) n8)) x0 x1 x2 x3 x4 x5 x6 x7 x8 x9 x10 x11 x12 x13 x14 h)) ∧ (otP 1)))) ∧ ((∀ (h : Heap) (x0 x1 x2 x3 : AVal) (x4 x5 : Int) (x6 x7 : AVal) (x8 x9 : Int) (x10 : AVal) (x11 x12 : Int), OI (s13c9 Ψ (s13l7_G (s13l7 Ψ n7)) (s13l8_G (s13l8 Ψ (s13l7_G (s13l7 Ψ n7)) n8)) x0 x1 x2 x3 x4 x5 x6 x7 x8 x9 x10 x11 x12 h)) ∧ (True)))))))) ∧ (otP 1)))) ∧ (True))))))) ∧ (otP 5))))))))))))) (⟨trivial, ⟨trivial, ⟨otP_ok 13, ⟨trivial, ⟨trivial, ⟨⟨trivial, ⟨fun _ _ _ _ _ _ H => H, fun _ => ⟨fun _ _ _ _ _ _ H => H, ⟨trivial, ⟨otP_ok 1, ⟨⟨trivial, ⟨trivial, ⟨fun _ _ _ _ _ _ _ _ _ H => H, fun _ => ⟨fun _ _ _ _ _ _ _ _ _ H => H, ⟨trivial, ⟨otP_ok 1, ⟨⟨trivial, ⟨trivial, ⟨trivial, ⟨fun _ _ _ _ _ _ _ _ _ _ _ H => H, otP_ok 1⟩⟩⟩⟩, ⟨fun _ _ _ _ _ _ _ _ _ H => H, trivial⟩⟩⟩⟩⟩⟩⟩⟩, trivial⟩⟩⟩⟩⟩⟩, ⟨trivial, ⟨⟨trivial, ⟨fun _ _ _ _ _ _ _ H => H, fun _ => ⟨fun _ _ _ _ _ _ _ H => H, ⟨trivial, ⟨otP_ok 1, ⟨otP_ok 21, ⟨fun _ _ _ _ _ _ _ H => H, trivial⟩⟩⟩⟩⟩⟩⟩, ⟨otP_ok 13, ⟨trivial, ⟨⟨trivial, ⟨fun _ _ _ _ _ _ _ _ H => H, fun _ => ⟨fun _ _ _ _ _ _ _ _ H => H, ⟨trivial, ⟨otP_ok 1, ⟨⟨trivial, ⟨trivial, ⟨⟨trivial, ⟨fun _ _ _ _ _ _ _ _ _ _ _ _ _ _ H => H, fun _ => ⟨fun _ _ _ _ _ _ _ _ _ _ _ _ _ _ H => H, ⟨trivial, ⟨otP_ok 1, ⟨⟨trivial, ⟨trivial, ⟨fun _ _ _ _ _ _ _ _ _ _ _ _ _ _ _ _ H => H, otP_ok 1⟩⟩⟩, ⟨fun _ _ _ _ _ _ _ _ _ _ _ _ _ _ H => H, trivial⟩⟩⟩⟩⟩⟩⟩, otP_ok 1⟩⟩⟩, trivial⟩⟩⟩⟩⟩⟩, otP_ok 5⟩⟩⟩⟩⟩⟩⟩⟩⟩⟩⟩))
 (Eq.mpr (by as_aux_lemma => kernel_rfl : evF prog f13 (s13_A Ψ) Ψ [(.agg [a_Leq])] h = s13 Ψ a_Leq h) H)

/- 18 dictum/dictumref03.Ints -/
abbrev s18l1_T := AVal → AVal → Int → Heap → Prop
def s18l1_R (F : s18l1_T) (l : List AVal) (h : Heap) : Prop := J.cons l fun x0 l => J.cons l fun x1 l => J.ci .i64 l fun x2 l => J.nil l (F x0 x1 x2 h)
def s18l1_G (F : s18l1_T) (x0 x1 : AVal) (x2 : Int) (h : Heap) : Prop := gJ [.any, .any, .int .i64] [x0, x1, (.int .i64 x2)] h (s18l1_R F)
def s18l1_E (F : Nat → s18l1_T) (x0 x1 : AVal) (x2 : Int) (h : Heap) : Prop := gJ [.any, .any, .int .i64] [x0, x1, (.int .i64 x2)] h (fun l h => ∃ n, s18l1_R (F n) l h)
theorem s18l1_go {F : s18l1_T} {x0 x1 : AVal} {x2 : Int} {h : Heap} (H : F x0 x1 x2 h) : s18l1_G F x0 x1 x2 h := gJ_plain rfl H
theorem s18l1_in {F : Nat → s18l1_T} {x0 x1 : AVal} {x2 : Int} {h : Heap} (n : Nat) (H : F n x0 x1 x2 h) : s18l1_E F x0 x1 x2 h := gJ_plain rfl ⟨n, H⟩

def s18l1 (Ψ : AVal → Heap → Prop) : Nat → s18l1_T
 | 0, _, _, _, _ => False
 | n2 + 1, a1, b1, i, h =>
 lenN a1 fun n3 =>
 ifT (decide (i < n3)) (
 ixS 1 a1 i fun p =>
 ld1 h p fun v =>
 tInt .i64 v fun v1 =>
 ixS 1 b1 i fun p1 =>
 ld1 h p1 fun v2 =>
 tInt .i64 v2 fun v3 =>
 ifT (v1 != v3) (
 retG (.bool false) h Ψ) (
 rg (i + 1) (
 s18l1_G (s18l1 Ψ n2) a1 b1 (i + 1) h))) (
 retG (.bool true) h Ψ)

def s18 (Ψ : AVal → Heap → Prop) (a : AVal) (b : AVal) (h : Heap) : Prop :=
 lenN a fun n =>
 lenN b fun n1 =>
 ifT (n != n1) (
 retG (.bool false) h Ψ) (
 s18l1_E (s18l1 Ψ) a b 0 h)

def s18_A (Ψ : AVal → Heap → Prop) : Ann :=
 .seq (rA 1)
 (.seq (.seq (rA 5)
 (.cond (.seq (rA 1)
 (.leaf))
 (.leaf)))
 (.seq (.seq (rA 1)
 (.block (.loop [(0, .any), (1, .any), (5, .int .i64)] (fun n l h => s18l1_R (s18l1 Ψ n) l h) (fun L1 =>
 .seq (.seq (rA 4)
 (.cond (.leaf)
 (.leaf)))
 (.seq (.block (.seq (.draw [(0, false), (1, false), (2, false), (3, false), (4, false), (5, false), (6, false), (7, false), (8, false)] [0, 0, 3, 7, 0, 0, 48, 112, 255])
 (.cond (.seq (rA 1)
 (.leaf))
 (.leaf))))
 (rA 3))))))
 (.seq (rA 1)
 (.leaf))))

theorem s18_ok {Ψ : AVal → Heap → Prop} {a : AVal} {b : AVal} {h : Heap} (H : s18 Ψ a b h) : ACalls prog 18 [a, b] h Ψ :=
 calls_of_evF func18 (by kernel_rfl) (by kernel_rfl) (by kernel_rfl)
 (Eq.mpr (by as_aux_lemma => kernel_rfl : oblF prog f18 (s18_A Ψ) Ψ = ((True) ∧ ((otP 13) ∧ (((True) ∧ ((∀ (h : Heap) (x0 x1 : AVal) (x2 : Int), ON (s18l1 Ψ 0 x0 x1 x2 h)) ∧ (∀ n1 : Nat, (∀ (h : Heap) (x0 x1 : AVal) (x2 : Int), OI (s18l1 Ψ (n1 + 1) x0 x1 x2 h)) ∧ (otP 1739)))) ∧ (otP 1))))) (⟨trivial, ⟨otP_ok 13, ⟨⟨trivial, ⟨fun _ _ _ _ H => H, fun _ => ⟨fun _ _ _ _ H => H, otP_ok 1739⟩⟩⟩, otP_ok 1⟩⟩⟩))
 (Eq.mpr (by as_aux_lemma => kernel_rfl : evF prog f18 (s18_A Ψ) Ψ [a, b] h = s18 Ψ a b h) H)

/- 20 dictum/dictumlaw03.Both -/
def s20 (Ψ : AVal → Heap → Prop) (rows : AVal) (h : Heap) : Prop :=
 Sym.newRow 4 [] h fun r h_ =>
 appC 4 40 h_ (.sl r 4 0 0) rows (litG true fun v h_1 =>
 callG prog 46 [rows] h_1 fun v1 h_2 =>
 tTup v1 fun l_ =>
 tCons l_ fun v2 l_1 =>
 tCons l_1 fun v3 l_2 =>
 tInt .i64 v3 fun v4 =>
 tNil l_2 (
 ifT (v4 != 0) (
 retG (.tuple [.nilptr, .nilptr, (.bool false)]) h_2 Ψ) (
 callG prog 47 [v] h_2 fun v5 h_3 =>
 tTup v5 fun l_3 =>
 tCons l_3 fun v6 l_4 =>
 tCons l_4 fun v7 l_5 =>
 tInt .i64 v7 fun v8 =>
 tNil l_5 (
 retG (.tuple [v6, v2, (.bool true)]) h_3 Ψ))))

def s20_A (Ψ : AVal → Heap → Prop) : Ann :=
 .seq (rA 3)
 (.seq (.reg [⟨none, [(0, false), (1, false), (2, true), (3, false)]⟩])
 (.seq (rA 7)
 (.seq (.seq (rA 2)
 (.cond (.seq (rA 3)
 (.leaf))
 (.leaf)))
 (.seq (rA 7)
 (.seq (rA 5)
 (.leaf))))))

theorem s20_ok {Ψ : AVal → Heap → Prop} {rows : AVal} {h : Heap} (H : s20 Ψ rows h) : ACalls prog 20 [rows] h Ψ :=
 calls_of_evF func20 (by kernel_rfl) (by kernel_rfl) (by kernel_rfl)
 (Eq.mpr (by as_aux_lemma => kernel_rfl : oblF prog f20 (s20_A Ψ) Ψ = (otP 83669)) (otP_ok 83669))
 (Eq.mpr (by as_aux_lemma => kernel_rfl : evF prog f20 (s20_A Ψ) Ψ [rows] h = s20 Ψ rows h) H)

/- 24 (*dictum/dictumref03.T).Has -/
def s24 (Ψ : AVal → Heap → Prop) (t : AVal) (id_ : Int) (h : Heap) : Prop :=
 ifT (decide (0 ≤ id_)) (
 nilCheckA t fun p =>
 addOff p 0 fun p1 =>
 ld1 h p1 fun v =>
 lenN v fun n =>
 retG (.bool (decide (id_ < n))) h Ψ) (
 retG (.bool false) h Ψ)

def s24_A (Ψ : AVal → Heap → Prop) : Ann :=
 .seq (rA 1)
 (.seq (.reg [⟨none, [(0, false), (1, false), (2, false)]⟩, ⟨some (7, true), [(3, false), (4, false), (5, false), (6, false), (7, false), (8, false), (9, false)]⟩, ⟨none, [(10, false), (11, false)]⟩])
 (.leaf))

theorem s24_ok {Ψ : AVal → Heap → Prop} {t : AVal} {id_ : Int} {h : Heap} (H : s24 Ψ t id_ h) : ACalls prog 24 [t, (.int .i64 id_)] h Ψ :=
 calls_of_evF func24 (by kernel_rfl) (by kernel_rfl) (by kernel_rfl)
 (Eq.mpr (by as_aux_lemma => kernel_rfl : oblF prog f24 (s24_A Ψ) Ψ = (otP 5)) (otP_ok 5))
 (Eq.mpr (by as_aux_lemma => kernel_rfl : evF prog f24 (s24_A Ψ) Ψ [t, (.int .i64 id_)] h = s24 Ψ t id_ h) H)

/- 26 dictum/force.At -/
def s26 (Ψ : AVal → Heap → Prop) (t : AVal) (m_Up : AVal) (m_Val : AVal) (w : Int) (id_ : Int) (h : Heap) : Prop :=
 callG prog 55 [t, (.agg [m_Up, m_Val])] h fun v h_ =>
 tTup v fun l_ =>
 tCons l_ fun v1 l_1 =>
 tCons l_1 fun v2 l_2 =>
 tInt .i64 v2 fun v3 =>
 tNil l_2 (
 ifT (v3 != 0) (
 retG (.tuple [(.bool false), (.int .i64 v3)]) h_ Ψ) (
 callG prog 56 [v1, (.int .i64 w)] h_ fun v4 h_1 =>
 tBool v4 fun v5 =>
 ifT (!v5) (
 retG (.tuple [(.bool false), (.int .i64 2)]) h_1 Ψ) (
 callG prog 57 [t, (.int .i64 id_)] h_1 fun v6 h_2 =>
 tBool v6 fun v7 =>
 ifT (!v7) (
 retG (.tuple [(.bool false), (.int .i64 31)]) h_2 Ψ) (
 callG prog 58 [v1, (.int .i64 w), (.int .i64 id_)] h_2 fun v8 h_3 =>
 tBool v8 fun v9 =>
 retG (.tuple [(.bool v9), (.int .i64 0)]) h_3 Ψ))))

def s26_A (Ψ : AVal → Heap → Prop) : Ann :=
 .seq (.reg [⟨none, [(0, true), (1, false), (2, false)]⟩])
 (.seq (rA 8)
 (.seq (.block (.seq (rA 3)
 (.cond (.seq (rA 3)
 (.leaf))
 (.seq (rA 5)
 (.cond (.seq (rA 2)
 (.leaf))
 (.seq (rA 5)
 (.cond (.seq (rA 2)
 (.leaf))
 (.leaf))))))))
 (.seq (rA 6)
 (.leaf))))

theorem s26_ok {Ψ : AVal → Heap → Prop} {t : AVal} {m_Up : AVal} {m_Val : AVal} {w : Int} {id_ : Int} {h : Heap} (H : s26 Ψ t m_Up m_Val w id_ h) : ACalls prog 26 [t, (.agg [m_Up, m_Val]), (.int .i64 w), (.int .i64 id_)] h Ψ :=
 calls_of_evF func26 (by kernel_rfl) (by kernel_rfl) (by kernel_rfl)
 (Eq.mpr (by as_aux_lemma => kernel_rfl : oblF prog f26 (s26_A Ψ) Ψ = (otP 18508213)) (otP_ok 18508213))
 (Eq.mpr (by as_aux_lemma => kernel_rfl : evF prog f26 (s26_A Ψ) Ψ [t, (.agg [m_Up, m_Val]), (.int .i64 w), (.int .i64 id_)] h = s26 Ψ t m_Up m_Val w id_ h) H)

/- 28 dictum/heyting.joined -/
abbrev s28l1_T := AVal → AVal → Int → Int → Heap → Prop
def s28l1_R (F : s28l1_T) (l : List AVal) (h : Heap) : Prop := J.cons l fun x0 l => J.cons l fun x1 l => J.ci .i64 l fun x2 l => J.ci .i64 l fun x3 l => J.nil l (F x0 x1 x2 x3 h)
def s28l1_G (F : s28l1_T) (x0 x1 : AVal) (x2 x3 : Int) (h : Heap) : Prop := gJ [.any, .any, .int .i64, .int .i64] [x0, x1, (.int .i64 x2), (.int .i64 x3)] h (s28l1_R F)
def s28l1_E (F : Nat → s28l1_T) (x0 x1 : AVal) (x2 x3 : Int) (h : Heap) : Prop := gJ [.any, .any, .int .i64, .int .i64] [x0, x1, (.int .i64 x2), (.int .i64 x3)] h (fun l h => ∃ n, s28l1_R (F n) l h)
theorem s28l1_go {F : s28l1_T} {x0 x1 : AVal} {x2 x3 : Int} {h : Heap} (H : F x0 x1 x2 x3 h) : s28l1_G F x0 x1 x2 x3 h := gJ_plain rfl H
theorem s28l1_in {F : Nat → s28l1_T} {x0 x1 : AVal} {x2 x3 : Int} {h : Heap} (n : Nat) (H : F n x0 x1 x2 x3 h) : s28l1_E F x0 x1 x2 x3 h := gJ_plain rfl ⟨n, H⟩

def s28l1 (Ψ : AVal → Heap → Prop) : Nat → s28l1_T
 | 0, _, _, _, _, _ => False
 | n1 + 1, out, t10, t11, t12, h =>
 ifT (decide (t12 < t11)) (
 ixS 1 t10 t12 fun p =>
 ld1 h p fun v1 =>
 tInt .i64 v1 fun v2 =>
 ixS 1 out v2 fun p1 =>
 st true h p1 [(.int .u8 1)] fun h_1 =>
 rg (t12 + 1) (
 s28l1_G (s28l1 Ψ n1) out t10 t11 (t12 + 1) h_1)) (
 bStr h out fun s =>
 retG (.str s) h Ψ)

def s28 (Ψ : AVal → Heap → Prop) (a : ByteArray) (b : AVal) (h : Heap) : Prop :=
 sBytes h (.str a) fun v h_ =>
 lenN b fun n =>
 s28l1_E (s28l1 Ψ) v b n 0 h_

def s28_A (Ψ : AVal → Heap → Prop) : Ann :=
 .seq (rA 1)
 (.seq (rA 3)
 (.seq (.seq (rA 3)
 (.block (.loop [(5, .any), (10, .any), (11, .int .i64), (12, .int .i64)] (fun n l h => s28l1_R (s28l1 Ψ n) l h) (fun L1 =>
 .seq (rA 1)
 (.seq (.cond (.leaf)
 (.leaf))
 (.seq (.block (.seq (rA 3)
 (rA 4)))
 (rA 2)))))))
 (.seq (rA 3)
 (.leaf))))

theorem s28_ok {Ψ : AVal → Heap → Prop} {a : ByteArray} {b : AVal} {h : Heap} (H : s28 Ψ a b h) : ACalls prog 28 [(.str a), b] h Ψ :=
 calls_of_evF func28 (by kernel_rfl) (by kernel_rfl) (by kernel_rfl)
 (Eq.mpr (by as_aux_lemma => kernel_rfl : oblF prog f28 (s28_A Ψ) Ψ = ((True) ∧ ((True) ∧ (((True) ∧ ((∀ (h : Heap) (x0 x1 : AVal) (x2 x3 : Int), ON (s28l1 Ψ 0 x0 x1 x2 x3 h)) ∧ (∀ n1 : Nat, (∀ (h : Heap) (x0 x1 : AVal) (x2 x3 : Int), OI (s28l1 Ψ (n1 + 1) x0 x1 x2 x3 h)) ∧ (otP 205)))) ∧ (otP 1))))) (⟨trivial, ⟨trivial, ⟨⟨trivial, ⟨fun _ _ _ _ _ H => H, fun _ => ⟨fun _ _ _ _ _ H => H, otP_ok 205⟩⟩⟩, otP_ok 1⟩⟩⟩))
 (Eq.mpr (by as_aux_lemma => kernel_rfl : evF prog f28 (s28_A Ψ) Ψ [(.str a), b] h = s28 Ψ a b h) H)

/- 32 slices.Index[[]dictum/heyting.set,dictum/heyting.set] -/
abbrev s32l1_T := AVal → ByteArray → Int → Int → Heap → Prop
def s32l1_R (F : s32l1_T) (l : List AVal) (h : Heap) : Prop := J.cons l fun x0 l => J.cs l fun x1 l => J.ci .i64 l fun x2 l => J.ci .i64 l fun x3 l => J.nil l (F x0 x1 x2 x3 h)
def s32l1_G (F : s32l1_T) (x0 : AVal) (x1 : ByteArray) (x2 x3 : Int) (h : Heap) : Prop := gJ [.any, .str, .int .i64, .int .i64] [x0, (.str x1), (.int .i64 x2), (.int .i64 x3)] h (s32l1_R F)
def s32l1_E (F : Nat → s32l1_T) (x0 : AVal) (x1 : ByteArray) (x2 x3 : Int) (h : Heap) : Prop := gJ [.any, .str, .int .i64, .int .i64] [x0, (.str x1), (.int .i64 x2), (.int .i64 x3)] h (fun l h => ∃ n, s32l1_R (F n) l h)
theorem s32l1_go {F : s32l1_T} {x0 : AVal} {x1 : ByteArray} {x2 x3 : Int} {h : Heap} (H : F x0 x1 x2 x3 h) : s32l1_G F x0 x1 x2 x3 h := gJ_plain rfl H
theorem s32l1_in {F : Nat → s32l1_T} {x0 : AVal} {x1 : ByteArray} {x2 x3 : Int} {h : Heap} (n : Nat) (H : F n x0 x1 x2 x3 h) : s32l1_E F x0 x1 x2 x3 h := gJ_plain rfl ⟨n, H⟩

def s32l1 (Ψ : AVal → Heap → Prop) : Nat → s32l1_T
 | 0, _, _, _, _, _ => False
 | n1 + 1, s1, v1, t7, t8, h =>
 ifT (decide (t8 < t7)) (
 ixS 1 s1 t8 fun p =>
 ld1 h p fun v2 =>
 tStr v2 fun v3 =>
 ifT (strEq v1 v3) (
 retG (.int .i64 t8) h Ψ) (
 rg (t8 + 1) (
 s32l1_G (s32l1 Ψ n1) s1 v1 t7 (t8 + 1) h))) (
 retG (.int .i64 (-1)) h Ψ)

def s32 (Ψ : AVal → Heap → Prop) (s : AVal) (v : ByteArray) (h : Heap) : Prop :=
 lenN s fun n =>
 s32l1_E (s32l1 Ψ) s v n 0 h

def s32_A (Ψ : AVal → Heap → Prop) : Ann :=
 .seq (rA 1)
 (.seq (.seq (rA 3)
 (.block (.loop [(0, .any), (1, .str), (7, .int .i64), (8, .int .i64)] (fun n l h => s32l1_R (s32l1 Ψ n) l h) (fun L1 =>
 .seq (rA 1)
 (.seq (.cond (.leaf)
 (.leaf))
 (.seq (.block (.seq (rA 2)
 (.seq (rA 6)
 (.cond (.seq (rA 2)
 (.leaf))
 (.leaf)))))
 (rA 2)))))))
 (.seq (rA 1)
 (.leaf)))

theorem s32_ok {Ψ : AVal → Heap → Prop} {s : AVal} {v : ByteArray} {h : Heap} (H : s32 Ψ s v h) : ACalls prog 32 [s, (.str v)] h Ψ :=
 calls_of_evF func32 (by kernel_rfl) (by kernel_rfl) (by kernel_rfl)
 (Eq.mpr (by as_aux_lemma => kernel_rfl : oblF prog f32 (s32_A Ψ) Ψ = ((True) ∧ (((True) ∧ ((∀ (h : Heap) (x0 : AVal) (x1 : ByteArray) (x2 x3 : Int), ON (s32l1 Ψ 0 x0 x1 x2 x3 h)) ∧ (∀ n1 : Nat, (∀ (h : Heap) (x0 : AVal) (x1 : ByteArray) (x2 x3 : Int), OI (s32l1 Ψ (n1 + 1) x0 x1 x2 x3 h)) ∧ (otP 6861)))) ∧ (otP 1)))) (⟨trivial, ⟨⟨trivial, ⟨fun _ _ _ _ _ H => H, fun _ => ⟨fun _ _ _ _ _ H => H, otP_ok 6861⟩⟩⟩, otP_ok 1⟩⟩))
 (Eq.mpr (by as_aux_lemma => kernel_rfl : evF prog f32 (s32_A Ψ) Ψ [s, (.str v)] h = s32 Ψ s v h) H)

/- 36 (dictum/heyting.lattice).bounds -/
def s36 (Ψ : AVal → Heap → Prop) (l_n : Int) (l_leq : AVal) (h : Heap) : Prop :=
 callG prog 75 [(.int .i64 l_n), (.func (.func 74) [] []), (.func (.func 76) [(.agg [(.int .i64 l_n), l_leq])] [])] h fun v h_ =>
 tTup v fun l_ =>
 tCons l_ fun v1 l_1 =>
 tInt .i64 v1 fun v2 =>
 tCons l_1 fun v3 l_2 =>
 tBool v3 fun v4 =>
 tNil l_2 (
 callG prog 75 [(.int .i64 l_n), (.func (.func 74) [] []), (.func (.func 77) [(.agg [(.int .i64 l_n), l_leq])] [])] h_ fun v5 h_1 =>
 tTup v5 fun l_3 =>
 tCons l_3 fun v6 l_4 =>
 tInt .i64 v6 fun v7 =>
 tCons l_4 fun v8 l_5 =>
 tBool v8 fun v9 =>
 tNil l_5 (
 retG (.tuple [(.int .i64 v2), (.int .i64 v7)]) h_1 Ψ))

def s36_A (Ψ : AVal → Heap → Prop) : Ann :=
 .seq (.reg [⟨none, [(0, true), (1, false), (2, false)]⟩])
 (.seq (rA 1)
 (.seq (rA 11)
 (.seq (rA 11)
 (.seq (rA 4)
 (.leaf)))))

theorem s36_ok {Ψ : AVal → Heap → Prop} {l_n : Int} {l_leq : AVal} {h : Heap} (H : s36 Ψ l_n l_leq h) : ACalls prog 36 [(.agg [(.int .i64 l_n), l_leq])] h Ψ :=
 calls_of_evF func36 (by kernel_rfl) (by kernel_rfl) (by kernel_rfl)
 (Eq.mpr (by as_aux_lemma => kernel_rfl : oblF prog f36 (s36_A Ψ) Ψ = (otP 341)) (otP_ok 341))
 (Eq.mpr (by as_aux_lemma => kernel_rfl : evF prog f36 (s36_A Ψ) Ψ [(.agg [(.int .i64 l_n), l_leq])] h = s36 Ψ l_n l_leq h) H)

/- 38 dictum/worlds.Tidy -/
abbrev s38l1_T := AVal → AVal → AVal → AVal → Int → Int → Heap → Prop
def s38l1_R (F : s38l1_T) (l : List AVal) (h : Heap) : Prop := J.cons l fun x0 l => J.cons l fun x1 l => J.cons l fun x2 l => J.cons l fun x3 l => J.ci .i64 l fun x4 l => J.ci .i64 l fun x5 l => J.nil l (F x0 x1 x2 x3 x4 x5 h)
def s38l1_G (F : s38l1_T) (x0 x1 x2 x3 : AVal) (x4 x5 : Int) (h : Heap) : Prop := gJ [.any, .any, .any, .any, .int .i64, .int .i64] [x0, x1, x2, x3, (.int .i64 x4), (.int .i64 x5)] h (s38l1_R F)
def s38l1_E (F : Nat → s38l1_T) (x0 x1 x2 x3 : AVal) (x4 x5 : Int) (h : Heap) : Prop := gJ [.any, .any, .any, .any, .int .i64, .int .i64] [x0, x1, x2, x3, (.int .i64 x4), (.int .i64 x5)] h (fun l h => ∃ n, s38l1_R (F n) l h)
theorem s38l1_go {F : s38l1_T} {x0 x1 x2 x3 : AVal} {x4 x5 : Int} {h : Heap} (H : F x0 x1 x2 x3 x4 x5 h) : s38l1_G F x0 x1 x2 x3 x4 x5 h := gJ_plain rfl H
theorem s38l1_in {F : Nat → s38l1_T} {x0 x1 x2 x3 : AVal} {x4 x5 : Int} {h : Heap} (n : Nat) (H : F n x0 x1 x2 x3 x4 x5 h) : s38l1_E F x0 x1 x2 x3 x4 x5 h := gJ_plain rfl ⟨n, H⟩

abbrev s38l2_T := AVal → AVal → AVal → AVal → AVal → AVal → AVal → Int → Int → AVal → Int → Int → Heap → Prop
def s38l2_R (F : s38l2_T) (l : List AVal) (h : Heap) : Prop := J.cons l fun x0 l => J.cons l fun x1 l => J.cons l fun x2 l => J.cons l fun x3 l => J.cons l fun x4 l => J.cons l fun x5 l => J.cons l fun x6 l => J.ci .i64 l fun x7 l => J.ci .i64 l fun x8 l => J.cons l fun x9 l => J.ci .i64 l fun x10 l => J.ci .i64 l fun x11 l => J.nil l (F x0 x1 x2 x3 x4 x5 x6 x7 x8 x9 x10 x11 h)
def s38l2_G (F : s38l2_T) (x0 x1 x2 x3 x4 x5 x6 : AVal) (x7 x8 : Int) (x9 : AVal) (x10 x11 : Int) (h : Heap) : Prop := gJ [.any, .any, .any, .any, .any, .any, .any, .int .i64, .int .i64, .any, .int .i64, .int .i64] [x0, x1, x2, x3, x4, x5, x6, (.int .i64 x7), (.int .i64 x8), x9, (.int .i64 x10), (.int .i64 x11)] h (s38l2_R F)
def s38l2_E (F : Nat → s38l2_T) (x0 x1 x2 x3 x4 x5 x6 : AVal) (x7 x8 : Int) (x9 : AVal) (x10 x11 : Int) (h : Heap) : Prop := gJ [.any, .any, .any, .any, .any, .any, .any, .int .i64, .int .i64, .any, .int .i64, .int .i64] [x0, x1, x2, x3, x4, x5, x6, (.int .i64 x7), (.int .i64 x8), x9, (.int .i64 x10), (.int .i64 x11)] h (fun l h => ∃ n, s38l2_R (F n) l h)
theorem s38l2_go {F : s38l2_T} {x0 x1 x2 x3 x4 x5 x6 : AVal} {x7 x8 : Int} {x9 : AVal} {x10 x11 : Int} {h : Heap} (H : F x0 x1 x2 x3 x4 x5 x6 x7 x8 x9 x10 x11 h) : s38l2_G F x0 x1 x2 x3 x4 x5 x6 x7 x8 x9 x10 x11 h := gJ_plain rfl H
theorem s38l2_in {F : Nat → s38l2_T} {x0 x1 x2 x3 x4 x5 x6 : AVal} {x7 x8 : Int} {x9 : AVal} {x10 x11 : Int} {h : Heap} (n : Nat) (H : F n x0 x1 x2 x3 x4 x5 x6 x7 x8 x9 x10 x11 h) : s38l2_E F x0 x1 x2 x3 x4 x5 x6 x7 x8 x9 x10 x11 h := gJ_plain rfl ⟨n, H⟩

def s38c3 (Ψ : AVal → Heap → Prop) (L1 : s38l1_T) (L2 : s38l2_T) (m2 t2_2 leq2 out2 a1 next1 row1 : AVal) (t24_2 t25_2 : Int) (t32_1 : AVal) (t33_1 t34_1 : Int) (h : Heap) : Prop :=
 rg (t34_1 + 1) (
 L2 m2 t2_2 leq2 out2 a1 next1 row1 t24_2 t25_2 t32_1 t33_1 (t34_1 + 1) h)

def s38l2 (Ψ : AVal → Heap → Prop) (L1 : s38l1_T) : Nat → s38l2_T
 | 0, _, _, _, _, _, _, _, _, _, _, _, _, _ => False
 | n3 + 1, m1, t2_1, leq1, out1, a, next, row, t24_1, t25_1, t32, t33, t34, h =>
 ifT (decide (t34 < t33)) (
 ixS 1 t32 t34 fun p =>
 ld1 h p fun v10 =>
 tInt .i64 v10 fun v11 =>
 callV prog next [(.int .i64 v11)] h fun v12 h_11 =>
 tBool v12 fun v13 =>
 ifT v13 (
 appC 1 8 h_11 row (.lsl 1 [(.int .i64 v11)]) fun v14 h_12 =>
 s38c3 Ψ L1 (s38l2_G (s38l2 Ψ L1 n3)) m1 t2_1 leq1 out1 a next v14 t24_1 t25_1 t32 t33 t34 h_12) (
 s38c3 Ψ L1 (s38l2_G (s38l2 Ψ L1 n3)) m1 t2_1 leq1 out1 a next row t24_1 t25_1 t32 t33 t34 h_11)) (
 addOff out1 0 fun p1 =>
 ld1 h p1 fun v15 =>
 chk (sc row) (
 appC 1 24 h v15 (.lsl 1 [row]) fun v16 h_13 =>
 addOff out1 0 fun p2 =>
 chk (sc v16) (
 st true h_13 p2 [v16] fun h_14 =>
 addOff out1 1 fun p3 =>
 ld1 h_14 p3 fun v17 =>
 addOff m1 1 fun p4 =>
 ld1 h_14 p4 fun v18 =>
 ld1 h_14 a fun v19 =>
 tInt .i64 v19 fun v20 =>
 ixS 1 v18 v20 fun p5 =>
 ld1 h_14 p5 fun v21 =>
 callG prog 85 [v21] h_14 fun v22 h_15 =>
 (ld1 h_15 p3 fun v23 =>
 v23 = v17) ∧
 chk (sc v22) (
 (ld1 h_15 p3 fun v24 =>
 v24 = v17) ∧
 appC 1 24 h_15 v17 (.lsl 1 [v22]) fun v25 h_16 =>
 addOff out1 1 fun p6 =>
 chk (sc v25) (
 st true h_16 p6 [v25] fun h_17 =>
 rg (t25_1 + 1) (
 L1 m1 t2_1 leq1 out1 t24_1 (t25_1 + 1) h_17))))))

def s38l1 (Ψ : AVal → Heap → Prop) : Nat → s38l1_T
 | 0, _, _, _, _, _, _, _ => False
 | n1 + 1, m, t2, leq, out, t24, t25, h =>
 ifT (decide (t25 < t24)) (
 Sym.newRow 1 [(.int .i64 0)] h fun r3 h_6 =>
 st true h_6 (.ptr r3 0 0) [(.int .i64 t25)] fun h_7 =>
 ldN 2 h_7 m fun l_6 =>
 tCons l_6 fun v6 l_7 =>
 tCons l_7 fun v7 l_8 =>
 tNil l_8 (
 callG prog 80 [(.agg [v6, v7]), (.func (.func 81) [] [(.ptr r3 0 0), leq])] h_7 fun v8 h_8 =>
 Sym.newRow 1 [.nilsl] h_8 fun r4 h_9 =>
 chk (sc v8) (
 st true h_9 (.ptr r4 0 0) [v8] fun h_10 =>
 ld1 h_10 (.ptr r4 0 0) fun v9 =>
 lenN v9 fun n2 =>
 s38l2_E (s38l2 Ψ (s38l1_G (s38l1 Ψ n1))) m t2 leq out (.ptr r3 0 0) (.func (.func 82) [] [(.ptr r4 0 0), leq]) .nilsl t24 t25 v9 n2 0 h_10))) (
 ldN 2 h out fun l_9 =>
 tCons l_9 fun v26 l_10 =>
 tCons l_10 fun v27 l_11 =>
 tNil l_11 (
 st false h t2 [v26, v27] fun h_18 =>
 ldN 2 h_18 t2 fun l_12 =>
 tCons l_12 fun v28 l_13 =>
 tCons l_13 fun v29 l_14 =>
 tNil l_14 (
 retG (.tuple [(.agg [v28, v29]), (.int .i64 0)]) h_18 Ψ)))

def s38 (Ψ : AVal → Heap → Prop) (m_Up : AVal) (m_Val : AVal) (h : Heap) : Prop :=
 Sym.newRow 2 [(.agg [.nilsl, .nilsl])] h fun r h_ =>
 callG prog 79 [(.agg [m_Up, m_Val]), .nilsl] h_ fun v h_1 =>
 tTup v fun l_ =>
 tCons l_ fun v1 l_1 =>
 tCons l_1 fun v2 l_2 =>
 tInt .i64 v2 fun v3 =>
 tNil l_2 (
 Sym.newRow 1 [.nilfunc] h_1 fun r1 h_2 =>
 chk (sc v1) (
 st true h_2 (.ptr r1 0 0) [v1] fun h_3 =>
 ifT (v3 != 0) (
 st false h_3 (.ptr r 0 0) [.nilsl, .nilsl] fun h_4 =>
 ldN 2 h_4 (.ptr r 0 0) fun l_3 =>
 tCons l_3 fun v4 l_4 =>
 tCons l_4 fun v5 l_5 =>
 tNil l_5 (
 retG (.tuple [(.agg [v4, v5]), (.int .i64 v3)]) h_4 Ψ)) (
 Sym.newRow 2 [(.agg [.nilsl, .nilsl])] h_3 fun r2 h_5 =>
 lenN m_Up fun n =>
 s38l1_E (s38l1 Ψ) (.lptr [m_Up, m_Val]) (.ptr r 0 0) (.ptr r1 0 0) (.ptr r2 0 0) n 0 h_5)))

def s38_A (Ψ : AVal → Heap → Prop) : Ann :=
 .seq (.reg [⟨none, [(0, true), (1, false), (2, false)]⟩])
 (.seq (rA 8)
 (.seq (.seq (rA 2)
 (.cond (.seq (rA 4)
 (.leaf))
 (.leaf)))
 (.seq (rA 1)
 (.seq (.seq (rA 4)
 (.block (.loop [(1, .any), (2, .any), (4, .any), (6, .any), (24, .int .i64), (25, .int .i64)] (fun n l h => s38l1_R (s38l1 Ψ n) l h) (fun L1 =>
 .seq (rA 1)
 (.seq (.cond (.leaf)
 (.leaf))
 (.seq (.block (.seq (rA 3)
 (.seq (rA 5)
 (.seq (rA 2)
 (.seq (rA 1)
 (.seq (.seq (rA 3)
 (.block (.loop [(1, .any), (2, .any), (4, .any), (6, .any), (7, .any), (9, .any), (10, .any), (24, .int .i64), (25, .int .i64), (32, .any), (33, .int .i64), (34, .int .i64)] (fun n l h => s38l2_R (s38l2 Ψ (fun y0 y1 y2 y3 y4 y5 h => L1 [y0, y1, y2, y3, (.int .i64 y4), (.int .i64 y5)] h) n) l h) (fun L2 =>
 .seq (rA 1)
 (.seq (.cond (.leaf)
 (.leaf))
 (.cut [(1, .any), (2, .any), (4, .any), (6, .any), (7, .any), (9, .any), (10, .any), (24, .int .i64), (25, .int .i64), (32, .any), (33, .int .i64), (34, .int .i64)] (fun l h => J.cons l fun x0 l => J.cons l fun x1 l => J.cons l fun x2 l => J.cons l fun x3 l => J.cons l fun x4 l => J.cons l fun x5 l => J.cons l fun x6 l => J.ci .i64 l fun x7 l => J.ci .i64 l fun x8 l => J.cons l fun x9 l => J.ci .i64 l fun x10 l => J.ci .i64 l fun x11 l => J.nil l (s38c3 Ψ (fun y0 y1 y2 y3 y4 y5 h => L1 [y0, y1, y2, y3, (.int .i64 y4), (.int .i64 y5)] h) (fun y0 y1 y2 y3 y4 y5 y6 y7 y8 y9 y10 y11 h => L2 [y0, y1, y2, y3, y4, y5, y6, (.int .i64 y7), (.int .i64 y8), y9, (.int .i64 y10), (.int .i64 y11)] h) x0 x1 x2 x3 x4 x5 x6 x7 x8 x9 x10 x11 h)) (.block (.seq (rA 3)
 (.seq (rA 3)
 (.cond (.reg [⟨none, [(0, false), (1, false), (2, true), (3, false), (4, false)]⟩])
 (.leaf)))))
 (rA 2)))))))
 (.seq (.reg [⟨none, [(0, false), (1, false), (2, false), (3, true), (4, false), (5, false), (6, false)]⟩])
 (.draw [(0, false), (1, false), (2, false), (3, false), (4, false), (5, false), (6, false), (7, false), (8, true), (9, false), (10, false), (11, false)] [0, 1, 0, 4, 0, 28, 60, 124, 252, 511, 1023, 2047]))))))))
 (rA 2)))))))
 (.seq (rA 3)
 (.leaf))))))

theorem s38_ok {Ψ : AVal → Heap → Prop} {m_Up : AVal} {m_Val : AVal} {h : Heap} (H : s38 Ψ m_Up m_Val h) : ACalls prog 38 [(.agg [m_Up, m_Val])] h Ψ :=
 calls_of_evF func38 (by kernel_rfl) (by kernel_rfl) (by kernel_rfl)
 (Eq.mpr (by as_aux_lemma => kernel_rfl : oblF prog f38 (s38_A Ψ) Ψ = ((True) ∧ ((True) ∧ ((otP 13) ∧ ((True) ∧ (((True) ∧ ((∀ (h : Heap) (x0 x1 x2 x3 : AVal) (x4 x5 : Int), ON (s38l1 Ψ 0 x0 x1 x2 x3 x4 x5 h)) ∧ (∀ n1 : Nat, (∀ (h : Heap) (x0 x1 x2 x3 : AVal) (x4 x5 : Int), OI (s38l1 Ψ (n1 + 1) x0 x1 x2 x3 x4 x5 h)) ∧ ((True) ∧ ((otP 1) ∧ (((True) ∧ ((True) ∧ ((True) ∧ ((True) ∧ (((True) ∧ ((∀ (h : Heap) (x0 x1 x2 x3 x4 x5 x6 : AVal) (x7 x8 : Int) (x9 : AVal) (x10 x11 : Int), ON (s38l2 Ψ (s38l1_G (s38l1 Ψ n1)) 0 x0 x1 x2 x3 x4 x5 x6 x7 x8 x9 x10 x11 h)) ∧ (∀ n2 : Nat, (∀ (h : Heap) (x0 x1 x2 x3 x4 x5 x6 : AVal) (x7 x8 : Int) (x9 : AVal) (x10 x11 : Int), OI (s38l2 Ψ (s38l1_G (s38l1 Ψ n1)) (n2 + 1) x0 x1 x2 x3 x4 x5 x6 x7 x8 x9 x10 x11 h)) ∧ ((True) ∧ ((otP 1) ∧ ((otP 21) ∧ ((∀ (h : Heap) (x0 x1 x2 x3 x4 x5 x6 : AVal) (x7 x8 : Int) (x9 : AVal) (x10 x11 : Int), OI (s38c3 Ψ (s38l1_G (s38l1 Ψ n1)) (s38l2_G (s38l2 Ψ (s38l1_G (s38l1 Ψ n1)) n2)) x0 x1 x2 x3 x4 x5 x6 x7 x8 x9 x10 x11 h)) ∧ (True)))))))) ∧ (otP 1)))))) ∧ (True))))))) ∧ (otP 1))))))) (⟨trivial, ⟨trivial, ⟨otP_ok 13, ⟨trivial, ⟨⟨trivial, ⟨fun _ _ _ _ _ _ _ H => H, fun _ => ⟨fun _ _ _ _ _ _ _ H => H, ⟨trivial, ⟨otP_ok 1, ⟨⟨trivial, ⟨trivial, ⟨trivial, ⟨trivial, ⟨⟨trivial, ⟨fun _ _ _ _ _ _ _ _ _ _ _ _ _ H => H, fun _ => ⟨fun _ _ _ _ _ _ _ _ _ _ _ _ _ H => H, ⟨trivial, ⟨otP_ok 1, ⟨otP_ok 21, ⟨fun _ _ _ _ _ _ _ _ _ _ _ _ _ H => H, trivial⟩⟩⟩⟩⟩⟩⟩, otP_ok 1⟩⟩⟩⟩⟩, trivial⟩⟩⟩⟩⟩⟩, otP_ok 1⟩⟩⟩⟩⟩))
 (Eq.mpr (by as_aux_lemma => kernel_rfl : evF prog f38 (s38_A Ψ) Ψ [(.agg [m_Up, m_Val])] h = s38 Ψ m_Up m_Val h) H)

/- 43 dictum/heyting.Imp -/
def s43 (Ψ : AVal → Heap → Prop) (a_Leq : AVal) (x : Int) (y : Int) (h : Heap) : Prop :=
 callG prog 35 [(.agg [a_Leq]), (.lsl 1 [(.int .i64 x), (.int .i64 y)])] h fun v h_ =>
 tTup v fun l_ =>
 tCons l_ fun v1 l_1 =>
 tCons l_1 fun v2 l_2 =>
 tInt .i64 v2 fun v3 =>
 tNil l_2 (
 tAgg v1 fun l_3 =>
 tCons l_3 fun v4 l_4 =>
 tInt .i64 v4 fun v5 =>
 tCons l_4 fun v6 l_5 =>
 tNil l_5 (
 Sym.newRow 2 [(.agg [(.int .i64 0), .nilfunc])] h_ fun r h_1 =>
 st false h_1 (.ptr r 0 0) [(.int .i64 v5), v6] fun h_2 =>
 ifT (v3 != 0) (
 retG (.tuple [(.int .i64 0), (.int .i64 v3)]) h_2 Ψ) (
 ldN 2 h_2 (.ptr r 0 0) fun l_6 =>
 tCons l_6 fun v7 l_7 =>
 tInt .i64 v7 fun v8 =>
 tCons l_7 fun v9 l_8 =>
 tNil l_8 (
 callG prog 51 [(.agg [(.int .i64 v8), v9]), (.int .i64 x), (.int .i64 y)] h_2 fun v10 h_3 =>
 tInt .i64 v10 fun v11 =>
 retG (.tuple [(.int .i64 v11), (.int .i64 0)]) h_3 Ψ))))

def s43_A (Ψ : AVal → Heap → Prop) : Ann :=
 .seq (.reg [⟨none, [(0, true), (1, false), (2, false)]⟩])
 (.seq (.reg [⟨none, [(0, false), (1, false), (2, false), (3, true), (4, false), (5, false), (6, false), (7, false), (8, false), (9, false), (10, false)]⟩])
 (.seq (.seq (rA 2)
 (.cond (.seq (rA 3)
 (.leaf))
 (.leaf)))
 (.seq (rA 6)
 (.leaf))))

theorem s43_ok {Ψ : AVal → Heap → Prop} {a_Leq : AVal} {x : Int} {y : Int} {h : Heap} (H : s43 Ψ a_Leq x y h) : ACalls prog 43 [(.agg [a_Leq]), (.int .i64 x), (.int .i64 y)] h Ψ :=
 calls_of_evF func43 (by kernel_rfl) (by kernel_rfl) (by kernel_rfl)
 (Eq.mpr (by as_aux_lemma => kernel_rfl : oblF prog f43 (s43_A Ψ) Ψ = (otP 4533)) (otP_ok 4533))
 (Eq.mpr (by as_aux_lemma => kernel_rfl : evF prog f43 (s43_A Ψ) Ψ [(.agg [a_Leq]), (.int .i64 x), (.int .i64 y)] h = s43 Ψ a_Leq x y h) H)

/- 45 dictum/heyting.Check -/
def s45 (Ψ : AVal → Heap → Prop) (a_Leq : AVal) (h : Heap) : Prop :=
 callG prog 35 [(.agg [a_Leq]), .nilsl] h fun v h_ =>
 tTup v fun l_ =>
 tCons l_ fun v1 l_1 =>
 tCons l_1 fun v2 l_2 =>
 tInt .i64 v2 fun v3 =>
 tNil l_2 (
 tAgg v1 fun l_3 =>
 tCons l_3 fun v4 l_4 =>
 tInt .i64 v4 fun v5 =>
 tCons l_4 fun v6 l_5 =>
 tNil l_5 (
 Sym.newRow 2 [(.agg [(.int .i64 0), .nilfunc])] h_ fun r h_1 =>
 st false h_1 (.ptr r 0 0) [(.int .i64 v5), v6] fun h_2 =>
 retG (.int .i64 v3) h_2 Ψ))

def s45_A (Ψ : AVal → Heap → Prop) : Ann :=
 .seq (.reg [⟨none, [(0, true), (1, false)]⟩])
 (.seq (rA 8)
 (.seq (rA 2)
 (.leaf)))

theorem s45_ok {Ψ : AVal → Heap → Prop} {a_Leq : AVal} {h : Heap} (H : s45 Ψ a_Leq h) : ACalls prog 45 [(.agg [a_Leq])] h Ψ :=
 calls_of_evF func45 (by kernel_rfl) (by kernel_rfl) (by kernel_rfl)
 (Eq.mpr (by as_aux_lemma => kernel_rfl : oblF prog f45 (s45_A Ψ) Ψ = (otP 21)) (otP_ok 21))
 (Eq.mpr (by as_aux_lemma => kernel_rfl : evF prog f45 (s45_A Ψ) Ψ [(.agg [a_Leq])] h = s45 Ψ a_Leq h) H)

/- 47 dictum/formula.From -/
abbrev s47l1_T := AVal → AVal → Int → Int → Heap → Prop
def s47l1_R (F : s47l1_T) (l : List AVal) (h : Heap) : Prop := J.cons l fun x0 l => J.cons l fun x1 l => J.ci .i64 l fun x2 l => J.ci .i64 l fun x3 l => J.nil l (F x0 x1 x2 x3 h)
def s47l1_G (F : s47l1_T) (x0 x1 : AVal) (x2 x3 : Int) (h : Heap) : Prop := gJ [.any, .any, .int .i64, .int .i64] [x0, x1, (.int .i64 x2), (.int .i64 x3)] h (s47l1_R F)
def s47l1_E (F : Nat → s47l1_T) (x0 x1 : AVal) (x2 x3 : Int) (h : Heap) : Prop := gJ [.any, .any, .int .i64, .int .i64] [x0, x1, (.int .i64 x2), (.int .i64 x3)] h (fun l h => ∃ n, s47l1_R (F n) l h)
theorem s47l1_go {F : s47l1_T} {x0 x1 : AVal} {x2 x3 : Int} {h : Heap} (H : F x0 x1 x2 x3 h) : s47l1_G F x0 x1 x2 x3 h := gJ_plain rfl H
theorem s47l1_in {F : Nat → s47l1_T} {x0 x1 : AVal} {x2 x3 : Int} {h : Heap} (n : Nat) (H : F n x0 x1 x2 x3 h) : s47l1_E F x0 x1 x2 x3 h := gJ_plain rfl ⟨n, H⟩

def s47c2 (Ψ : AVal → Heap → Prop) (L1 : s47l1_T) (t1 : AVal) (e : Int) (t10_1 : AVal) (t11_1 t12_1 : Int) (h : Heap) : Prop :=
 ifT (e != 0) (
 retG (.tuple [.nilptr, (.int .i64 e)]) h Ψ) (
 rg (t12_1 + 1) (
 L1 t1 t10_1 t11_1 (t12_1 + 1) h))

def s47c3 (Ψ : AVal → Heap → Prop) (L1 : s47l1_T) (t2 : AVal) (e1 : Int) (t10_2 : AVal) (t11_2 t12_2 : Int) (t29 : Bool) (h : Heap) : Prop :=
 ifT t29 (
 s47c2 Ψ L1 t2 31 t10_2 t11_2 t12_2 h) (
 s47c2 Ψ L1 t2 e1 t10_2 t11_2 t12_2 h)

def s47l1 (Ψ : AVal → Heap → Prop) : Nat → s47l1_T
 | 0, _, _, _, _, _ => False
 | n1 + 1, t, t10, t11, t12, h =>
 ifT (decide (t12 < t11)) (
 ixS 4 t10 t12 fun p =>
 ldN 4 h p fun l_ =>
 tCons l_ fun v1 l_1 =>
 tInt .i64 v1 fun v2 =>
 tCons l_1 fun v3 l_2 =>
 tStr v3 fun v4 =>
 tCons l_2 fun v5 l_3 =>
 tInt .i64 v5 fun v6 =>
 tCons l_3 fun v7 l_4 =>
 tInt .i64 v7 fun v8 =>
 tNil l_4 (
 Sym.newRow 4 [(.agg [(.int .i64 0), (.str (ByteArray.mk #[])), (.int .i64 0), (.int .i64 0)])] h fun r h_1 =>
 st false h_1 (.ptr r 0 0) [(.int .i64 v2), (.str v4), (.int .i64 v6), (.int .i64 v8)] fun h_2 =>
 ldN 4 h_2 (.ptr r 0 0) fun l_5 =>
 tCons l_5 fun v9 l_6 =>
 tInt .i64 v9 fun v10 =>
 tCons l_6 fun v11 l_7 =>
 tStr v11 fun v12 =>
 tCons l_7 fun v13 l_8 =>
 tInt .i64 v13 fun v14 =>
 tCons l_8 fun v15 l_9 =>
 tInt .i64 v15 fun v16 =>
 tNil l_9 (
 callG prog 90 [t, (.agg [(.int .i64 v10), (.str v12), (.int .i64 v14), (.int .i64 v16)])] h_2 fun v17 h_3 =>
 tTup v17 fun l_10 =>
 tCons l_10 fun v18 l_11 =>
 tInt .i64 v18 fun v19 =>
 tCons l_11 fun v20 l_12 =>
 tInt .i64 v20 fun v21 =>
 tNil l_12 (
 ifT (v21 == 0) (
 s47c3 Ψ (s47l1_G (s47l1 Ψ n1)) t v21 t10 t11 t12 (v19 != t12) h_3) (
 s47c3 Ψ (s47l1_G (s47l1 Ψ n1)) t v21 t10 t11 t12 false h_3))))) (
 retG (.tuple [t, (.int .i64 0)]) h Ψ)

def s47 (Ψ : AVal → Heap → Prop) (rows : AVal) (h : Heap) : Prop :=
 callG prog 89 [] h fun v h_ =>
 lenN rows fun n =>
 s47l1_E (s47l1 Ψ) v rows n 0 h_

def s47_A (Ψ : AVal → Heap → Prop) : Ann :=
 .seq (rA 2)
 (.seq (rA 2)
 (.seq (.seq (rA 3)
 (.block (.loop [(4, .any), (10, .any), (11, .int .i64), (12, .int .i64)] (fun n l h => s47l1_R (s47l1 Ψ n) l h) (fun L1 =>
 .seq (rA 1)
 (.seq (.cond (.leaf)
 (.leaf))
 (.seq (.block (.seq (rA 6)
 (.seq (rA 8)
 (.cut [(4, .any), (8, .int .i64), (10, .any), (11, .int .i64), (12, .int .i64)] (fun l h => J.cons l fun x0 l => J.ci .i64 l fun x1 l => J.cons l fun x2 l => J.ci .i64 l fun x3 l => J.ci .i64 l fun x4 l => J.nil l (s47c2 Ψ (fun y0 y1 y2 y3 h => L1 [y0, y1, (.int .i64 y2), (.int .i64 y3)] h) x0 x1 x2 x3 x4 h)) (.cut [(4, .any), (8, .int .i64), (10, .any), (11, .int .i64), (12, .int .i64), (29, .bool)] (fun l h => J.cons l fun x0 l => J.ci .i64 l fun x1 l => J.cons l fun x2 l => J.ci .i64 l fun x3 l => J.ci .i64 l fun x4 l => J.cb l fun x5 l => J.nil l (s47c3 Ψ (fun y0 y1 y2 y3 h => L1 [y0, y1, (.int .i64 y2), (.int .i64 y3)] h) x0 x1 x2 x3 x4 x5 h)) (.reg [⟨none, [(0, false), (1, false), (2, false)]⟩, ⟨some (25, true), [(3, false), (4, false), (5, false)]⟩, ⟨none, [(6, false)]⟩])
 (.cond (rA 1)
 (.leaf)))
 (.seq (rA 2)
 (.cond (.seq (rA 3)
 (.leaf))
 (.leaf)))))))
 (rA 2)))))))
 (.seq (rA 3)
 (.leaf))))

theorem s47_ok {Ψ : AVal → Heap → Prop} {rows : AVal} {h : Heap} (H : s47 Ψ rows h) : ACalls prog 47 [rows] h Ψ :=
 calls_of_evF func47 (by kernel_rfl) (by kernel_rfl) (by kernel_rfl)
 (Eq.mpr (by as_aux_lemma => kernel_rfl : oblF prog f47 (s47_A Ψ) Ψ = ((True) ∧ ((True) ∧ (((True) ∧ ((∀ (h : Heap) (x0 x1 : AVal) (x2 x3 : Int), ON (s47l1 Ψ 0 x0 x1 x2 x3 h)) ∧ (∀ n1 : Nat, (∀ (h : Heap) (x0 x1 : AVal) (x2 x3 : Int), OI (s47l1 Ψ (n1 + 1) x0 x1 x2 x3 h)) ∧ ((True) ∧ ((otP 1) ∧ (((True) ∧ ((True) ∧ (((True) ∧ ((∀ (h : Heap) (x0 : AVal) (x1 : Int) (x2 : AVal) (x3 x4 : Int) (x5 : Bool), OI (s47c3 Ψ (s47l1_G (s47l1 Ψ n1)) x0 x1 x2 x3 x4 x5 h)) ∧ (otP 1))) ∧ ((∀ (h : Heap) (x0 : AVal) (x1 : Int) (x2 : AVal) (x3 x4 : Int), OI (s47c2 Ψ (s47l1_G (s47l1 Ψ n1)) x0 x1 x2 x3 x4 h)) ∧ (otP 13))))) ∧ (True))))))) ∧ (otP 1))))) (⟨trivial, ⟨trivial, ⟨⟨trivial, ⟨fun _ _ _ _ _ H => H, fun _ => ⟨fun _ _ _ _ _ H => H, ⟨trivial, ⟨otP_ok 1, ⟨⟨trivial, ⟨trivial, ⟨⟨trivial, ⟨fun _ _ _ _ _ _ _ H => H, otP_ok 1⟩⟩, ⟨fun _ _ _ _ _ _ H => H, otP_ok 13⟩⟩⟩⟩, trivial⟩⟩⟩⟩⟩⟩, otP_ok 1⟩⟩⟩))
 (Eq.mpr (by as_aux_lemma => kernel_rfl : evF prog f47 (s47_A Ψ) Ψ [rows] h = s47 Ψ rows h) H)

/- 49 (*dictum/formula.Table).Node -/
def s49c1 (Ψ : AVal → Heap → Prop) (t1 : AVal) (id_1 : Int) (t4 : AVal) (t14 : Bool) (h : Heap) : Prop :=
 ifT t14 (
 st false h t4 [(.int .i64 0), (.str (ByteArray.mk #[])), (.int .i64 0), (.int .i64 0)] fun h_1 =>
 ldN 4 h_1 t4 fun l_ =>
 tCons l_ fun v l_1 =>
 tInt .i64 v fun v1 =>
 tCons l_1 fun v2 l_2 =>
 tStr v2 fun v3 =>
 tCons l_2 fun v4 l_3 =>
 tInt .i64 v4 fun v5 =>
 tCons l_3 fun v6 l_4 =>
 tInt .i64 v6 fun v7 =>
 tNil l_4 (
 retG (.tuple [(.agg [(.int .i64 v1), (.str v3), (.int .i64 v5), (.int .i64 v7)]), (.bool false)]) h_1 Ψ)) (
 nilCheckA t1 fun p =>
 addOff p 0 fun p1 =>
 ld1 h p1 fun v8 =>
 ixS 4 v8 id_1 fun p2 =>
 ldN 4 h p2 fun l_5 =>
 tCons l_5 fun v9 l_6 =>
 tInt .i64 v9 fun v10 =>
 tCons l_6 fun v11 l_7 =>
 tStr v11 fun v12 =>
 tCons l_7 fun v13 l_8 =>
 tInt .i64 v13 fun v14 =>
 tCons l_8 fun v15 l_9 =>
 tInt .i64 v15 fun v16 =>
 tNil l_9 (
 st false h t4 [(.int .i64 v10), (.str v12), (.int .i64 v14), (.int .i64 v16)] fun h_2 =>
 ldN 4 h_2 t4 fun l_10 =>
 tCons l_10 fun v17 l_11 =>
 tInt .i64 v17 fun v18 =>
 tCons l_11 fun v19 l_12 =>
 tStr v19 fun v20 =>
 tCons l_12 fun v21 l_13 =>
 tInt .i64 v21 fun v22 =>
 tCons l_13 fun v23 l_14 =>
 tInt .i64 v23 fun v24 =>
 tNil l_14 (
 retG (.tuple [(.agg [(.int .i64 v18), (.str v20), (.int .i64 v22), (.int .i64 v24)]), (.bool true)]) h_2 Ψ)))

def s49 (Ψ : AVal → Heap → Prop) (t : AVal) (id_ : Int) (h : Heap) : Prop :=
 Sym.newRow 4 [(.agg [(.int .i64 0), (.str (ByteArray.mk #[])), (.int .i64 0), (.int .i64 0)])] h fun r h_ =>
 callG prog 91 [t] h_ fun v25 h_3 =>
 tBool v25 fun v26 =>
 ifT (!v26) (
 s49c1 Ψ t id_ (.ptr r 0 0) true h_3) (
 callG prog 92 [t, (.int .i64 id_)] h_3 fun v27 h_4 =>
 tBool v27 fun v28 =>
 s49c1 Ψ t id_ (.ptr r 0 0) (!v28) h_4)

def s49_A (Ψ : AVal → Heap → Prop) : Ann :=
 .seq (rA 2)
 (.seq (.cut [(0, .any), (1, .int .i64), (4, .any), (14, .bool)] (fun l h => J.cons l fun x0 l => J.ci .i64 l fun x1 l => J.cons l fun x2 l => J.cb l fun x3 l => J.nil l (s49c1 Ψ x0 x1 x2 x3 h)) (.reg [⟨none, [(0, false), (1, false), (2, false), (3, false)]⟩, ⟨some (9, false), [(4, false), (5, false), (6, false), (7, false)]⟩, ⟨none, [(8, false)]⟩])
 (.cond (.seq (rA 3)
 (.leaf))
 (.leaf)))
 (.seq (rA 9)
 (.leaf)))

theorem s49_ok {Ψ : AVal → Heap → Prop} {t : AVal} {id_ : Int} {h : Heap} (H : s49 Ψ t id_ h) : ACalls prog 49 [t, (.int .i64 id_)] h Ψ :=
 calls_of_evF func49 (by kernel_rfl) (by kernel_rfl) (by kernel_rfl)
 (Eq.mpr (by as_aux_lemma => kernel_rfl : oblF prog f49 (s49_A Ψ) Ψ = ((True) ∧ (((True) ∧ ((∀ (h : Heap) (x0 : AVal) (x1 : Int) (x2 : AVal) (x3 : Bool), OI (s49c1 Ψ x0 x1 x2 x3 h)) ∧ (otP 3))) ∧ (otP 1)))) (⟨trivial, ⟨⟨trivial, ⟨fun _ _ _ _ _ H => H, otP_ok 3⟩⟩, otP_ok 1⟩⟩))
 (Eq.mpr (by as_aux_lemma => kernel_rfl : evF prog f49 (s49_A Ψ) Ψ [t, (.int .i64 id_)] h = s49 Ψ t id_ h) H)

/- 51 (dictum/heyting.lattice).imp -/
def s51 (Ψ : AVal → Heap → Prop) (l_n : Int) (l_leq : AVal) (x : Int) (y : Int) (h : Heap) : Prop :=
 callG prog 75 [(.int .i64 l_n), (.func (.func 96) [] [(.lptr [(.int .i64 l_n), l_leq]), (.lptr [(.int .i64 x)]), (.lptr [(.int .i64 y)])]), (.func (.func 77) [(.agg [(.int .i64 l_n), l_leq])] [])] h fun v h_ =>
 tTup v fun l_ =>
 tCons l_ fun v1 l_1 =>
 tInt .i64 v1 fun v2 =>
 tCons l_1 fun v3 l_2 =>
 tBool v3 fun v4 =>
 tNil l_2 (
 retG (.int .i64 v2) h_ Ψ)

def s51_A (Ψ : AVal → Heap → Prop) : Ann :=
 .seq (.reg [⟨none, [(0, true), (1, true), (2, true), (3, false)]⟩])
 (.seq (rA 11)
 (.seq (rA 2)
 (.leaf)))

theorem s51_ok {Ψ : AVal → Heap → Prop} {l_n : Int} {l_leq : AVal} {x : Int} {y : Int} {h : Heap} (H : s51 Ψ l_n l_leq x y h) : ACalls prog 51 [(.agg [(.int .i64 l_n), l_leq]), (.int .i64 x), (.int .i64 y)] h Ψ :=
 calls_of_evF func51 (by kernel_rfl) (by kernel_rfl) (by kernel_rfl)
 (Eq.mpr (by as_aux_lemma => kernel_rfl : oblF prog f51 (s51_A Ψ) Ψ = (otP 21)) (otP_ok 21))
 (Eq.mpr (by as_aux_lemma => kernel_rfl : evF prog f51 (s51_A Ψ) Ψ [(.agg [(.int .i64 l_n), l_leq]), (.int .i64 x), (.int .i64 y)] h = s51 Ψ l_n l_leq x y h) H)

/- 56 (*dictum/force.eye).world -/
def s56 (Ψ : AVal → Heap → Prop) (y : AVal) (w : Int) (h : Heap) : Prop :=
 ifT (decide (0 ≤ w)) (
 nilCheckA y fun p =>
 addOff p 1 fun p1 =>
 addOff p1 0 fun p2 =>
 ld1 h p2 fun v =>
 lenN v fun n =>
 retG (.bool (decide (w < n))) h Ψ) (
 retG (.bool false) h Ψ)

def s56_A (Ψ : AVal → Heap → Prop) : Ann :=
 .seq (rA 1)
 (.seq (.reg [⟨none, [(0, false), (1, false), (2, false)]⟩, ⟨some (7, true), [(3, false), (4, false), (5, false), (6, false), (7, false), (8, false), (9, false), (10, false)]⟩, ⟨none, [(11, false), (12, false)]⟩])
 (.leaf))

theorem s56_ok {Ψ : AVal → Heap → Prop} {y : AVal} {w : Int} {h : Heap} (H : s56 Ψ y w h) : ACalls prog 56 [y, (.int .i64 w)] h Ψ :=
 calls_of_evF func56 (by kernel_rfl) (by kernel_rfl) (by kernel_rfl)
 (Eq.mpr (by as_aux_lemma => kernel_rfl : oblF prog f56 (s56_A Ψ) Ψ = (otP 5)) (otP_ok 5))
 (Eq.mpr (by as_aux_lemma => kernel_rfl : evF prog f56 (s56_A Ψ) Ψ [y, (.int .i64 w)] h = s56 Ψ y w h) H)

/- 58 (*dictum/force.eye).forces -/
def s58c2 (Ψ : AVal → Heap → Prop) (is1 : Bool) (h : Heap) : Prop :=
 retG (.bool is1) h Ψ

def s58c1 (Ψ : AVal → Heap → Prop) (w1 id_1 : Int) (y1 : AVal) (is : Bool) (h : Heap) : Prop :=
 ld1 h y1 fun v16 =>
 nilCheckA v16 fun p4 =>
 addOff p4 4 fun p5 =>
 ld1 h p5 fun v17 =>
 mapPut h v17 (.agg [(.int .i64 w1), (.int .i64 id_1)]) (.int .i64 1) fun h_3 =>
 ifT is (
 ld1 h_3 y1 fun v18 =>
 nilCheckA v18 fun p6 =>
 addOff p6 4 fun p7 =>
 ld1 h_3 p7 fun v19 =>
 mapGet (.int .i64 0) h_3 v19 (.agg [(.int .i64 w1), (.int .i64 id_1)]) fun v20 b1 =>
 tInt .i64 v20 fun v21 =>
 rg (v21 + 1) (
 mapEnt (.int .i64 0) h_3 v19 (.agg [(.int .i64 w1), (.int .i64 id_1)]) fun v22 b2 h_4 =>
 (mapGet (.int .i64 0) h_4 v19 (.agg [(.int .i64 w1), (.int .i64 id_1)]) fun v23 b3 =>
 v23 = (.int .i64 v21)) ∧
 entSt h_4 v19 b2 (.int .i64 (v21 + 1)) fun h_5 =>
 s58c2 Ψ is h_5)) (
 s58c2 Ψ is h_3)

def s58 (Ψ : AVal → Heap → Prop) (y : AVal) (w : Int) (id_ : Int) (h : Heap) : Prop :=
 chk (sc y) (
 nilCheckA y fun p =>
 addOff p 4 fun p1 =>
 ld1 h p1 fun v =>
 mapGet (.int .i64 0) h v (.agg [(.int .i64 w), (.int .i64 id_)]) fun v1 b =>
 tInt .i64 v1 fun v2 =>
 ifT (decide (0 < v2)) (
 retG (.bool (v2 == 2)) h Ψ) (
 nilCheckA y fun p2 =>
 addOff p2 0 fun p3 =>
 ld1 h p3 fun v3 =>
 callG prog 49 [v3, (.int .i64 id_)] h fun v4 h_ =>
 tTup v4 fun l_ =>
 tCons l_ fun v5 l_1 =>
 tCons l_1 fun v6 l_2 =>
 tBool v6 fun v7 =>
 tNil l_2 (
 tAgg v5 fun l_3 =>
 tCons l_3 fun v8 l_4 =>
 tInt .i64 v8 fun v9 =>
 tCons l_4 fun v10 l_5 =>
 tStr v10 fun v11 =>
 tCons l_5 fun v12 l_6 =>
 tInt .i64 v12 fun v13 =>
 tCons l_6 fun v14 l_7 =>
 tInt .i64 v14 fun v15 =>
 tNil l_7 (
 Sym.newRow 4 [(.agg [(.int .i64 0), (.str (ByteArray.mk #[])), (.int .i64 0), (.int .i64 0)])] h_ fun r h_1 =>
 st false h_1 (.ptr r 0 0) [(.int .i64 v9), (.str v11), (.int .i64 v13), (.int .i64 v15)] fun h_2 =>
 ld1 h_2 (.ptr r 0 0) fun v24 =>
 tInt .i64 v24 fun v25 =>
 ifT (v25 == 1) (
 nilCheckA y fun p8 =>
 addOff p8 1 fun p9 =>
 addOff p9 1 fun p10 =>
 ld1 h_2 p10 fun v26 =>
 ixS 1 v26 w fun p11 =>
 ld1 h_2 p11 fun v27 =>
 ld1 h_2 (.ptr r 0 1) fun v28 =>
 tStr v28 fun v29 =>
 callG prog 99 [v27, (.str v29)] h_2 fun v30 h_6 =>
 tBool v30 fun v31 =>
 s58c1 Ψ w id_ (.lptr [y]) v31 h_6) (
 ifT (v25 == 3) (
 ld1 h_2 (.ptr r 0 2) fun v32 =>
 tInt .i64 v32 fun v33 =>
 callG prog 58 [y, (.int .i64 w), (.int .i64 v33)] h_2 fun v34 h_7 =>
 tBool v34 fun v35 =>
 ifT v35 (
 ld1 h_7 (.ptr r 0 3) fun v36 =>
 tInt .i64 v36 fun v37 =>
 callG prog 58 [y, (.int .i64 w), (.int .i64 v37)] h_7 fun v38 h_8 =>
 tBool v38 fun v39 =>
 s58c1 Ψ w id_ (.lptr [y]) v39 h_8) (
 s58c1 Ψ w id_ (.lptr [y]) false h_7)) (
 ifT (v25 == 4) (
 ld1 h_2 (.ptr r 0 2) fun v40 =>
 tInt .i64 v40 fun v41 =>
 callG prog 58 [y, (.int .i64 w), (.int .i64 v41)] h_2 fun v42 h_9 =>
 tBool v42 fun v43 =>
 ifT v43 (
 s58c1 Ψ w id_ (.lptr [y]) true h_9) (
 ld1 h_9 (.ptr r 0 3) fun v44 =>
 tInt .i64 v44 fun v45 =>
 callG prog 58 [y, (.int .i64 w), (.int .i64 v45)] h_9 fun v46 h_10 =>
 tBool v46 fun v47 =>
 s58c1 Ψ w id_ (.lptr [y]) v47 h_10)) (
 ifT (v25 == 5) (
 nilCheckA y fun p12 =>
 addOff p12 3 fun p13 =>
 ld1 h_2 p13 fun v48 =>
 ixS 1 v48 w fun p14 =>
 ld1 h_2 p14 fun v49 =>
 callG prog 83 [v49, (.func (.func 100) [] [(.lptr [y]), (.ptr r 0 0)])] h_2 fun v50 h_11 =>
 tBool v50 fun v51 =>
 s58c1 Ψ w id_ (.lptr [y]) (!v51) h_11) (
 s58c1 Ψ w id_ (.lptr [y]) false h_2))))))))

def s58_A (Ψ : AVal → Heap → Prop) : Ann :=
 .seq (.reg [⟨none, [(0, true), (1, false)]⟩])
 (.seq (.seq (rA 9)
 (.seq (rA 2)
 (.cond (.seq (rA 3)
 (.leaf))
 (.leaf))))
 (.seq (rA 12)
 (.seq (rA 1)
 (.cut [(1, .int .i64), (2, .int .i64), (3, .any), (10, .bool)] (fun l h => J.ci .i64 l fun x0 l => J.ci .i64 l fun x1 l => J.cons l fun x2 l => J.cb l fun x3 l => J.nil l (s58c1 Ψ x0 x1 x2 x3 h)) (.seq (rA 2)
 (.block (.seq (rA 2)
 (.cond (.draw [(0, false), (1, false), (2, false), (3, false), (4, false), (5, false), (6, false), (7, false), (8, false), (9, false), (10, false), (11, false)] [0, 1, 3, 7, 15, 0, 63, 127, 0, 256, 1023, 2047])
 (.seq (rA 2)
 (.cond (.reg [⟨none, [(0, false), (1, false), (2, false), (3, false), (4, false), (5, false)]⟩, ⟨some (54, true), [(6, false), (7, false), (8, false), (9, false), (10, false)]⟩, ⟨none, [(11, false), (12, false)]⟩])
 (.seq (rA 2)
 (.cond (.reg [⟨none, [(0, false), (1, false), (2, false), (3, false), (4, false), (5, false)]⟩, ⟨some (68, false), [(6, false), (7, false), (8, false), (9, false), (10, false)]⟩, ⟨none, [(11, false), (12, false)]⟩])
 (.seq (rA 2)
 (.cond (rA 11)
 (.leaf)))))))))))
 (.seq (rA 8)
 (.cut [(10, .bool)] (fun l h => J.cb l fun x0 l => J.nil l (s58c2 Ψ x0 h)) (.seq (rA 1)
 (.cond (.draw [(0, false), (1, false), (2, false), (3, false), (4, false), (5, false), (6, false), (7, false), (8, false), (9, false), (10, false), (11, false)] [0, 1, 3, 7, 0, 0, 48, 127, 255, 127, 639, 2047])
 (.leaf)))
 (.seq (rA 2)
 (.leaf))))))))

theorem s58_ok {Ψ : AVal → Heap → Prop} {y : AVal} {w : Int} {id_ : Int} {h : Heap} (H : s58 Ψ y w id_ h) : ACalls prog 58 [y, (.int .i64 w), (.int .i64 id_)] h Ψ :=
 calls_of_evF func58 (by kernel_rfl) (by kernel_rfl) (by kernel_rfl)
 (Eq.mpr (by as_aux_lemma => kernel_rfl : oblF prog f58 (s58_A Ψ) Ψ = ((True) ∧ ((otP 53) ∧ ((True) ∧ ((True) ∧ ((otP 87381) ∧ ((∀ (h : Heap) (x0 x1 : Int) (x2 : AVal) (x3 : Bool), OI (s58c1 Ψ x0 x1 x2 x3 h)) ∧ ((True) ∧ ((otP 5) ∧ ((∀ (h : Heap) (x0 : Bool), OI (s58c2 Ψ x0 h)) ∧ (otP 1))))))))))) (⟨trivial, ⟨otP_ok 53, ⟨trivial, ⟨trivial, ⟨otP_ok 87381, ⟨fun _ _ _ _ _ H => H, ⟨trivial, ⟨otP_ok 5, ⟨fun _ _ H => H, otP_ok 1⟩⟩⟩⟩⟩⟩⟩⟩⟩))
 (Eq.mpr (by as_aux_lemma => kernel_rfl : evF prog f58 (s58_A Ψ) Ψ [y, (.int .i64 w), (.int .i64 id_)] h = s58 Ψ y w id_ h) H)

/- 60 dictum/worlds.Above -/
def s60 (Ψ : AVal → Heap → Prop) (m_Up : AVal) (m_Val : AVal) (w : Int) (h : Heap) : Prop :=
 callG prog 79 [(.agg [m_Up, m_Val]), (.lsl 1 [(.int .i64 w)])] h fun v h_ =>
 tTup v fun l_ =>
 tCons l_ fun v1 l_1 =>
 tCons l_1 fun v2 l_2 =>
 tInt .i64 v2 fun v3 =>
 tNil l_2 (
 Sym.newRow 1 [.nilfunc] h_ fun r h_1 =>
 chk (sc v1) (
 st true h_1 (.ptr r 0 0) [v1] fun h_2 =>
 ifT (v3 != 0) (
 retG (.tuple [.nilsl, (.int .i64 v3)]) h_2 Ψ) (
 callG prog 80 [(.agg [m_Up, m_Val]), (.func (.func 101) [] [(.ptr r 0 0), (.lptr [(.int .i64 w)])])] h_2 fun v4 h_3 =>
 retG (.tuple [v4, (.int .i64 0)]) h_3 Ψ)))

def s60_A (Ψ : AVal → Heap → Prop) : Ann :=
 .seq (.reg [⟨none, [(0, true), (1, true), (2, false), (3, false)]⟩])
 (.seq (.reg [⟨none, [(0, false), (1, false), (2, true), (3, false), (4, false), (5, false), (6, false), (7, false), (8, false), (9, false)]⟩])
 (.seq (.seq (rA 2)
 (.cond (.seq (rA 3)
 (.leaf))
 (.leaf)))
 (.seq (rA 5)
 (.leaf))))

theorem s60_ok {Ψ : AVal → Heap → Prop} {m_Up : AVal} {m_Val : AVal} {w : Int} {h : Heap} (H : s60 Ψ m_Up m_Val w h) : ACalls prog 60 [(.agg [m_Up, m_Val]), (.int .i64 w)] h Ψ :=
 calls_of_evF func60 (by kernel_rfl) (by kernel_rfl) (by kernel_rfl)
 (Eq.mpr (by as_aux_lemma => kernel_rfl : oblF prog f60 (s60_A Ψ) Ψ = (otP 4533)) (otP_ok 4533))
 (Eq.mpr (by as_aux_lemma => kernel_rfl : evF prog f60 (s60_A Ψ) Ψ [(.agg [m_Up, m_Val]), (.int .i64 w)] h = s60 Ψ m_Up m_Val w h) H)

/- 66 slices.pdqsortOrdered[string] -/
abbrev s66l1_T := AVal → Int → Int → Int → Bool → Bool → Heap → Prop
def s66l1_R (F : s66l1_T) (l : List AVal) (h : Heap) : Prop := J.cons l fun x0 l => J.ci .i64 l fun x1 l => J.ci .i64 l fun x2 l => J.ci .i64 l fun x3 l => J.cb l fun x4 l => J.cb l fun x5 l => J.nil l (F x0 x1 x2 x3 x4 x5 h)
def s66l1_G (F : s66l1_T) (x0 : AVal) (x1 x2 x3 : Int) (x4 x5 : Bool) (h : Heap) : Prop := gJ [.any, .int .i64, .int .i64, .int .i64, .bool, .bool] [x0, (.int .i64 x1), (.int .i64 x2), (.int .i64 x3), (.bool x4), (.bool x5)] h (s66l1_R F)
def s66l1_E (F : Nat → s66l1_T) (x0 : AVal) (x1 x2 x3 : Int) (x4 x5 : Bool) (h : Heap) : Prop := gJ [.any, .int .i64, .int .i64, .int .i64, .bool, .bool] [x0, (.int .i64 x1), (.int .i64 x2), (.int .i64 x3), (.bool x4), (.bool x5)] h (fun l h => ∃ n, s66l1_R (F n) l h)
theorem s66l1_go {F : s66l1_T} {x0 : AVal} {x1 x2 x3 : Int} {x4 x5 : Bool} {h : Heap} (H : F x0 x1 x2 x3 x4 x5 h) : s66l1_G F x0 x1 x2 x3 x4 x5 h := gJ_plain rfl H
theorem s66l1_in {F : Nat → s66l1_T} {x0 : AVal} {x1 x2 x3 : Int} {x4 x5 : Bool} {h : Heap} (n : Nat) (H : F n x0 x1 x2 x3 x4 x5 h) : s66l1_E F x0 x1 x2 x3 x4 x5 h := gJ_plain rfl ⟨n, H⟩

def s66c5 (Ψ : AVal → Heap → Prop) (L1 : s66l1_T) (data5 : AVal) (a5 b5 limit5 : Int) (wasBalanced4 wasPartitioned4 : Bool) (length3 pivot2 : Int) (t87 : Bool) (h : Heap) : Prop :=
 ifT t87 (
 callG prog 111 [data5, (.int .i64 a5), (.int .i64 b5), (.int .i64 pivot2)] h fun v7 h_3 =>
 tInt .i64 v7 fun v8 =>
 L1 data5 v8 b5 limit5 wasBalanced4 wasPartitioned4 h_3) (
 callG prog 112 [data5, (.int .i64 a5), (.int .i64 b5), (.int .i64 pivot2)] h fun v9 h_4 =>
 tTup v9 fun l_3 =>
 tCons l_3 fun v10 l_4 =>
 tInt .i64 v10 fun v11 =>
 tCons l_4 fun v12 l_5 =>
 tBool v12 fun v13 =>
 tNil l_5 (
 rg (v11 - a5) (
 rg (b5 - v11) (
 8 ≠ (0 : Int) ∧
 rg (Int.tdiv length3 8) (
 ifT (decide ((v11 - a5) < (b5 - v11))) (
 callG prog 66 [data5, (.int .i64 a5), (.int .i64 v11), (.int .i64 limit5)] h_4 fun v14 h_5 =>
 rg (v11 + 1) (
 L1 data5 (v11 + 1) b5 limit5 (decide ((Int.tdiv length3 8) ≤ (v11 - a5))) v13 h_5)) (
 rg (v11 + 1) (
 callG prog 66 [data5, (.int .i64 (v11 + 1)), (.int .i64 b5), (.int .i64 limit5)] h_4 fun v15 h_6 =>
 L1 data5 a5 v11 limit5 (decide ((Int.tdiv length3 8) ≤ (b5 - v11))) v13 h_6)))))))

def s66c4 (Ψ : AVal → Heap → Prop) (L1 : s66l1_T) (data4 : AVal) (a4 b4 limit4 : Int) (wasBalanced3 wasPartitioned3 : Bool) (length2 pivot1 : Int) (h : Heap) : Prop :=
 ifT (decide (0 < a4)) (
 rg (a4 - 1) (
 ixS 1 data4 (a4 - 1) fun p =>
 ld1 h p fun v16 =>
 tStr v16 fun v17 =>
 ixS 1 data4 pivot1 fun p1 =>
 ld1 h p1 fun v18 =>
 tStr v18 fun v19 =>
 callG prog 110 [(.str v17), (.str v19)] h fun v20 h_7 =>
 tBool v20 fun v21 =>
 s66c5 Ψ L1 data4 a4 b4 limit4 wasBalanced3 wasPartitioned3 length2 pivot1 (!v21) h_7)) (
 s66c5 Ψ L1 data4 a4 b4 limit4 wasBalanced3 wasPartitioned3 length2 pivot1 false h)

def s66c6 (Ψ : AVal → Heap → Prop) (L1 : s66l1_T) (data6 : AVal) (a6 b6 limit6 : Int) (wasBalanced5 wasPartitioned5 : Bool) (length4 pivot3 : Int) (t68 : Bool) (h : Heap) : Prop :=
 ifT t68 (
 callG prog 109 [data6, (.int .i64 a6), (.int .i64 b6)] h fun v22 h_8 =>
 tBool v22 fun v23 =>
 ifT v23 (
 retG (.tuple []) h_8 Ψ) (
 s66c4 Ψ L1 data6 a6 b6 limit6 wasBalanced5 wasPartitioned5 length4 pivot3 h_8)) (
 s66c4 Ψ L1 data6 a6 b6 limit6 wasBalanced5 wasPartitioned5 length4 pivot3 h)

def s66c3 (Ψ : AVal → Heap → Prop) (L1 : s66l1_T) (data3 : AVal) (a3 b3 limit3 : Int) (wasBalanced2 wasPartitioned2 : Bool) (length1 pivot hint : Int) (h : Heap) : Prop :=
 ifT wasBalanced2 (
 ifT wasPartitioned2 (
 s66c6 Ψ L1 data3 a3 b3 limit3 wasBalanced2 wasPartitioned2 length1 pivot (hint == 1) h) (
 s66c6 Ψ L1 data3 a3 b3 limit3 wasBalanced2 wasPartitioned2 length1 pivot false h)) (
 s66c6 Ψ L1 data3 a3 b3 limit3 wasBalanced2 wasPartitioned2 length1 pivot false h)

def s66c2 (Ψ : AVal → Heap → Prop) (L1 : s66l1_T) (data2 : AVal) (a2 b2 limit2 : Int) (wasBalanced1 wasPartitioned1 : Bool) (length : Int) (h : Heap) : Prop :=
 callG prog 107 [data2, (.int .i64 a2), (.int .i64 b2)] h fun v2 h_2 =>
 tTup v2 fun l_ =>
 tCons l_ fun v3 l_1 =>
 tInt .i64 v3 fun v4 =>
 tCons l_1 fun v5 l_2 =>
 tInt .i64 v5 fun v6 =>
 tNil l_2 (
 ifT (v6 == 2) (
 callG prog 108 [data2, (.int .i64 a2), (.int .i64 b2)] h_2 fun v24 h_9 =>
 rg (b2 - 1) (
 rg (v4 - a2) (
 rg ((b2 - 1) - (v4 - a2)) (
 s66c3 Ψ L1 data2 a2 b2 limit2 wasBalanced1 wasPartitioned1 length ((b2 - 1) - (v4 - a2)) 1 h_9)))) (
 s66c3 Ψ L1 data2 a2 b2 limit2 wasBalanced1 wasPartitioned1 length v4 v6 h_2))

def s66l1 (Ψ : AVal → Heap → Prop) : Nat → s66l1_T
 | 0, _, _, _, _, _, _, _ => False
 | n + 1, data1, a1, b1, limit1, wasBalanced, wasPartitioned, h =>
 rg (b1 - a1) (
 ifT (decide ((b1 - a1) ≤ 12)) (
 callG prog 104 [data1, (.int .i64 a1), (.int .i64 b1)] h fun v h_ =>
 retG (.tuple []) h_ Ψ) (
 ifT (limit1 == 0) (
 callG prog 105 [data1, (.int .i64 a1), (.int .i64 b1)] h fun v1 h_1 =>
 retG (.tuple []) h_1 Ψ) (
 ifT (!wasBalanced) (
 callG prog 106 [data1, (.int .i64 a1), (.int .i64 b1)] h fun v25 h_10 =>
 rg (limit1 - 1) (
 s66c2 Ψ (s66l1_G (s66l1 Ψ n)) data1 a1 b1 (limit1 - 1) wasBalanced wasPartitioned (b1 - a1) h_10)) (
 s66c2 Ψ (s66l1_G (s66l1 Ψ n)) data1 a1 b1 limit1 wasBalanced wasPartitioned (b1 - a1) h))))

def s66 (Ψ : AVal → Heap → Prop) (data : AVal) (a : Int) (b : Int) (limit : Int) (h : Heap) : Prop :=
 s66l1_E (s66l1 Ψ) data a b limit true true h

def s66_A (Ψ : AVal → Heap → Prop) : Ann :=
 .seq (rA 1)
 (.seq (rA 1)
 (.block (.loop [(0, .any), (1, .int .i64), (2, .int .i64), (3, .int .i64), (8, .bool), (9, .bool)] (fun n l h => s66l1_R (s66l1 Ψ n) l h) (fun L1 =>
 .block (.seq (rA 4)
 (.seq (.seq (rA 2)
 (.cond (.seq (rA 4)
 (.leaf))
 (.leaf)))
 (.seq (.seq (rA 2)
 (.cond (.seq (rA 4)
 (.leaf))
 (.leaf)))
 (.cut [(0, .any), (1, .int .i64), (2, .int .i64), (3, .int .i64), (8, .bool), (9, .bool), (10, .int .i64)] (fun l h => J.cons l fun x0 l => J.ci .i64 l fun x1 l => J.ci .i64 l fun x2 l => J.ci .i64 l fun x3 l => J.cb l fun x4 l => J.cb l fun x5 l => J.ci .i64 l fun x6 l => J.nil l (s66c2 Ψ (fun y0 y1 y2 y3 y4 y5 h => L1 [y0, (.int .i64 y1), (.int .i64 y2), (.int .i64 y3), (.bool y4), (.bool y5)] h) x0 x1 x2 x3 x4 x5 x6 h)) (.seq (rA 2)
 (.cond (.seq (rA 4)
 (rA 3))
 (.leaf)))
 (.seq (rA 9)
 (.cut [(0, .any), (1, .int .i64), (2, .int .i64), (3, .int .i64), (8, .bool), (9, .bool), (10, .int .i64), (11, .int .i64), (12, .int .i64)] (fun l h => J.cons l fun x0 l => J.ci .i64 l fun x1 l => J.ci .i64 l fun x2 l => J.ci .i64 l fun x3 l => J.cb l fun x4 l => J.cb l fun x5 l => J.ci .i64 l fun x6 l => J.ci .i64 l fun x7 l => J.ci .i64 l fun x8 l => J.nil l (s66c3 Ψ (fun y0 y1 y2 y3 y4 y5 h => L1 [y0, (.int .i64 y1), (.int .i64 y2), (.int .i64 y3), (.bool y4), (.bool y5)] h) x0 x1 x2 x3 x4 x5 x6 x7 x8 h)) (.seq (rA 2)
 (.cond (.seq (rA 4)
 (.seq (rA 7)
 (rA 1)))
 (.leaf)))
 (.cut [(0, .any), (1, .int .i64), (2, .int .i64), (3, .int .i64), (8, .bool), (9, .bool), (10, .int .i64), (11, .int .i64)] (fun l h => J.cons l fun x0 l => J.ci .i64 l fun x1 l => J.ci .i64 l fun x2 l => J.ci .i64 l fun x3 l => J.cb l fun x4 l => J.cb l fun x5 l => J.ci .i64 l fun x6 l => J.ci .i64 l fun x7 l => J.nil l (s66c4 Ψ (fun y0 y1 y2 y3 y4 y5 h => L1 [y0, (.int .i64 y1), (.int .i64 y2), (.int .i64 y3), (.bool y4), (.bool y5)] h) x0 x1 x2 x3 x4 x5 x6 x7 h)) (.cut [(0, .any), (1, .int .i64), (2, .int .i64), (3, .int .i64), (8, .bool), (9, .bool), (10, .int .i64), (11, .int .i64), (68, .bool)] (fun l h => J.cons l fun x0 l => J.ci .i64 l fun x1 l => J.ci .i64 l fun x2 l => J.ci .i64 l fun x3 l => J.cb l fun x4 l => J.cb l fun x5 l => J.ci .i64 l fun x6 l => J.ci .i64 l fun x7 l => J.cb l fun x8 l => J.nil l (s66c6 Ψ (fun y0 y1 y2 y3 y4 y5 h => L1 [y0, (.int .i64 y1), (.int .i64 y2), (.int .i64 y3), (.bool y4), (.bool y5)] h) x0 x1 x2 x3 x4 x5 x6 x7 x8 h)) (.reg [⟨none, [(0, false), (1, false)]⟩, ⟨some (62, true), [(2, false)]⟩, ⟨none, [(3, false), (4, false)]⟩, ⟨some (65, true), [(5, false), (6, false)]⟩, ⟨none, [(7, false)]⟩])
 (.cond (.seq (rA 4)
 (.cond (.leaf)
 (.leaf)))
 (.leaf)))
 (.seq (.cut [(0, .any), (1, .int .i64), (2, .int .i64), (3, .int .i64), (8, .bool), (9, .bool), (10, .int .i64), (11, .int .i64), (87, .bool)] (fun l h => J.cons l fun x0 l => J.ci .i64 l fun x1 l => J.ci .i64 l fun x2 l => J.ci .i64 l fun x3 l => J.cb l fun x4 l => J.cb l fun x5 l => J.ci .i64 l fun x6 l => J.ci .i64 l fun x7 l => J.cb l fun x8 l => J.nil l (s66c5 Ψ (fun y0 y1 y2 y3 y4 y5 h => L1 [y0, (.int .i64 y1), (.int .i64 y2), (.int .i64 y3), (.bool y4), (.bool y5)] h) x0 x1 x2 x3 x4 x5 x6 x7 x8 h)) (.draw [(0, false), (1, false), (2, false), (3, false), (4, false), (5, false), (6, false), (7, false), (8, false), (9, false), (10, false), (11, false), (12, false), (13, false), (14, false)] [0, 1, 3, 7, 7, 23, 63, 127, 7, 7, 775, 1799, 4095, 8191, 16383])
 (.cond (.seq (rA 6)
 (.seq (rA 2)
 (.leaf)))
 (.leaf)))
 (.seq (rA 10)
 (.seq (rA 2)
 (.seq (rA 8)
 (.seq (rA 3)
 (.seq (rA 3)
 (.cond (.seq (rA 4)
 (.seq (rA 5)
 (rA 3)))
 (.seq (rA 4)
 (.seq (rA 6)
 (rA 2)))))))))))))))))))))

theorem s66_ok {Ψ : AVal → Heap → Prop} {data : AVal} {a : Int} {b : Int} {limit : Int} {h : Heap} (H : s66 Ψ data a b limit h) : ACalls prog 66 [data, (.int .i64 a), (.int .i64 b), (.int .i64 limit)] h Ψ :=
 calls_of_evF func66 (by kernel_rfl) (by kernel_rfl) (by kernel_rfl)
 (Eq.mpr (by as_aux_lemma => kernel_rfl : oblF prog f66 (s66_A Ψ) Ψ = ((True) ∧ ((True) ∧ ((∀ (h : Heap) (x0 : AVal) (x1 x2 x3 : Int) (x4 x5 : Bool), ON (s66l1 Ψ 0 x0 x1 x2 x3 x4 x5 h)) ∧ (∀ n1 : Nat, (∀ (h : Heap) (x0 : AVal) (x1 x2 x3 : Int) (x4 x5 : Bool), OI (s66l1 Ψ (n1 + 1) x0 x1 x2 x3 x4 x5 h)) ∧ ((True) ∧ ((otP 13) ∧ ((otP 13) ∧ ((otP 13) ∧ ((∀ (h : Heap) (x0 : AVal) (x1 x2 x3 : Int) (x4 x5 : Bool) (x6 : Int), OI (s66c2 Ψ (s66l1_G (s66l1 Ψ n1)) x0 x1 x2 x3 x4 x5 x6 h)) ∧ ((True) ∧ ((otP 45) ∧ ((∀ (h : Heap) (x0 : AVal) (x1 x2 x3 : Int) (x4 x5 : Bool) (x6 x7 x8 : Int), OI (s66c3 Ψ (s66l1_G (s66l1 Ψ n1)) x0 x1 x2 x3 x4 x5 x6 x7 x8 h)) ∧ (((True) ∧ ((∀ (h : Heap) (x0 : AVal) (x1 x2 x3 : Int) (x4 x5 : Bool) (x6 x7 : Int) (x8 : Bool), OI (s66c6 Ψ (s66l1_G (s66l1 Ψ n1)) x0 x1 x2 x3 x4 x5 x6 x7 x8 h)) ∧ (otP 11))) ∧ ((∀ (h : Heap) (x0 : AVal) (x1 x2 x3 : Int) (x4 x5 : Bool) (x6 x7 : Int), OI (s66c4 Ψ (s66l1_G (s66l1 Ψ n1)) x0 x1 x2 x3 x4 x5 x6 x7 h)) ∧ (((True) ∧ ((∀ (h : Heap) (x0 : AVal) (x1 x2 x3 : Int) (x4 x5 : Bool) (x6 x7 : Int) (x8 : Bool), OI (s66c5 Ψ (s66l1_G (s66l1 Ψ n1)) x0 x1 x2 x3 x4 x5 x6 x7 x8 h)) ∧ (otP 11))) ∧ (otP 339285))))))))))))))))) (⟨trivial, ⟨trivial, ⟨fun _ _ _ _ _ _ _ H => H, fun _ => ⟨fun _ _ _ _ _ _ _ H => H, ⟨trivial, ⟨otP_ok 13, ⟨otP_ok 13, ⟨otP_ok 13, ⟨fun _ _ _ _ _ _ _ _ H => H, ⟨trivial, ⟨otP_ok 45, ⟨fun _ _ _ _ _ _ _ _ _ _ H => H, ⟨⟨trivial, ⟨fun _ _ _ _ _ _ _ _ _ _ H => H, otP_ok 11⟩⟩, ⟨fun _ _ _ _ _ _ _ _ _ H => H, ⟨⟨trivial, ⟨fun _ _ _ _ _ _ _ _ _ _ H => H, otP_ok 11⟩⟩, otP_ok 339285⟩⟩⟩⟩⟩⟩⟩⟩⟩⟩⟩⟩⟩⟩⟩))
 (Eq.mpr (by as_aux_lemma => kernel_rfl : evF prog f66 (s66_A Ψ) Ψ [data, (.int .i64 a), (.int .i64 b), (.int .i64 limit)] h = s66 Ψ data a b limit h) H)

/- 69 dictum/heyting.look$1 -/
def s69 (Ψ : AVal → Heap → Prop) (x : Int) (y : Int) (c0 : AVal) (h : Heap) : Prop :=
 addOff c0 0 fun p =>
 ld1 h p fun v =>
 ixS 1 v x fun p1 =>
 ld1 h p1 fun v1 =>
 ixS 1 v1 y fun p2 =>
 ld1 h p2 fun v2 =>
 tBool v2 fun v3 =>
 retG (.bool v3) h Ψ

def s69_A (Ψ : AVal → Heap → Prop) : Ann :=
 .seq (rA 1)
 (.seq (rA 9)
 (.leaf))

theorem s69_ok {Ψ : AVal → Heap → Prop} {x : Int} {y : Int} {c0 : AVal} {h : Heap} (H : s69 Ψ x y c0 h) : ACalls prog 69 [(.int .i64 x), (.int .i64 y), c0] h Ψ :=
 calls_of_evF func69 (by kernel_rfl) (by kernel_rfl) (by kernel_rfl)
 (Eq.mpr (by as_aux_lemma => kernel_rfl : oblF prog f69 (s69_A Ψ) Ψ = (otP 5)) (otP_ok 5))
 (Eq.mpr (by as_aux_lemma => kernel_rfl : evF prog f69 (s69_A Ψ) Ψ [(.int .i64 x), (.int .i64 y), c0] h = s69 Ψ x y c0 h) H)

/- 71 dictum/heyting.look$2 -/
def s71 (Ψ : AVal → Heap → Prop) (row : AVal) (c0 : AVal) (h : Heap) : Prop :=
 lenN row fun n =>
 ld1 h c0 fun v =>
 tInt .i64 v fun v1 =>
 retG (.bool (n != v1)) h Ψ

def s71_A (Ψ : AVal → Heap → Prop) : Ann :=
 .seq (rA 1)
 (.seq (rA 5)
 (.leaf))

theorem s71_ok {Ψ : AVal → Heap → Prop} {row : AVal} {c0 : AVal} {h : Heap} (H : s71 Ψ row c0 h) : ACalls prog 71 [row, c0] h Ψ :=
 calls_of_evF func71 (by kernel_rfl) (by kernel_rfl) (by kernel_rfl)
 (Eq.mpr (by as_aux_lemma => kernel_rfl : oblF prog f71 (s71_A Ψ) Ψ = (otP 5)) (otP_ok 5))
 (Eq.mpr (by as_aux_lemma => kernel_rfl : evF prog f71 (s71_A Ψ) Ψ [row, c0] h = s71 Ψ row c0 h) H)

/- 73 (dictum/heyting.lattice).tables -/
abbrev s73l1_T := AVal → AVal → AVal → Int → Int → Heap → Prop
def s73l1_R (F : s73l1_T) (l : List AVal) (h : Heap) : Prop := J.cons l fun x0 l => J.cons l fun x1 l => J.cons l fun x2 l => J.ci .i64 l fun x3 l => J.ci .i64 l fun x4 l => J.nil l (F x0 x1 x2 x3 x4 h)
def s73l1_G (F : s73l1_T) (x0 x1 x2 : AVal) (x3 x4 : Int) (h : Heap) : Prop := gJ [.any, .any, .any, .int .i64, .int .i64] [x0, x1, x2, (.int .i64 x3), (.int .i64 x4)] h (s73l1_R F)
def s73l1_E (F : Nat → s73l1_T) (x0 x1 x2 : AVal) (x3 x4 : Int) (h : Heap) : Prop := gJ [.any, .any, .any, .int .i64, .int .i64] [x0, x1, x2, (.int .i64 x3), (.int .i64 x4)] h (fun l h => ∃ n, s73l1_R (F n) l h)
theorem s73l1_go {F : s73l1_T} {x0 x1 x2 : AVal} {x3 x4 : Int} {h : Heap} (H : F x0 x1 x2 x3 x4 h) : s73l1_G F x0 x1 x2 x3 x4 h := gJ_plain rfl H
theorem s73l1_in {F : Nat → s73l1_T} {x0 x1 x2 : AVal} {x3 x4 : Int} {h : Heap} (n : Nat) (H : F n x0 x1 x2 x3 x4 h) : s73l1_E F x0 x1 x2 x3 x4 h := gJ_plain rfl ⟨n, H⟩

abbrev s73l2_T := AVal → AVal → AVal → Int → Int → Int → Int → Int → Heap → Prop
def s73l2_R (F : s73l2_T) (l : List AVal) (h : Heap) : Prop := J.cons l fun x0 l => J.cons l fun x1 l => J.cons l fun x2 l => J.ci .i64 l fun x3 l => J.ci .i64 l fun x4 l => J.ci .i64 l fun x5 l => J.ci .i64 l fun x6 l => J.ci .i64 l fun x7 l => J.nil l (F x0 x1 x2 x3 x4 x5 x6 x7 h)
def s73l2_G (F : s73l2_T) (x0 x1 x2 : AVal) (x3 x4 x5 x6 x7 : Int) (h : Heap) : Prop := gJ [.any, .any, .any, .int .i64, .int .i64, .int .i64, .int .i64, .int .i64] [x0, x1, x2, (.int .i64 x3), (.int .i64 x4), (.int .i64 x5), (.int .i64 x6), (.int .i64 x7)] h (s73l2_R F)
def s73l2_E (F : Nat → s73l2_T) (x0 x1 x2 : AVal) (x3 x4 x5 x6 x7 : Int) (h : Heap) : Prop := gJ [.any, .any, .any, .int .i64, .int .i64, .int .i64, .int .i64, .int .i64] [x0, x1, x2, (.int .i64 x3), (.int .i64 x4), (.int .i64 x5), (.int .i64 x6), (.int .i64 x7)] h (fun l h => ∃ n, s73l2_R (F n) l h)
theorem s73l2_go {F : s73l2_T} {x0 x1 x2 : AVal} {x3 x4 x5 x6 x7 : Int} {h : Heap} (H : F x0 x1 x2 x3 x4 x5 x6 x7 h) : s73l2_G F x0 x1 x2 x3 x4 x5 x6 x7 h := gJ_plain rfl H
theorem s73l2_in {F : Nat → s73l2_T} {x0 x1 x2 : AVal} {x3 x4 x5 x6 x7 : Int} {h : Heap} (n : Nat) (H : F n x0 x1 x2 x3 x4 x5 x6 x7 h) : s73l2_E F x0 x1 x2 x3 x4 x5 x6 x7 h := gJ_plain rfl ⟨n, H⟩

def s73c3 (Ψ : AVal → Heap → Prop) (L1 : s73l1_T) (L2 : s73l2_T) (l_14 meets2 joins2 : AVal) (x1 m j t20_2 t21_2 t25_1 t26_1 : Int) (t48 : Bool) (h : Heap) : Prop :=
 ifT t48 (
 retG (.tuple [.nilsl, .nilsl, (.bool false)]) h Ψ) (
 ixS 1 meets2 x1 fun p1 =>
 ld1 h p1 fun v20 =>
 appC 1 8 h v20 (.lsl 1 [(.int .i64 m)]) fun v21 h_4 =>
 ixS 1 meets2 x1 fun p2 =>
 chk (sc v21) (
 st true h_4 p2 [v21] fun h_5 =>
 ixS 1 joins2 x1 fun p3 =>
 ld1 h_5 p3 fun v22 =>
 appC 1 8 h_5 v22 (.lsl 1 [(.int .i64 j)]) fun v23 h_6 =>
 ixS 1 joins2 x1 fun p4 =>
 chk (sc v23) (
 st true h_6 p4 [v23] fun h_7 =>
 rg (t26_1 + 1) (
 L2 l_14 meets2 joins2 x1 t20_2 t21_2 t25_1 (t26_1 + 1) h_7))))

def s73l2 (Ψ : AVal → Heap → Prop) (L1 : s73l1_T) : Nat → s73l2_T
 | 0, _, _, _, _, _, _, _, _, _ => False
 | n1 + 1, l_1, meets1, joins1, x, t20_1, t21_1, t25, t26, h =>
 ifT (decide (t26 < t25)) (
 ldN 2 h l_1 fun l_2 =>
 tCons l_2 fun v4 l_3 =>
 tInt .i64 v4 fun v5 =>
 tCons l_3 fun v6 l_4 =>
 tNil l_4 (
 callG prog 50 [(.agg [(.int .i64 v5), v6]), (.int .i64 x), (.int .i64 t26)] h fun v7 h_2 =>
 tTup v7 fun l_5 =>
 tCons l_5 fun v8 l_6 =>
 tInt .i64 v8 fun v9 =>
 tCons l_6 fun v10 l_7 =>
 tBool v10 fun v11 =>
 tNil l_7 (
 ldN 2 h_2 l_1 fun l_8 =>
 tCons l_8 fun v12 l_9 =>
 tInt .i64 v12 fun v13 =>
 tCons l_9 fun v14 l_10 =>
 tNil l_10 (
 callG prog 37 [(.agg [(.int .i64 v13), v14]), (.int .i64 x), (.int .i64 t26)] h_2 fun v15 h_3 =>
 tTup v15 fun l_11 =>
 tCons l_11 fun v16 l_12 =>
 tInt .i64 v16 fun v17 =>
 tCons l_12 fun v18 l_13 =>
 tBool v18 fun v19 =>
 tNil l_13 (
 ifT (!v11) (
 s73c3 Ψ L1 (s73l2_G (s73l2 Ψ L1 n1)) l_1 meets1 joins1 x v9 v17 t20_1 t21_1 t25 t26 true h_3) (
 s73c3 Ψ L1 (s73l2_G (s73l2 Ψ L1 n1)) l_1 meets1 joins1 x v9 v17 t20_1 t21_1 t25 t26 (!v19) h_3)))))) (
 rg (t21_1 + 1) (
 L1 l_1 meets1 joins1 t20_1 (t21_1 + 1) h))

def s73l1 (Ψ : AVal → Heap → Prop) : Nat → s73l1_T
 | 0, _, _, _, _, _, _ => False
 | n + 1, l_, meets, joins, t20, t21, h =>
 ifT (decide (t21 < t20)) (
 addOff l_ 0 fun p =>
 ld1 h p fun v2 =>
 tInt .i64 v2 fun v3 =>
 s73l2_E (s73l2 Ψ (s73l1_G (s73l1 Ψ n))) l_ meets joins t21 t20 t21 v3 0 h) (
 retG (.tuple [meets, joins, (.bool true)]) h Ψ)

def s73 (Ψ : AVal → Heap → Prop) (l_n : Int) (l_leq : AVal) (h : Heap) : Prop :=
 (mkS false 1 24 .nilsl h l_n l_n fun v h_ =>
 ((AVal.int .i64 l_n) = (.int .i64 l_n)) ∧
 mkS false 1 24 .nilsl h_ l_n l_n fun v1 h_1 =>
 s73l1_E (s73l1 Ψ) (.lptr [(.int .i64 l_n), l_leq]) v v1 l_n 0 h_1) ∧
 mkS false 1 24 .nilsl h l_n l_n fun v24 h_8 =>
 ((AVal.int .i64 l_n) = (.int .i64 l_n)) ∧
 mkS false 1 24 .nilsl h_8 l_n l_n fun v25 h_9 =>
 s73l1_E (s73l1 Ψ) (.lptr [(.int .i64 l_n), l_leq]) v25 v24 l_n 0 h_9

def s73_A (Ψ : AVal → Heap → Prop) : Ann :=
 .seq (.reg [⟨none, [(0, true), (1, false), (2, false), (3, false)]⟩])
 (.seq (.drawT (.split 2 5 (.leaf [(0, false), (1, false), (3, false), (4, false), (2, false), (6, false), (5, false), (7, false)]) (.leaf [(0, false), (1, false), (3, false), (4, false), (5, false), (2, false), (6, false), (7, false)])) [0, 1, 3, 0, 8, 24, 7, 127])
 (.seq (.seq (rA 3)
 (.block (.loop [(1, .any), (5, .any), (6, .any), (20, .int .i64), (21, .int .i64)] (fun n l h => s73l1_R (s73l1 Ψ n) l h) (fun L1 =>
 .seq (rA 1)
 (.seq (.cond (.leaf)
 (.leaf))
 (.seq (.block (.seq (rA 2)
 (.seq (rA 3)
 (.block (.loop [(1, .any), (5, .any), (6, .any), (7, .int .i64), (20, .int .i64), (21, .int .i64), (25, .int .i64), (26, .int .i64)] (fun n l h => s73l2_R (s73l2 Ψ (fun y0 y1 y2 y3 y4 h => L1 [y0, y1, y2, (.int .i64 y3), (.int .i64 y4)] h) n) l h) (fun L2 =>
 .seq (rA 1)
 (.seq (.cond (.leaf)
 (.leaf))
 (.seq (.block (.seq (rA 2)
 (.seq (rA 9)
 (.seq (rA 9)
 (.seq (.cut [(1, .any), (5, .any), (6, .any), (7, .int .i64), (9, .int .i64), (11, .int .i64), (20, .int .i64), (21, .int .i64), (25, .int .i64), (26, .int .i64), (48, .bool)] (fun l h => J.cons l fun x0 l => J.cons l fun x1 l => J.cons l fun x2 l => J.ci .i64 l fun x3 l => J.ci .i64 l fun x4 l => J.ci .i64 l fun x5 l => J.ci .i64 l fun x6 l => J.ci .i64 l fun x7 l => J.ci .i64 l fun x8 l => J.ci .i64 l fun x9 l => J.cb l fun x10 l => J.nil l (s73c3 Ψ (fun y0 y1 y2 y3 y4 h => L1 [y0, y1, y2, (.int .i64 y3), (.int .i64 y4)] h) (fun y0 y1 y2 y3 y4 y5 y6 y7 h => L2 [y0, y1, y2, (.int .i64 y3), (.int .i64 y4), (.int .i64 y5), (.int .i64 y6), (.int .i64 y7)] h) x0 x1 x2 x3 x4 x5 x6 x7 x8 x9 x10 h)) (.reg [⟨none, [(0, false), (1, false), (2, false)]⟩, ⟨some (45, false), [(3, false), (4, false)]⟩, ⟨none, [(5, false)]⟩])
 (.cond (.seq (rA 3)
 (.leaf))
 (.leaf)))
 (.seq (.reg [⟨none, [(0, false), (1, false), (2, false), (3, false), (4, false), (5, false), (6, false), (7, true), (8, false), (9, false), (10, false)]⟩])
 (.reg [⟨none, [(0, false), (1, false), (2, false), (3, false), (4, false), (5, false), (6, false), (7, true), (8, false), (9, false), (10, false)]⟩])))))))
 (rA 2)))))))))
 (rA 2)))))))
 (.seq (rA 5)
 (.leaf))))

theorem s73_ok {Ψ : AVal → Heap → Prop} {l_n : Int} {l_leq : AVal} {h : Heap} (H : s73 Ψ l_n l_leq h) : ACalls prog 73 [(.agg [(.int .i64 l_n), l_leq])] h Ψ :=
 calls_of_evF func73 (by kernel_rfl) (by kernel_rfl) (by kernel_rfl)
 (Eq.mpr (by as_aux_lemma => kernel_rfl : oblF prog f73 (s73_A Ψ) Ψ = ((True) ∧ ((True) ∧ (((True) ∧ ((∀ (h : Heap) (x0 x1 x2 : AVal) (x3 x4 : Int), ON (s73l1 Ψ 0 x0 x1 x2 x3 x4 h)) ∧ (∀ n1 : Nat, (∀ (h : Heap) (x0 x1 x2 : AVal) (x3 x4 : Int), OI (s73l1 Ψ (n1 + 1) x0 x1 x2 x3 x4 h)) ∧ ((True) ∧ ((otP 1) ∧ (((True) ∧ ((True) ∧ ((∀ (h : Heap) (x0 x1 x2 : AVal) (x3 x4 x5 x6 x7 : Int), ON (s73l2 Ψ (s73l1_G (s73l1 Ψ n1)) 0 x0 x1 x2 x3 x4 x5 x6 x7 h)) ∧ (∀ n2 : Nat, (∀ (h : Heap) (x0 x1 x2 : AVal) (x3 x4 x5 x6 x7 : Int), OI (s73l2 Ψ (s73l1_G (s73l1 Ψ n1)) (n2 + 1) x0 x1 x2 x3 x4 x5 x6 x7 h)) ∧ ((True) ∧ ((otP 1) ∧ (((True) ∧ ((True) ∧ ((True) ∧ (((True) ∧ ((∀ (h : Heap) (x0 x1 x2 : AVal) (x3 x4 x5 x6 x7 x8 x9 : Int) (x10 : Bool), OI (s73c3 Ψ (s73l1_G (s73l1 Ψ n1)) (s73l2_G (s73l2 Ψ (s73l1_G (s73l1 Ψ n1)) n2)) x0 x1 x2 x3 x4 x5 x6 x7 x8 x9 x10 h)) ∧ (otP 3))) ∧ (otP 1))))) ∧ (True)))))))) ∧ (True))))))) ∧ (otP 1))))) (⟨trivial, ⟨trivial, ⟨⟨trivial, ⟨fun _ _ _ _ _ _ H => H, fun _ => ⟨fun _ _ _ _ _ _ H => H, ⟨trivial, ⟨otP_ok 1, ⟨⟨trivial, ⟨trivial, ⟨fun _ _ _ _ _ _ _ _ _ H => H, fun _ => ⟨fun _ _ _ _ _ _ _ _ _ H => H, ⟨trivial, ⟨otP_ok 1, ⟨⟨trivial, ⟨trivial, ⟨trivial, ⟨⟨trivial, ⟨fun _ _ _ _ _ _ _ _ _ _ _ _ H => H, otP_ok 3⟩⟩, otP_ok 1⟩⟩⟩⟩, trivial⟩⟩⟩⟩⟩⟩⟩, trivial⟩⟩⟩⟩⟩⟩, otP_ok 1⟩⟩⟩))
 (Eq.mpr (by as_aux_lemma => kernel_rfl : evF prog f73 (s73_A Ψ) Ψ [(.agg [(.int .i64 l_n), l_leq])] h = s73 Ψ l_n l_leq h) H)

/- 75 dictum/heyting.best -/
abbrev s75l1_T := Int → AVal → AVal → Int → Int → Heap → Prop
def s75l1_R (F : s75l1_T) (l : List AVal) (h : Heap) : Prop := J.ci .i64 l fun x0 l => J.cons l fun x1 l => J.cons l fun x2 l => J.ci .i64 l fun x3 l => J.ci .i64 l fun x4 l => J.nil l (F x0 x1 x2 x3 x4 h)
def s75l1_G (F : s75l1_T) (x0 : Int) (x1 x2 : AVal) (x3 x4 : Int) (h : Heap) : Prop := gJ [.int .i64, .any, .any, .int .i64, .int .i64] [(.int .i64 x0), x1, x2, (.int .i64 x3), (.int .i64 x4)] h (s75l1_R F)
def s75l1_E (F : Nat → s75l1_T) (x0 : Int) (x1 x2 : AVal) (x3 x4 : Int) (h : Heap) : Prop := gJ [.int .i64, .any, .any, .int .i64, .int .i64] [(.int .i64 x0), x1, x2, (.int .i64 x3), (.int .i64 x4)] h (fun l h => ∃ n, s75l1_R (F n) l h)
theorem s75l1_go {F : s75l1_T} {x0 : Int} {x1 x2 : AVal} {x3 x4 : Int} {h : Heap} (H : F x0 x1 x2 x3 x4 h) : s75l1_G F x0 x1 x2 x3 x4 h := gJ_plain rfl H
theorem s75l1_in {F : Nat → s75l1_T} {x0 : Int} {x1 x2 : AVal} {x3 x4 : Int} {h : Heap} (n : Nat) (H : F n x0 x1 x2 x3 x4 h) : s75l1_E F x0 x1 x2 x3 x4 h := gJ_plain rfl ⟨n, H⟩

def s75c2 (Ψ : AVal → Heap → Prop) (L1 : s75l1_T) (n3 : Int) (is2 over2 : AVal) (t11_1 t12_1 : Int) (h : Heap) : Prop :=
 rg (t12_1 + 1) (
 L1 n3 is2 over2 t11_1 (t12_1 + 1) h)

abbrev s75l3_T := Int → AVal → AVal → Int → Bool → Int → Int → Int → Int → Heap → Prop
def s75l3_R (F : s75l3_T) (l : List AVal) (h : Heap) : Prop := J.ci .i64 l fun x0 l => J.cons l fun x1 l => J.cons l fun x2 l => J.ci .i64 l fun x3 l => J.cb l fun x4 l => J.ci .i64 l fun x5 l => J.ci .i64 l fun x6 l => J.ci .i64 l fun x7 l => J.ci .i64 l fun x8 l => J.nil l (F x0 x1 x2 x3 x4 x5 x6 x7 x8 h)
def s75l3_G (F : s75l3_T) (x0 : Int) (x1 x2 : AVal) (x3 : Int) (x4 : Bool) (x5 x6 x7 x8 : Int) (h : Heap) : Prop := gJ [.int .i64, .any, .any, .int .i64, .bool, .int .i64, .int .i64, .int .i64, .int .i64] [(.int .i64 x0), x1, x2, (.int .i64 x3), (.bool x4), (.int .i64 x5), (.int .i64 x6), (.int .i64 x7), (.int .i64 x8)] h (s75l3_R F)
def s75l3_E (F : Nat → s75l3_T) (x0 : Int) (x1 x2 : AVal) (x3 : Int) (x4 : Bool) (x5 x6 x7 x8 : Int) (h : Heap) : Prop := gJ [.int .i64, .any, .any, .int .i64, .bool, .int .i64, .int .i64, .int .i64, .int .i64] [(.int .i64 x0), x1, x2, (.int .i64 x3), (.bool x4), (.int .i64 x5), (.int .i64 x6), (.int .i64 x7), (.int .i64 x8)] h (fun l h => ∃ n, s75l3_R (F n) l h)
theorem s75l3_go {F : s75l3_T} {x0 : Int} {x1 x2 : AVal} {x3 : Int} {x4 : Bool} {x5 x6 x7 x8 : Int} {h : Heap} (H : F x0 x1 x2 x3 x4 x5 x6 x7 x8 h) : s75l3_G F x0 x1 x2 x3 x4 x5 x6 x7 x8 h := gJ_plain rfl H
theorem s75l3_in {F : Nat → s75l3_T} {x0 : Int} {x1 x2 : AVal} {x3 : Int} {x4 : Bool} {x5 x6 x7 x8 : Int} {h : Heap} (n : Nat) (H : F n x0 x1 x2 x3 x4 x5 x6 x7 x8 h) : s75l3_E F x0 x1 x2 x3 x4 x5 x6 x7 x8 h := gJ_plain rfl ⟨n, H⟩

def s75c4 (Ψ : AVal → Heap → Prop) (L1 : s75l1_T) (L3 : s75l3_T) (n6 : Int) (is4 over4 : AVal) (z1 : Int) (top1 : Bool) (t11_3 t12_3 t19_1 t20_1 : Int) (h : Heap) : Prop :=
 rg (t20_1 + 1) (
 L3 n6 is4 over4 z1 top1 t11_3 t12_3 t19_1 (t20_1 + 1) h)

def s75l3 (Ψ : AVal → Heap → Prop) (L1 : s75l1_T) : Nat → s75l3_T
 | 0, _, _, _, _, _, _, _, _, _, _ => False
 | n5 + 1, n4, is3, over3, z, top, t11_2, t12_2, t19, t20, h =>
 ifT (decide (t20 < t19)) (
 ifT top (
 callV prog is3 [(.int .i64 t20)] h fun v2 h_1 =>
 tBool v2 fun v3 =>
 ifT (!v3) (
 s75c4 Ψ L1 (s75l3_G (s75l3 Ψ L1 n5)) n4 is3 over3 z true t11_2 t12_2 t19 t20 h_1) (
 callV prog over3 [(.int .i64 z), (.int .i64 t20)] h_1 fun v4 h_2 =>
 tBool v4 fun v5 =>
 s75c4 Ψ L1 (s75l3_G (s75l3 Ψ L1 n5)) n4 is3 over3 z v5 t11_2 t12_2 t19 t20 h_2)) (
 s75c4 Ψ L1 (s75l3_G (s75l3 Ψ L1 n5)) n4 is3 over3 z false t11_2 t12_2 t19 t20 h)) (
 ifT top (
 retG (.tuple [(.int .i64 z), (.bool true)]) h Ψ) (
 s75c2 Ψ L1 n4 is3 over3 t11_2 t12_2 h))

def s75l1 (Ψ : AVal → Heap → Prop) : Nat → s75l1_T
 | 0, _, _, _, _, _, _ => False
 | n2 + 1, n1, is1, over1, t11, t12, h =>
 ifT (decide (t12 < t11)) (
 callV prog is1 [(.int .i64 t12)] h fun v h_ =>
 tBool v fun v1 =>
 ifT (!v1) (
 s75c2 Ψ (s75l1_G (s75l1 Ψ n2)) n1 is1 over1 t11 t12 h_) (
 s75l3_E (s75l3 Ψ (s75l1_G (s75l1 Ψ n2))) n1 is1 over1 t12 true t11 t12 n1 0 h_)) (
 retG (.tuple [(.int .i64 0), (.bool false)]) h Ψ)

def s75 (Ψ : AVal → Heap → Prop) (n : Int) (is : AVal) (over : AVal) (h : Heap) : Prop :=
 s75l1_E (s75l1 Ψ) n is over n 0 h

def s75_A (Ψ : AVal → Heap → Prop) : Ann :=
 .seq (rA 2)
 (.seq (.seq (rA 2)
 (.block (.loop [(0, .int .i64), (1, .any), (2, .any), (11, .int .i64), (12, .int .i64)] (fun n l h => s75l1_R (s75l1 Ψ n) l h) (fun L1 =>
 .seq (rA 1)
 (.seq (.cond (.leaf)
 (.leaf))
 (.cut [(0, .int .i64), (1, .any), (2, .any), (11, .int .i64), (12, .int .i64)] (fun l h => J.ci .i64 l fun x0 l => J.cons l fun x1 l => J.cons l fun x2 l => J.ci .i64 l fun x3 l => J.ci .i64 l fun x4 l => J.nil l (s75c2 Ψ (fun y0 y1 y2 y3 y4 h => L1 [(.int .i64 y0), y1, y2, (.int .i64 y3), (.int .i64 y4)] h) x0 x1 x2 x3 x4 h)) (.block (.seq (rA 2)
 (.seq (.seq (rA 4)
 (.cond (.leaf)
 (.leaf)))
 (.seq (rA 1)
 (.seq (.seq (rA 2)
 (.block (.loop [(0, .int .i64), (1, .any), (2, .any), (8, .int .i64), (9, .bool), (11, .int .i64), (12, .int .i64), (19, .int .i64), (20, .int .i64)] (fun n l h => s75l3_R (s75l3 Ψ (fun y0 y1 y2 y3 y4 h => L1 [(.int .i64 y0), y1, y2, (.int .i64 y3), (.int .i64 y4)] h) n) l h) (fun L3 =>
 .seq (rA 1)
 (.seq (.cond (.leaf)
 (.leaf))
 (.cut [(0, .int .i64), (1, .any), (2, .any), (8, .int .i64), (9, .bool), (11, .int .i64), (12, .int .i64), (19, .int .i64), (20, .int .i64)] (fun l h => J.ci .i64 l fun x0 l => J.cons l fun x1 l => J.cons l fun x2 l => J.ci .i64 l fun x3 l => J.cb l fun x4 l => J.ci .i64 l fun x5 l => J.ci .i64 l fun x6 l => J.ci .i64 l fun x7 l => J.ci .i64 l fun x8 l => J.nil l (s75c4 Ψ (fun y0 y1 y2 y3 y4 h => L1 [(.int .i64 y0), y1, y2, (.int .i64 y3), (.int .i64 y4)] h) (fun y0 y1 y2 y3 y4 y5 y6 y7 y8 h => L3 [(.int .i64 y0), y1, y2, (.int .i64 y3), (.bool y4), (.int .i64 y5), (.int .i64 y6), (.int .i64 y7), (.int .i64 y8)] h) x0 x1 x2 x3 x4 x5 x6 x7 x8 h)) (.block (.seq (rA 2)
 (.reg [⟨none, [(0, false), (1, false)]⟩, ⟨some (24, true), [(2, false), (3, false), (4, false), (5, false), (6, false)]⟩, ⟨some (29, false), [(7, false), (8, false), (9, false), (10, false)]⟩, ⟨some (24, true), [(11, false)]⟩, ⟨none, [(12, false), (13, false)]⟩])))
 (rA 2)))))))
 (.seq (rA 1)
 (.cond (.seq (rA 3)
 (.leaf))
 (.leaf))))))))
 (rA 2)))))))
 (.seq (rA 2)
 (.leaf)))

theorem s75_ok {Ψ : AVal → Heap → Prop} {n : Int} {is : AVal} {over : AVal} {h : Heap} (H : s75 Ψ n is over h) : ACalls prog 75 [(.int .i64 n), is, over] h Ψ :=
 calls_of_evF func75 (by kernel_rfl) (by kernel_rfl) (by kernel_rfl)
 (Eq.mpr (by as_aux_lemma => kernel_rfl : oblF prog f75 (s75_A Ψ) Ψ = ((True) ∧ (((True) ∧ ((∀ (h : Heap) (x0 : Int) (x1 x2 : AVal) (x3 x4 : Int), ON (s75l1 Ψ 0 x0 x1 x2 x3 x4 h)) ∧ (∀ n1 : Nat, (∀ (h : Heap) (x0 : Int) (x1 x2 : AVal) (x3 x4 : Int), OI (s75l1 Ψ (n1 + 1) x0 x1 x2 x3 x4 h)) ∧ ((True) ∧ ((otP 1) ∧ (((True) ∧ ((otP 5) ∧ ((True) ∧ (((True) ∧ ((∀ (h : Heap) (x0 : Int) (x1 x2 : AVal) (x3 : Int) (x4 : Bool) (x5 x6 x7 x8 : Int), ON (s75l3 Ψ (s75l1_G (s75l1 Ψ n1)) 0 x0 x1 x2 x3 x4 x5 x6 x7 x8 h)) ∧ (∀ n3 : Nat, (∀ (h : Heap) (x0 : Int) (x1 x2 : AVal) (x3 : Int) (x4 : Bool) (x5 x6 x7 x8 : Int), OI (s75l3 Ψ (s75l1_G (s75l1 Ψ n1)) (n3 + 1) x0 x1 x2 x3 x4 x5 x6 x7 x8 h)) ∧ ((True) ∧ ((otP 1) ∧ ((otP 1) ∧ ((∀ (h : Heap) (x0 : Int) (x1 x2 : AVal) (x3 : Int) (x4 : Bool) (x5 x6 x7 x8 : Int), OI (s75c4 Ψ (s75l1_G (s75l1 Ψ n1)) (s75l3_G (s75l3 Ψ (s75l1_G (s75l1 Ψ n1)) n3)) x0 x1 x2 x3 x4 x5 x6 x7 x8 h)) ∧ (True)))))))) ∧ (otP 13))))) ∧ ((∀ (h : Heap) (x0 : Int) (x1 x2 : AVal) (x3 x4 : Int), OI (s75c2 Ψ (s75l1_G (s75l1 Ψ n1)) x0 x1 x2 x3 x4 h)) ∧ (True)))))))) ∧ (otP 1)))) (⟨trivial, ⟨⟨trivial, ⟨fun _ _ _ _ _ _ H => H, fun _ => ⟨fun _ _ _ _ _ _ H => H, ⟨trivial, ⟨otP_ok 1, ⟨⟨trivial, ⟨otP_ok 5, ⟨trivial, ⟨⟨trivial, ⟨fun _ _ _ _ _ _ _ _ _ _ H => H, fun _ => ⟨fun _ _ _ _ _ _ _ _ _ _ H => H, ⟨trivial, ⟨otP_ok 1, ⟨otP_ok 1, ⟨fun _ _ _ _ _ _ _ _ _ _ H => H, trivial⟩⟩⟩⟩⟩⟩⟩, otP_ok 13⟩⟩⟩⟩, ⟨fun _ _ _ _ _ _ H => H, trivial⟩⟩⟩⟩⟩⟩⟩, otP_ok 1⟩⟩))
 (Eq.mpr (by as_aux_lemma => kernel_rfl : evF prog f75 (s75_A Ψ) Ψ [(.int .i64 n), is, over] h = s75 Ψ n is over h) H)

/- 77 (dictum/heyting.lattice).up -/
def s77 (Ψ : AVal → Heap → Prop) (l_n : Int) (l_leq : AVal) (z : Int) (w : Int) (h : Heap) : Prop :=
 callV prog l_leq [(.int .i64 w), (.int .i64 z)] h fun v h_ =>
 tBool v fun v1 =>
 retG (.bool v1) h_ Ψ

def s77_A (Ψ : AVal → Heap → Prop) : Ann :=
 .seq (.reg [⟨none, [(0, true), (1, false)]⟩])
 (.seq (rA 6)
 (.leaf))

theorem s77_ok {Ψ : AVal → Heap → Prop} {l_n : Int} {l_leq : AVal} {z : Int} {w : Int} {h : Heap} (H : s77 Ψ l_n l_leq z w h) : ACalls prog 77 [(.agg [(.int .i64 l_n), l_leq]), (.int .i64 z), (.int .i64 w)] h Ψ :=
 calls_of_evF func77 (by kernel_rfl) (by kernel_rfl) (by kernel_rfl)
 (Eq.mpr (by as_aux_lemma => kernel_rfl : oblF prog f77 (s77_A Ψ) Ψ = (otP 5)) (otP_ok 5))
 (Eq.mpr (by as_aux_lemma => kernel_rfl : evF prog f77 (s77_A Ψ) Ψ [(.agg [(.int .i64 l_n), l_leq]), (.int .i64 z), (.int .i64 w)] h = s77 Ψ l_n l_leq z w h) H)

/- 79 dictum/worlds.asked -/
abbrev s79l1_T := AVal → AVal → AVal → Int → Int → Heap → Prop
def s79l1_R (F : s79l1_T) (l : List AVal) (h : Heap) : Prop := J.cons l fun x0 l => J.cons l fun x1 l => J.cons l fun x2 l => J.ci .i64 l fun x3 l => J.ci .i64 l fun x4 l => J.nil l (F x0 x1 x2 x3 x4 h)
def s79l1_G (F : s79l1_T) (x0 x1 x2 : AVal) (x3 x4 : Int) (h : Heap) : Prop := gJ [.any, .any, .any, .int .i64, .int .i64] [x0, x1, x2, (.int .i64 x3), (.int .i64 x4)] h (s79l1_R F)
def s79l1_E (F : Nat → s79l1_T) (x0 x1 x2 : AVal) (x3 x4 : Int) (h : Heap) : Prop := gJ [.any, .any, .any, .int .i64, .int .i64] [x0, x1, x2, (.int .i64 x3), (.int .i64 x4)] h (fun l h => ∃ n, s79l1_R (F n) l h)
theorem s79l1_go {F : s79l1_T} {x0 x1 x2 : AVal} {x3 x4 : Int} {h : Heap} (H : F x0 x1 x2 x3 x4 h) : s79l1_G F x0 x1 x2 x3 x4 h := gJ_plain rfl H
theorem s79l1_in {F : Nat → s79l1_T} {x0 x1 x2 : AVal} {x3 x4 : Int} {h : Heap} (n : Nat) (H : F n x0 x1 x2 x3 x4 h) : s79l1_E F x0 x1 x2 x3 x4 h := gJ_plain rfl ⟨n, H⟩

def s79c2 (Ψ : AVal → Heap → Prop) (L1 : s79l1_T) (m1 leq1 t17_1 : AVal) (t18_1 t19_1 : Int) (t31 : Bool) (h : Heap) : Prop :=
 ifT t31 (
 retG (.tuple [.nilfunc, (.int .i64 2)]) h Ψ) (
 rg (t19_1 + 1) (
 L1 m1 leq1 t17_1 t18_1 (t19_1 + 1) h))

def s79l1 (Ψ : AVal → Heap → Prop) : Nat → s79l1_T
 | 0, _, _, _, _, _, _ => False
 | n1 + 1, m, leq, t17, t18, t19, h =>
 ifT (decide (t19 < t18)) (
 ixS 1 t17 t19 fun p =>
 ld1 h p fun v4 =>
 tInt .i64 v4 fun v5 =>
 ifT (decide (v5 < 0)) (
 s79c2 Ψ (s79l1_G (s79l1 Ψ n1)) m leq t17 t18 t19 true h) (
 addOff m 0 fun p1 =>
 ld1 h p1 fun v6 =>
 lenN v6 fun n2 =>
 s79c2 Ψ (s79l1_G (s79l1 Ψ n1)) m leq t17 t18 t19 (decide (n2 ≤ v5)) h)) (
 retG (.tuple [leq, (.int .i64 0)]) h Ψ)

def s79 (Ψ : AVal → Heap → Prop) (m_Up : AVal) (m_Val : AVal) (worlds : AVal) (h : Heap) : Prop :=
 callG prog 116 [(.agg [m_Up, m_Val])] h fun v h_ =>
 tTup v fun l_ =>
 tCons l_ fun v1 l_1 =>
 tCons l_1 fun v2 l_2 =>
 tBool v2 fun v3 =>
 tNil l_2 (
 ifT (!v3) (
 retG (.tuple [.nilfunc, (.int .i64 170)]) h_ Ψ) (
 lenN worlds fun n =>
 s79l1_E (s79l1 Ψ) (.lptr [m_Up, m_Val]) v1 worlds n 0 h_))

def s79_A (Ψ : AVal → Heap → Prop) : Ann :=
 .seq (.reg [⟨none, [(0, true), (1, false), (2, false)]⟩])
 (.seq (rA 7)
 (.seq (.seq (rA 2)
 (.cond (.seq (rA 2)
 (.leaf))
 (.leaf)))
 (.seq (.seq (rA 3)
 (.block (.loop [(2, .any), (6, .any), (17, .any), (18, .int .i64), (19, .int .i64)] (fun n l h => s79l1_R (s79l1 Ψ n) l h) (fun L1 =>
 .seq (rA 1)
 (.seq (.cond (.leaf)
 (.leaf))
 (.seq (.block (.seq (rA 3)
 (.cut [(2, .any), (6, .any), (17, .any), (18, .int .i64), (19, .int .i64), (31, .bool)] (fun l h => J.cons l fun x0 l => J.cons l fun x1 l => J.cons l fun x2 l => J.ci .i64 l fun x3 l => J.ci .i64 l fun x4 l => J.cb l fun x5 l => J.nil l (s79c2 Ψ (fun y0 y1 y2 y3 y4 h => L1 [y0, y1, y2, (.int .i64 y3), (.int .i64 y4)] h) x0 x1 x2 x3 x4 x5 h)) (.reg [⟨none, [(0, false), (1, false), (2, false)]⟩, ⟨some (25, false), [(3, false), (4, false), (5, false), (6, false), (7, false)]⟩, ⟨none, [(8, false)]⟩])
 (.cond (.seq (rA 2)
 (.leaf))
 (.leaf)))))
 (rA 2)))))))
 (.seq (rA 3)
 (.leaf)))))

theorem s79_ok {Ψ : AVal → Heap → Prop} {m_Up : AVal} {m_Val : AVal} {worlds : AVal} {h : Heap} (H : s79 Ψ m_Up m_Val worlds h) : ACalls prog 79 [(.agg [m_Up, m_Val]), worlds] h Ψ :=
 calls_of_evF func79 (by kernel_rfl) (by kernel_rfl) (by kernel_rfl)
 (Eq.mpr (by as_aux_lemma => kernel_rfl : oblF prog f79 (s79_A Ψ) Ψ = ((True) ∧ ((True) ∧ ((otP 13) ∧ (((True) ∧ ((∀ (h : Heap) (x0 x1 x2 : AVal) (x3 x4 : Int), ON (s79l1 Ψ 0 x0 x1 x2 x3 x4 h)) ∧ (∀ n1 : Nat, (∀ (h : Heap) (x0 x1 x2 : AVal) (x3 x4 : Int), OI (s79l1 Ψ (n1 + 1) x0 x1 x2 x3 x4 h)) ∧ ((True) ∧ ((otP 1) ∧ (((True) ∧ ((True) ∧ ((∀ (h : Heap) (x0 x1 x2 : AVal) (x3 x4 : Int) (x5 : Bool), OI (s79c2 Ψ (s79l1_G (s79l1 Ψ n1)) x0 x1 x2 x3 x4 x5 h)) ∧ (otP 3)))) ∧ (True))))))) ∧ (otP 1)))))) (⟨trivial, ⟨trivial, ⟨otP_ok 13, ⟨⟨trivial, ⟨fun _ _ _ _ _ _ H => H, fun _ => ⟨fun _ _ _ _ _ _ H => H, ⟨trivial, ⟨otP_ok 1, ⟨⟨trivial, ⟨trivial, ⟨fun _ _ _ _ _ _ _ H => H, otP_ok 3⟩⟩⟩, trivial⟩⟩⟩⟩⟩⟩, otP_ok 1⟩⟩⟩⟩))
 (Eq.mpr (by as_aux_lemma => kernel_rfl : evF prog f79 (s79_A Ψ) Ψ [(.agg [m_Up, m_Val]), worlds] h = s79 Ψ m_Up m_Val worlds h) H)

/- 81 dictum/worlds.Tidy$1 -/
def s81 (Ψ : AVal → Heap → Prop) (b : Int) (c0 : AVal) (c1 : AVal) (h : Heap) : Prop :=
 ld1 h c0 fun v =>
 tInt .i64 v fun v1 =>
 ifT (v1 != b) (
 ld1 h c1 fun v2 =>
 ld1 h c0 fun v3 =>
 tInt .i64 v3 fun v4 =>
 callV prog v2 [(.int .i64 v4), (.int .i64 b)] h fun v5 h_ =>
 tBool v5 fun v6 =>
 retG (.bool v6) h_ Ψ) (
 retG (.bool false) h Ψ)

def s81_A (Ψ : AVal → Heap → Prop) : Ann :=
 .seq (rA 1)
 (.seq (.reg [⟨none, [(0, false), (1, false), (2, false), (3, false)]⟩, ⟨some (8, true), [(4, false), (5, false), (6, false), (7, false)]⟩, ⟨none, [(8, false), (9, false)]⟩])
 (.leaf))

theorem s81_ok {Ψ : AVal → Heap → Prop} {b : Int} {c0 : AVal} {c1 : AVal} {h : Heap} (H : s81 Ψ b c0 c1 h) : ACalls prog 81 [(.int .i64 b), c0, c1] h Ψ :=
 calls_of_evF func81 (by kernel_rfl) (by kernel_rfl) (by kernel_rfl)
 (Eq.mpr (by as_aux_lemma => kernel_rfl : oblF prog f81 (s81_A Ψ) Ψ = (otP 5)) (otP_ok 5))
 (Eq.mpr (by as_aux_lemma => kernel_rfl : evF prog f81 (s81_A Ψ) Ψ [(.int .i64 b), c0, c1] h = s81 Ψ b c0 c1 h) H)

/- 83 slices.ContainsFunc[[]int,int] -/
def s83 (Ψ : AVal → Heap → Prop) (s : AVal) (f : AVal) (h : Heap) : Prop :=
 callG prog 117 [s, f] h fun v h_ =>
 tInt .i64 v fun v1 =>
 retG (.bool (decide (0 ≤ v1))) h_ Ψ

def s83_A (Ψ : AVal → Heap → Prop) : Ann :=
 .seq (rA 1)
 (.seq (rA 5)
 (.leaf))

theorem s83_ok {Ψ : AVal → Heap → Prop} {s : AVal} {f : AVal} {h : Heap} (H : s83 Ψ s f h) : ACalls prog 83 [s, f] h Ψ :=
 calls_of_evF func83 (by kernel_rfl) (by kernel_rfl) (by kernel_rfl)
 (Eq.mpr (by as_aux_lemma => kernel_rfl : oblF prog f83 (s83_A Ψ) Ψ = (otP 5)) (otP_ok 5))
 (Eq.mpr (by as_aux_lemma => kernel_rfl : evF prog f83 (s83_A Ψ) Ψ [s, f] h = s83 Ψ s f h) H)

/- 85 slices.Clone[[]string,string] -/
def s85 (Ψ : AVal → Heap → Prop) (s : AVal) (h : Heap) : Prop :=
 nilS s fun b =>
 ifT b (
 retG .nilsl h Ψ) (
 Sym.newRow 1 [] h fun r h_ =>
 appC 1 16 h_ (.sl r 1 0 0) s fun v h_1 =>
 retG v h_1 Ψ)

def s85_A (Ψ : AVal → Heap → Prop) : Ann :=
 .seq (rA 1)
 (.seq (.seq (rA 2)
 (.cond (.seq (rA 1)
 (.leaf))
 (.leaf)))
 (.seq (rA 4)
 (.leaf)))

theorem s85_ok {Ψ : AVal → Heap → Prop} {s : AVal} {h : Heap} (H : s85 Ψ s h) : ACalls prog 85 [s] h Ψ :=
 calls_of_evF func85 (by kernel_rfl) (by kernel_rfl) (by kernel_rfl)
 (Eq.mpr (by as_aux_lemma => kernel_rfl : oblF prog f85 (s85_A Ψ) Ψ = (otP 1133)) (otP_ok 1133))
 (Eq.mpr (by as_aux_lemma => kernel_rfl : evF prog f85 (s85_A Ψ) Ψ [s] h = s85 Ψ s h) H)

/- 89 dictum/formula.New -/
def s89 (Ψ : AVal → Heap → Prop) (h : Heap) : Prop :=
 newMap h fun r h_ =>
 Sym.newRow 2 [(.agg [.nilsl, (.mapr r)])] h_ fun r1 h_1 =>
 retG (.ptr r1 0 0) h_1 Ψ

def s89_A (Ψ : AVal → Heap → Prop) : Ann :=
 .seq (rA 1)
 (.seq (rA 4)
 (.leaf))

theorem s89_ok {Ψ : AVal → Heap → Prop} {h : Heap} (H : s89 Ψ  h) : ACalls prog 89 [] h Ψ :=
 calls_of_evF func89 (by kernel_rfl) (by kernel_rfl) (by kernel_rfl)
 (Eq.mpr (by as_aux_lemma => kernel_rfl : oblF prog f89 (s89_A Ψ) Ψ = (otP 5)) (otP_ok 5))
 (Eq.mpr (by as_aux_lemma => kernel_rfl : evF prog f89 (s89_A Ψ) Ψ [] h = s89 Ψ  h) H)

/- 91 (*dictum/formula.Table).alive -/
def s91 (Ψ : AVal → Heap → Prop) (t : AVal) (h : Heap) : Prop :=
 nilP t fun b =>
 ifT (!b) (
 nilCheckA t fun p =>
 addOff p 1 fun p1 =>
 ld1 h p1 fun v =>
 nilM v fun b1 =>
 retG (.bool (!b1)) h Ψ) (
 retG (.bool false) h Ψ)

def s91_A (Ψ : AVal → Heap → Prop) : Ann :=
 .seq (rA 1)
 (.seq (.reg [⟨none, [(0, false), (1, false), (2, false)]⟩, ⟨some (5, true), [(3, false), (4, false), (5, false), (6, false), (7, false)]⟩, ⟨none, [(8, false), (9, false)]⟩])
 (.leaf))

theorem s91_ok {Ψ : AVal → Heap → Prop} {t : AVal} {h : Heap} (H : s91 Ψ t h) : ACalls prog 91 [t] h Ψ :=
 calls_of_evF func91 (by kernel_rfl) (by kernel_rfl) (by kernel_rfl)
 (Eq.mpr (by as_aux_lemma => kernel_rfl : oblF prog f91 (s91_A Ψ) Ψ = (otP 5)) (otP_ok 5))
 (Eq.mpr (by as_aux_lemma => kernel_rfl : evF prog f91 (s91_A Ψ) Ψ [t] h = s91 Ψ t h) H)

/- 93 (*dictum/formula.Table).Below$1 -/
def s93 (Ψ : AVal → Heap → Prop) (id_ : Int) (c0 : AVal) (c1 : AVal) (c2 : AVal) (h : Heap) : Prop :=
 ld1 h c0 fun v =>
 mapGet (.int .i64 0) h v (.int .i64 id_) fun v1 b =>
 tInt .i64 v1 fun v2 =>
 ifT (decide (0 < v2)) (
 retG (.tuple []) h Ψ) (
 ld1 h c0 fun v3 =>
 mapPut h v3 (.int .i64 id_) (.int .i64 1) fun h_ =>
 ld1 h_ c1 fun v4 =>
 nilCheckA v4 fun p =>
 addOff p 0 fun p1 =>
 ld1 h_ p1 fun v5 =>
 ixS 4 v5 id_ fun p2 =>
 ldN 4 h_ p2 fun l_ =>
 tCons l_ fun v6 l_1 =>
 tInt .i64 v6 fun v7 =>
 tCons l_1 fun v8 l_2 =>
 tStr v8 fun v9 =>
 tCons l_2 fun v10 l_3 =>
 tInt .i64 v10 fun v11 =>
 tCons l_3 fun v12 l_4 =>
 tInt .i64 v12 fun v13 =>
 tNil l_4 (
 Sym.newRow 4 [(.agg [(.int .i64 0), (.str (ByteArray.mk #[])), (.int .i64 0), (.int .i64 0)])] h_ fun r h_1 =>
 st false h_1 (.ptr r 0 0) [(.int .i64 v7), (.str v9), (.int .i64 v11), (.int .i64 v13)] fun h_2 =>
 ld1 h_2 (.ptr r 0 0) fun v14 =>
 tInt .i64 v14 fun v15 =>
 ifT (decide (3 ≤ v15)) (
 ld1 h_2 c2 fun v16 =>
 ld1 h_2 (.ptr r 0 2) fun v17 =>
 tInt .i64 v17 fun v18 =>
 callV prog v16 [(.int .i64 v18)] h_2 fun v19 h_3 =>
 ld1 h_3 c2 fun v20 =>
 ld1 h_3 (.ptr r 0 3) fun v21 =>
 tInt .i64 v21 fun v22 =>
 callV prog v20 [(.int .i64 v22)] h_3 fun v23 h_4 =>
 retG (.tuple []) h_4 Ψ) (
 retG (.tuple []) h_2 Ψ)))

def s93_A (Ψ : AVal → Heap → Prop) : Ann :=
 .seq (.seq (rA 4)
 (.cond (.leaf)
 (.leaf)))
 (.seq (rA 3)
 (.seq (rA 9)
 (.seq (rA 3)
 (.cond (.seq (rA 4)
 (rA 4))
 (.leaf)))))

theorem s93_ok {Ψ : AVal → Heap → Prop} {id_ : Int} {c0 : AVal} {c1 : AVal} {c2 : AVal} {h : Heap} (H : s93 Ψ id_ c0 c1 c2 h) : ACalls prog 93 [(.int .i64 id_), c0, c1, c2] h Ψ :=
 calls_of_evF func93 (by kernel_rfl) (by kernel_rfl) (by kernel_rfl)
 (Eq.mpr (by as_aux_lemma => kernel_rfl : oblF prog f93 (s93_A Ψ) Ψ = (otP 13643)) (otP_ok 13643))
 (Eq.mpr (by as_aux_lemma => kernel_rfl : evF prog f93 (s93_A Ψ) Ψ [(.int .i64 id_), c0, c1, c2] h = s93 Ψ id_ c0 c1 c2 h) H)

/- 96 (dictum/heyting.lattice).imp$1 -/
def s96 (Ψ : AVal → Heap → Prop) (z : Int) (c0 : AVal) (c1 : AVal) (c2 : AVal) (h : Heap) : Prop :=
 ldN 2 h c0 fun l_ =>
 tCons l_ fun v l_1 =>
 tInt .i64 v fun v1 =>
 tCons l_1 fun v2 l_2 =>
 tNil l_2 (
 ld1 h c1 fun v3 =>
 tInt .i64 v3 fun v4 =>
 callG prog 50 [(.agg [(.int .i64 v1), v2]), (.int .i64 z), (.int .i64 v4)] h fun v5 h_ =>
 tTup v5 fun l_3 =>
 tCons l_3 fun v6 l_4 =>
 tInt .i64 v6 fun v7 =>
 tCons l_4 fun v8 l_5 =>
 tBool v8 fun v9 =>
 tNil l_5 (
 addOff c0 1 fun p =>
 ld1 h_ p fun v10 =>
 ld1 h_ c2 fun v11 =>
 tInt .i64 v11 fun v12 =>
 callV prog v10 [(.int .i64 v7), (.int .i64 v12)] h_ fun v13 h_1 =>
 tBool v13 fun v14 =>
 retG (.bool v14) h_1 Ψ))

def s96_A (Ψ : AVal → Heap → Prop) : Ann :=
 .seq (rA 1)
 (.seq (rA 9)
 (.seq (rA 6)
 (.leaf)))

theorem s96_ok {Ψ : AVal → Heap → Prop} {z : Int} {c0 : AVal} {c1 : AVal} {c2 : AVal} {h : Heap} (H : s96 Ψ z c0 c1 c2 h) : ACalls prog 96 [(.int .i64 z), c0, c1, c2] h Ψ :=
 calls_of_evF func96 (by kernel_rfl) (by kernel_rfl) (by kernel_rfl)
 (Eq.mpr (by as_aux_lemma => kernel_rfl : oblF prog f96 (s96_A Ψ) Ψ = (otP 21)) (otP_ok 21))
 (Eq.mpr (by as_aux_lemma => kernel_rfl : evF prog f96 (s96_A Ψ) Ψ [(.int .i64 z), c0, c1, c2] h = s96 Ψ z c0 c1 c2 h) H)

/- 98 dictum/force.order -/
abbrev s98l1_T := AVal → AVal → Int → Int → Heap → Prop
def s98l1_R (F : s98l1_T) (l : List AVal) (h : Heap) : Prop := J.cons l fun x0 l => J.cons l fun x1 l => J.ci .i64 l fun x2 l => J.ci .i64 l fun x3 l => J.nil l (F x0 x1 x2 x3 h)
def s98l1_G (F : s98l1_T) (x0 x1 : AVal) (x2 x3 : Int) (h : Heap) : Prop := gJ [.any, .any, .int .i64, .int .i64] [x0, x1, (.int .i64 x2), (.int .i64 x3)] h (s98l1_R F)
def s98l1_E (F : Nat → s98l1_T) (x0 x1 : AVal) (x2 x3 : Int) (h : Heap) : Prop := gJ [.any, .any, .int .i64, .int .i64] [x0, x1, (.int .i64 x2), (.int .i64 x3)] h (fun l h => ∃ n, s98l1_R (F n) l h)
theorem s98l1_go {F : s98l1_T} {x0 x1 : AVal} {x2 x3 : Int} {h : Heap} (H : F x0 x1 x2 x3 h) : s98l1_G F x0 x1 x2 x3 h := gJ_plain rfl H
theorem s98l1_in {F : Nat → s98l1_T} {x0 x1 : AVal} {x2 x3 : Int} {h : Heap} (n : Nat) (H : F n x0 x1 x2 x3 h) : s98l1_E F x0 x1 x2 x3 h := gJ_plain rfl ⟨n, H⟩

abbrev s98l2_T := AVal → AVal → Int → AVal → AVal → Int → Int → Heap → Prop
def s98l2_R (F : s98l2_T) (l : List AVal) (h : Heap) : Prop := J.cons l fun x0 l => J.cons l fun x1 l => J.ci .i64 l fun x2 l => J.cons l fun x3 l => J.cons l fun x4 l => J.ci .i64 l fun x5 l => J.ci .i64 l fun x6 l => J.nil l (F x0 x1 x2 x3 x4 x5 x6 h)
def s98l2_G (F : s98l2_T) (x0 x1 : AVal) (x2 : Int) (x3 x4 : AVal) (x5 x6 : Int) (h : Heap) : Prop := gJ [.any, .any, .int .i64, .any, .any, .int .i64, .int .i64] [x0, x1, (.int .i64 x2), x3, x4, (.int .i64 x5), (.int .i64 x6)] h (s98l2_R F)
def s98l2_E (F : Nat → s98l2_T) (x0 x1 : AVal) (x2 : Int) (x3 x4 : AVal) (x5 x6 : Int) (h : Heap) : Prop := gJ [.any, .any, .int .i64, .any, .any, .int .i64, .int .i64] [x0, x1, (.int .i64 x2), x3, x4, (.int .i64 x5), (.int .i64 x6)] h (fun l h => ∃ n, s98l2_R (F n) l h)
theorem s98l2_go {F : s98l2_T} {x0 x1 : AVal} {x2 : Int} {x3 x4 : AVal} {x5 x6 : Int} {h : Heap} (H : F x0 x1 x2 x3 x4 x5 x6 h) : s98l2_G F x0 x1 x2 x3 x4 x5 x6 h := gJ_plain rfl H
theorem s98l2_in {F : Nat → s98l2_T} {x0 x1 : AVal} {x2 : Int} {x3 x4 : AVal} {x5 x6 : Int} {h : Heap} (n : Nat) (H : F n x0 x1 x2 x3 x4 x5 x6 h) : s98l2_E F x0 x1 x2 x3 x4 x5 x6 h := gJ_plain rfl ⟨n, H⟩

abbrev s98l3_T := AVal → AVal → Int → AVal → AVal → Int → Int → AVal → Int → Int → Heap → Prop
def s98l3_R (F : s98l3_T) (l : List AVal) (h : Heap) : Prop := J.cons l fun x0 l => J.cons l fun x1 l => J.ci .i64 l fun x2 l => J.cons l fun x3 l => J.cons l fun x4 l => J.ci .i64 l fun x5 l => J.ci .i64 l fun x6 l => J.cons l fun x7 l => J.ci .i64 l fun x8 l => J.ci .i64 l fun x9 l => J.nil l (F x0 x1 x2 x3 x4 x5 x6 x7 x8 x9 h)
def s98l3_G (F : s98l3_T) (x0 x1 : AVal) (x2 : Int) (x3 x4 : AVal) (x5 x6 : Int) (x7 : AVal) (x8 x9 : Int) (h : Heap) : Prop := gJ [.any, .any, .int .i64, .any, .any, .int .i64, .int .i64, .any, .int .i64, .int .i64] [x0, x1, (.int .i64 x2), x3, x4, (.int .i64 x5), (.int .i64 x6), x7, (.int .i64 x8), (.int .i64 x9)] h (s98l3_R F)
def s98l3_E (F : Nat → s98l3_T) (x0 x1 : AVal) (x2 : Int) (x3 x4 : AVal) (x5 x6 : Int) (x7 : AVal) (x8 x9 : Int) (h : Heap) : Prop := gJ [.any, .any, .int .i64, .any, .any, .int .i64, .int .i64, .any, .int .i64, .int .i64] [x0, x1, (.int .i64 x2), x3, x4, (.int .i64 x5), (.int .i64 x6), x7, (.int .i64 x8), (.int .i64 x9)] h (fun l h => ∃ n, s98l3_R (F n) l h)
theorem s98l3_go {F : s98l3_T} {x0 x1 : AVal} {x2 : Int} {x3 x4 : AVal} {x5 x6 : Int} {x7 : AVal} {x8 x9 : Int} {h : Heap} (H : F x0 x1 x2 x3 x4 x5 x6 x7 x8 x9 h) : s98l3_G F x0 x1 x2 x3 x4 x5 x6 x7 x8 x9 h := gJ_plain rfl H
theorem s98l3_in {F : Nat → s98l3_T} {x0 x1 : AVal} {x2 : Int} {x3 x4 : AVal} {x5 x6 : Int} {x7 : AVal} {x8 x9 : Int} {h : Heap} (n : Nat) (H : F n x0 x1 x2 x3 x4 x5 x6 x7 x8 x9 h) : s98l3_E F x0 x1 x2 x3 x4 x5 x6 x7 x8 x9 h := gJ_plain rfl ⟨n, H⟩

def s98c4 (Ψ : AVal → Heap → Prop) (L1 : s98l1_T) (L2 : s98l2_T) (L3 : s98l3_T) (m3 out3 : AVal) (w2 : Int) (in_2 wait2 : AVal) (t16_3 t17_3 : Int) (t36_1 : AVal) (t37_1 t38_1 : Int) (h : Heap) : Prop :=
 rg (t38_1 + 1) (
 L3 m3 out3 w2 in_2 wait2 t16_3 t17_3 t36_1 t37_1 (t38_1 + 1) h)

def s98l3 (Ψ : AVal → Heap → Prop) (L1 : s98l1_T) (L2 : s98l2_T) : Nat → s98l3_T
 | 0, _, _, _, _, _, _, _, _, _, _, _ => False
 | n6 + 1, m2, out2, w1, in_1, wait1, t16_2, t17_2, t36, t37, t38, h =>
 ifT (decide (t38 < t37)) (
 ixS 1 t36 t38 fun p3 =>
 ld1 h p3 fun v5 =>
 tInt .i64 v5 fun v6 =>
 mapGet (.int .i64 0) h in_1 (.int .i64 v6) fun v7 b =>
 tInt .i64 v7 fun v8 =>
 ifT (v8 == 0) (
 mapGet (.int .i64 0) h in_1 (.int .i64 v6) fun v9 b1 =>
 tInt .i64 v9 fun v10 =>
 rg (v10 + 1) (
 mapPut h in_1 (.int .i64 v6) (.int .i64 (v10 + 1)) fun h_4 =>
 appC 1 8 h_4 wait1 (.lsl 1 [(.int .i64 v6)]) fun v11 h_5 =>
 s98c4 Ψ L1 L2 (s98l3_G (s98l3 Ψ L1 L2 n6)) m2 out2 w1 in_1 v11 t16_2 t17_2 t36 t37 t38 h_5)) (
 s98c4 Ψ L1 L2 (s98l3_G (s98l3 Ψ L1 L2 n6)) m2 out2 w1 in_1 wait1 t16_2 t17_2 t36 t37 t38 h)) (
 slX 1 wait1 1 none fun v12 =>
 L2 m2 out2 w1 in_1 v12 t16_2 t17_2 h)

abbrev s98l5_T := AVal → AVal → Int → AVal → Int → Int → Int → Int → Heap → Prop
def s98l5_R (F : s98l5_T) (l : List AVal) (h : Heap) : Prop := J.cons l fun x0 l => J.cons l fun x1 l => J.ci .i64 l fun x2 l => J.cons l fun x3 l => J.ci .i64 l fun x4 l => J.ci .i64 l fun x5 l => J.ci .i64 l fun x6 l => J.ci .i64 l fun x7 l => J.nil l (F x0 x1 x2 x3 x4 x5 x6 x7 h)
def s98l5_G (F : s98l5_T) (x0 x1 : AVal) (x2 : Int) (x3 : AVal) (x4 x5 x6 x7 : Int) (h : Heap) : Prop := gJ [.any, .any, .int .i64, .any, .int .i64, .int .i64, .int .i64, .int .i64] [x0, x1, (.int .i64 x2), x3, (.int .i64 x4), (.int .i64 x5), (.int .i64 x6), (.int .i64 x7)] h (s98l5_R F)
def s98l5_E (F : Nat → s98l5_T) (x0 x1 : AVal) (x2 : Int) (x3 : AVal) (x4 x5 x6 x7 : Int) (h : Heap) : Prop := gJ [.any, .any, .int .i64, .any, .int .i64, .int .i64, .int .i64, .int .i64] [x0, x1, (.int .i64 x2), x3, (.int .i64 x4), (.int .i64 x5), (.int .i64 x6), (.int .i64 x7)] h (fun l h => ∃ n, s98l5_R (F n) l h)
theorem s98l5_go {F : s98l5_T} {x0 x1 : AVal} {x2 : Int} {x3 : AVal} {x4 x5 x6 x7 : Int} {h : Heap} (H : F x0 x1 x2 x3 x4 x5 x6 x7 h) : s98l5_G F x0 x1 x2 x3 x4 x5 x6 x7 h := gJ_plain rfl H
theorem s98l5_in {F : Nat → s98l5_T} {x0 x1 : AVal} {x2 : Int} {x3 : AVal} {x4 x5 x6 x7 : Int} {h : Heap} (n : Nat) (H : F n x0 x1 x2 x3 x4 x5 x6 x7 h) : s98l5_E F x0 x1 x2 x3 x4 x5 x6 x7 h := gJ_plain rfl ⟨n, H⟩

def s98c6 (Ψ : AVal → Heap → Prop) (L1 : s98l1_T) (L5 : s98l5_T) (m5 out5 : AVal) (w4 : Int) (in_4 : AVal) (t16_5 t17_5 t57_1 t58_1 : Int) (h : Heap) : Prop :=
 rg (t58_1 + 1) (
 L5 m5 out5 w4 in_4 t16_5 t17_5 t57_1 (t58_1 + 1) h)

def s98l5 (Ψ : AVal → Heap → Prop) (L1 : s98l1_T) : Nat → s98l5_T
 | 0, _, _, _, _, _, _, _, _, _ => False
 | n9 + 1, m4, out4, w3, in_3, t16_4, t17_4, t57, t58, h =>
 ifT (decide (t58 < t57)) (
 mapGet (.int .i64 0) h in_3 (.int .i64 t58) fun v14 b2 =>
 tInt .i64 v14 fun v15 =>
 ifT (decide (0 < v15)) (
 ixS 1 out4 w3 fun p5 =>
 ld1 h p5 fun v16 =>
 appC 1 8 h v16 (.lsl 1 [(.int .i64 t58)]) fun v17 h_6 =>
 ixS 1 out4 w3 fun p6 =>
 chk (sc v17) (
 st true h_6 p6 [v17] fun h_7 =>
 s98c6 Ψ L1 (s98l5_G (s98l5 Ψ L1 n9)) m4 out4 w3 in_3 t16_4 t17_4 t57 t58 h_7)) (
 s98c6 Ψ L1 (s98l5_G (s98l5 Ψ L1 n9)) m4 out4 w3 in_3 t16_4 t17_4 t57 t58 h)) (
 rg (t17_4 + 1) (
 L1 m4 out4 t16_4 (t17_4 + 1) h))

def s98l2 (Ψ : AVal → Heap → Prop) (L1 : s98l1_T) : Nat → s98l2_T
 | 0, _, _, _, _, _, _, _, _ => False
 | n3 + 1, m1, out1, w, in_, wait, t16_1, t17_1, h =>
 lenN wait fun n4 =>
 ifT (decide (0 < n4)) (
 addOff m1 0 fun p =>
 ld1 h p fun v1 =>
 ixS 1 wait 0 fun p1 =>
 ld1 h p1 fun v2 =>
 tInt .i64 v2 fun v3 =>
 ixS 1 v1 v3 fun p2 =>
 ld1 h p2 fun v4 =>
 lenN v4 fun n5 =>
 s98l3_E (s98l3 Ψ L1 (s98l2_G (s98l2 Ψ L1 n3))) m1 out1 w in_ wait t16_1 t17_1 v4 n5 0 h) (
 addOff m1 0 fun p4 =>
 ld1 h p4 fun v13 =>
 lenN v13 fun n8 =>
 s98l5_E (s98l5 Ψ L1) m1 out1 w in_ t16_1 t17_1 n8 0 h)

def s98l1 (Ψ : AVal → Heap → Prop) : Nat → s98l1_T
 | 0, _, _, _, _, _ => False
 | n2 + 1, m, out, t16, t17, h =>
 ifT (decide (t17 < t16)) (
 newMap h fun r h_1 =>
 mapPut h_1 (.mapr r) (.int .i64 t17) (.int .i64 1) fun h_2 =>
 Sym.newRow 1 [(.int .i64 t17)] h_2 fun r1 h_3 =>
 s98l2_E (s98l2 Ψ (s98l1_G (s98l1 Ψ n2))) m out t17 (.mapr r) (.sl r1 1 0 1) t16 t17 h_3) (
 retG out h Ψ)

def s98 (Ψ : AVal → Heap → Prop) (m_Up : AVal) (m_Val : AVal) (h : Heap) : Prop :=
 lenN m_Up fun n =>
 mkS false 1 24 .nilsl h n n fun v h_ =>
 lenN m_Up fun n1 =>
 s98l1_E (s98l1 Ψ) (.lptr [m_Up, m_Val]) v n1 0 h_

def s98_A (Ψ : AVal → Heap → Prop) : Ann :=
 .seq (.reg [⟨none, [(0, true), (1, false)]⟩])
 (.seq (rA 5)
 (.seq (.seq (rA 4)
 (.block (.loop [(1, .any), (3, .any), (16, .int .i64), (17, .int .i64)] (fun n l h => s98l1_R (s98l1 Ψ n) l h) (fun L1 =>
 .seq (rA 1)
 (.seq (.cond (.leaf)
 (.leaf))
 (.seq (.block (.seq (rA 2)
 (.seq (rA 5)
 (.seq (.seq (rA 3)
 (.block (.loop [(1, .any), (3, .any), (4, .int .i64), (5, .any), (6, .any), (16, .int .i64), (17, .int .i64)] (fun n l h => s98l2_R (s98l2 Ψ (fun y0 y1 y2 y3 h => L1 [y0, y1, (.int .i64 y2), (.int .i64 y3)] h) n) l h) (fun L2 =>
 .seq (.seq (rA 3)
 (.cond (.leaf)
 (.leaf)))
 (.seq (.block (.seq (.draw [(0, false), (1, false), (2, false), (3, false), (4, false), (5, false), (6, false), (7, false), (8, false)] [0, 1, 0, 4, 12, 31, 63, 127, 0])
 (.block (.loop [(1, .any), (3, .any), (4, .int .i64), (5, .any), (6, .any), (16, .int .i64), (17, .int .i64), (36, .any), (37, .int .i64), (38, .int .i64)] (fun n l h => s98l3_R (s98l3 Ψ (fun y0 y1 y2 y3 h => L1 [y0, y1, (.int .i64 y2), (.int .i64 y3)] h) (fun y0 y1 y2 y3 y4 y5 y6 h => L2 [y0, y1, (.int .i64 y2), y3, y4, (.int .i64 y5), (.int .i64 y6)] h) n) l h) (fun L3 =>
 .seq (rA 1)
 (.seq (.cond (.leaf)
 (.leaf))
 (.cut [(1, .any), (3, .any), (4, .int .i64), (5, .any), (6, .any), (16, .int .i64), (17, .int .i64), (36, .any), (37, .int .i64), (38, .int .i64)] (fun l h => J.cons l fun x0 l => J.cons l fun x1 l => J.ci .i64 l fun x2 l => J.cons l fun x3 l => J.cons l fun x4 l => J.ci .i64 l fun x5 l => J.ci .i64 l fun x6 l => J.cons l fun x7 l => J.ci .i64 l fun x8 l => J.ci .i64 l fun x9 l => J.nil l (s98c4 Ψ (fun y0 y1 y2 y3 h => L1 [y0, y1, (.int .i64 y2), (.int .i64 y3)] h) (fun y0 y1 y2 y3 y4 y5 y6 h => L2 [y0, y1, (.int .i64 y2), y3, y4, (.int .i64 y5), (.int .i64 y6)] h) (fun y0 y1 y2 y3 y4 y5 y6 y7 y8 y9 h => L3 [y0, y1, (.int .i64 y2), y3, y4, (.int .i64 y5), (.int .i64 y6), y7, (.int .i64 y8), (.int .i64 y9)] h) x0 x1 x2 x3 x4 x5 x6 x7 x8 x9 h)) (.block (.seq (rA 3)
 (.seq (rA 4)
 (.cond (.seq (rA 5)
 (.reg [⟨none, [(0, false), (1, false), (2, true), (3, false), (4, false)]⟩]))
 (.leaf)))))
 (rA 2))))))))
 (rA 3))))))
 (.seq (rA 4)
 (.block (.loop [(1, .any), (3, .any), (4, .int .i64), (5, .any), (16, .int .i64), (17, .int .i64), (57, .int .i64), (58, .int .i64)] (fun n l h => s98l5_R (s98l5 Ψ (fun y0 y1 y2 y3 h => L1 [y0, y1, (.int .i64 y2), (.int .i64 y3)] h) n) l h) (fun L5 =>
 .seq (rA 1)
 (.seq (.cond (.leaf)
 (.leaf))
 (.cut [(1, .any), (3, .any), (4, .int .i64), (5, .any), (16, .int .i64), (17, .int .i64), (57, .int .i64), (58, .int .i64)] (fun l h => J.cons l fun x0 l => J.cons l fun x1 l => J.ci .i64 l fun x2 l => J.cons l fun x3 l => J.ci .i64 l fun x4 l => J.ci .i64 l fun x5 l => J.ci .i64 l fun x6 l => J.ci .i64 l fun x7 l => J.nil l (s98c6 Ψ (fun y0 y1 y2 y3 h => L1 [y0, y1, (.int .i64 y2), (.int .i64 y3)] h) (fun y0 y1 y2 y3 y4 y5 y6 y7 h => L5 [y0, y1, (.int .i64 y2), y3, (.int .i64 y4), (.int .i64 y5), (.int .i64 y6), (.int .i64 y7)] h) x0 x1 x2 x3 x4 x5 x6 x7 h)) (.block (.seq (rA 2)
 (.seq (rA 4)
 (.cond (.reg [⟨none, [(0, false), (1, false), (2, false), (3, false), (4, false), (5, false), (6, false), (7, true), (8, false), (9, false), (10, false)]⟩])
 (.leaf)))))
 (rA 2)))))))))))
 (rA 2)))))))
 (.seq (rA 2)
 (.leaf))))

theorem s98_ok {Ψ : AVal → Heap → Prop} {m_Up : AVal} {m_Val : AVal} {h : Heap} (H : s98 Ψ m_Up m_Val h) : ACalls prog 98 [(.agg [m_Up, m_Val])] h Ψ :=
 calls_of_evF func98 (by kernel_rfl) (by kernel_rfl) (by kernel_rfl)
 (Eq.mpr (by as_aux_lemma => kernel_rfl : oblF prog f98 (s98_A Ψ) Ψ = ((True) ∧ ((True) ∧ (((True) ∧ ((∀ (h : Heap) (x0 x1 : AVal) (x2 x3 : Int), ON (s98l1 Ψ 0 x0 x1 x2 x3 h)) ∧ (∀ n1 : Nat, (∀ (h : Heap) (x0 x1 : AVal) (x2 x3 : Int), OI (s98l1 Ψ (n1 + 1) x0 x1 x2 x3 h)) ∧ ((True) ∧ ((otP 1) ∧ (((True) ∧ ((True) ∧ (((True) ∧ ((∀ (h : Heap) (x0 x1 : AVal) (x2 : Int) (x3 x4 : AVal) (x5 x6 : Int), ON (s98l2 Ψ (s98l1_G (s98l1 Ψ n1)) 0 x0 x1 x2 x3 x4 x5 x6 h)) ∧ (∀ n2 : Nat, (∀ (h : Heap) (x0 x1 : AVal) (x2 : Int) (x3 x4 : AVal) (x5 x6 : Int), OI (s98l2 Ψ (s98l1_G (s98l1 Ψ n1)) (n2 + 1) x0 x1 x2 x3 x4 x5 x6 h)) ∧ ((otP 5) ∧ (((True) ∧ ((∀ (h : Heap) (x0 x1 : AVal) (x2 : Int) (x3 x4 : AVal) (x5 x6 : Int) (x7 : AVal) (x8 x9 : Int), ON (s98l3 Ψ (s98l1_G (s98l1 Ψ n1)) (s98l2_G (s98l2 Ψ (s98l1_G (s98l1 Ψ n1)) n2)) 0 x0 x1 x2 x3 x4 x5 x6 x7 x8 x9 h)) ∧ (∀ n3 : Nat, (∀ (h : Heap) (x0 x1 : AVal) (x2 : Int) (x3 x4 : AVal) (x5 x6 : Int) (x7 : AVal) (x8 x9 : Int), OI (s98l3 Ψ (s98l1_G (s98l1 Ψ n1)) (s98l2_G (s98l2 Ψ (s98l1_G (s98l1 Ψ n1)) n2)) (n3 + 1) x0 x1 x2 x3 x4 x5 x6 x7 x8 x9 h)) ∧ ((True) ∧ ((otP 1) ∧ ((otP 53) ∧ ((∀ (h : Heap) (x0 x1 : AVal) (x2 : Int) (x3 x4 : AVal) (x5 x6 : Int) (x7 : AVal) (x8 x9 : Int), OI (s98c4 Ψ (s98l1_G (s98l1 Ψ n1)) (s98l2_G (s98l2 Ψ (s98l1_G (s98l1 Ψ n1)) n2)) (s98l3_G (s98l3 Ψ (s98l1_G (s98l1 Ψ n1)) (s98l2_G (s98l2 Ψ (s98l1_G (s98l1 Ψ n1)) n2)) n3)) x0 x1 x2 x3 x4 x5 x6 x7 x8 x9 h)) ∧ (True)))))))) ∧ (True)))))) ∧ ((True) ∧ ((∀ (h : Heap) (x0 x1 : AVal) (x2 : Int) (x3 : AVal) (x4 x5 x6 x7 : Int), ON (s98l5 Ψ (s98l1_G (s98l1 Ψ n1)) 0 x0 x1 x2 x3 x4 x5 x6 x7 h)) ∧ (∀ n5 : Nat, (∀ (h : Heap) (x0 x1 : AVal) (x2 : Int) (x3 : AVal) (x4 x5 x6 x7 : Int), OI (s98l5 Ψ (s98l1_G (s98l1 Ψ n1)) (n5 + 1) x0 x1 x2 x3 x4 x5 x6 x7 h)) ∧ ((True) ∧ ((otP 1) ∧ ((otP 21) ∧ ((∀ (h : Heap) (x0 x1 : AVal) (x2 : Int) (x3 : AVal) (x4 x5 x6 x7 : Int), OI (s98c6 Ψ (s98l1_G (s98l1 Ψ n1)) (s98l5_G (s98l5 Ψ (s98l1_G (s98l1 Ψ n1)) n5)) x0 x1 x2 x3 x4 x5 x6 x7 h)) ∧ (True))))))))))) ∧ (True))))))) ∧ (otP 1))))) (⟨trivial, ⟨trivial, ⟨⟨trivial, ⟨fun _ _ _ _ _ H => H, fun _ => ⟨fun _ _ _ _ _ H => H, ⟨trivial, ⟨otP_ok 1, ⟨⟨trivial, ⟨trivial, ⟨⟨trivial, ⟨fun _ _ _ _ _ _ _ _ H => H, fun _ => ⟨fun _ _ _ _ _ _ _ _ H => H, ⟨otP_ok 5, ⟨⟨trivial, ⟨fun _ _ _ _ _ _ _ _ _ _ _ H => H, fun _ => ⟨fun _ _ _ _ _ _ _ _ _ _ _ H => H, ⟨trivial, ⟨otP_ok 1, ⟨otP_ok 53, ⟨fun _ _ _ _ _ _ _ _ _ _ _ H => H, trivial⟩⟩⟩⟩⟩⟩⟩, trivial⟩⟩⟩⟩⟩, ⟨trivial, ⟨fun _ _ _ _ _ _ _ _ _ H => H, fun _ => ⟨fun _ _ _ _ _ _ _ _ _ H => H, ⟨trivial, ⟨otP_ok 1, ⟨otP_ok 21, ⟨fun _ _ _ _ _ _ _ _ _ H => H, trivial⟩⟩⟩⟩⟩⟩⟩⟩⟩⟩, trivial⟩⟩⟩⟩⟩⟩, otP_ok 1⟩⟩⟩))
 (Eq.mpr (by as_aux_lemma => kernel_rfl : evF prog f98 (s98_A Ψ) Ψ [(.agg [m_Up, m_Val])] h = s98 Ψ m_Up m_Val h) H)

/- 100 (*dictum/force.eye).forces$1 -/
def s100 (Ψ : AVal → Heap → Prop) (v : Int) (c0 : AVal) (c1 : AVal) (h : Heap) : Prop :=
 ld1 h c0 fun v1 =>
 addOff c1 2 fun p =>
 ld1 h p fun v2 =>
 tInt .i64 v2 fun v3 =>
 callG prog 58 [v1, (.int .i64 v), (.int .i64 v3)] h fun v4 h_ =>
 tBool v4 fun v5 =>
 ifT v5 (
 ld1 h_ c0 fun v6 =>
 addOff c1 3 fun p1 =>
 ld1 h_ p1 fun v7 =>
 tInt .i64 v7 fun v8 =>
 callG prog 58 [v6, (.int .i64 v), (.int .i64 v8)] h_ fun v9 h_1 =>
 tBool v9 fun v10 =>
 retG (.bool (!v10)) h_1 Ψ) (
 retG (.bool false) h_ Ψ)

def s100_A (Ψ : AVal → Heap → Prop) : Ann :=
 .seq (rA 1)
 (.seq (.reg [⟨none, [(0, false), (1, false), (2, false), (3, false), (4, false), (5, false)]⟩, ⟨some (10, true), [(6, false), (7, false), (8, false), (9, false), (10, false), (11, false)]⟩, ⟨none, [(12, false), (13, false)]⟩])
 (.leaf))

theorem s100_ok {Ψ : AVal → Heap → Prop} {v : Int} {c0 : AVal} {c1 : AVal} {h : Heap} (H : s100 Ψ v c0 c1 h) : ACalls prog 100 [(.int .i64 v), c0, c1] h Ψ :=
 calls_of_evF func100 (by kernel_rfl) (by kernel_rfl) (by kernel_rfl)
 (Eq.mpr (by as_aux_lemma => kernel_rfl : oblF prog f100 (s100_A Ψ) Ψ = (otP 5)) (otP_ok 5))
 (Eq.mpr (by as_aux_lemma => kernel_rfl : evF prog f100 (s100_A Ψ) Ψ [(.int .i64 v), c0, c1] h = s100 Ψ v c0 c1 h) H)

/- 103 dictum/dictumref03.Word -/
abbrev s103l2_T := ByteArray → Int → Heap → Prop
def s103l2_R (F : s103l2_T) (l : List AVal) (h : Heap) : Prop := J.cs l fun x0 l => J.ci .i64 l fun x1 l => J.nil l (F x0 x1 h)
def s103l2_G (F : s103l2_T) (x0 : ByteArray) (x1 : Int) (h : Heap) : Prop := gJ [.str, .int .i64] [(.str x0), (.int .i64 x1)] h (s103l2_R F)
def s103l2_E (F : Nat → s103l2_T) (x0 : ByteArray) (x1 : Int) (h : Heap) : Prop := gJ [.str, .int .i64] [(.str x0), (.int .i64 x1)] h (fun l h => ∃ n, s103l2_R (F n) l h)
theorem s103l2_go {F : s103l2_T} {x0 : ByteArray} {x1 : Int} {h : Heap} (H : F x0 x1 h) : s103l2_G F x0 x1 h := gJ_plain rfl H
theorem s103l2_in {F : Nat → s103l2_T} {x0 : ByteArray} {x1 : Int} {h : Heap} (n : Nat) (H : F n x0 x1 h) : s103l2_E F x0 x1 h := gJ_plain rfl ⟨n, H⟩

def s103c3 (Ψ : AVal → Heap → Prop) (L2 : s103l2_T) (s3 : ByteArray) (i1 : Int) (t55 : Bool) (h : Heap) : Prop :=
 ifT t55 (
 retG (.bool false) h Ψ) (
 rg (i1 + 1) (
 L2 s3 (i1 + 1) h))

abbrev s103l4_T := ByteArray → AVal → Int → Heap → Prop
def s103l4_R (F : s103l4_T) (l : List AVal) (h : Heap) : Prop := J.cs l fun x0 l => J.cons l fun x1 l => J.ci .i64 l fun x2 l => J.nil l (F x0 x1 x2 h)
def s103l4_G (F : s103l4_T) (x0 : ByteArray) (x1 : AVal) (x2 : Int) (h : Heap) : Prop := gJ [.str, .any, .int .i64] [(.str x0), x1, (.int .i64 x2)] h (s103l4_R F)
def s103l4_E (F : Nat → s103l4_T) (x0 : ByteArray) (x1 : AVal) (x2 : Int) (h : Heap) : Prop := gJ [.str, .any, .int .i64] [(.str x0), x1, (.int .i64 x2)] h (fun l h => ∃ n, s103l4_R (F n) l h)
theorem s103l4_go {F : s103l4_T} {x0 : ByteArray} {x1 : AVal} {x2 : Int} {h : Heap} (H : F x0 x1 x2 h) : s103l4_G F x0 x1 x2 h := gJ_plain rfl H
theorem s103l4_in {F : Nat → s103l4_T} {x0 : ByteArray} {x1 : AVal} {x2 : Int} {h : Heap} (n : Nat) (H : F n x0 x1 x2 h) : s103l4_E F x0 x1 x2 h := gJ_plain rfl ⟨n, H⟩

def s103l4 (Ψ : AVal → Heap → Prop) : Nat → s103l4_T
 | 0, _, _, _, _ => False
 | n1 + 1, s4, l_, i2, h =>
 lenN l_ fun n2 =>
 ifT (decide (i2 < n2)) (
 ixS 1 l_ i2 fun p =>
 ld1 h p fun v3 =>
 tStr v3 fun v4 =>
 ifT (strEq v4 s4) (
 retG (.bool false) h Ψ) (
 rg (i2 + 1) (
 s103l4_G (s103l4 Ψ n1) s4 l_ (i2 + 1) h))) (
 retG (.bool true) h Ψ)

def s103l2 (Ψ : AVal → Heap → Prop) : Nat → s103l2_T
 | 0, _, _, _ => False
 | n + 1, s2, i, h =>
 ifT (decide (i < (s2.size : Int))) (
 ((0 : Int) ≤ i ∧ i < (s2.size : Int)) ∧
 callG prog 131 [(.int .u8 (btA s2 i))] h fun v h_ =>
 tBool v fun v1 =>
 ifT (!v1) (
 ((0 : Int) ≤ i ∧ i < (s2.size : Int)) ∧
 ifT (decide (48 ≤ (btA s2 i))) (
 ((0 : Int) ≤ i ∧ i < (s2.size : Int)) ∧
 ifT (!(decide ((btA s2 i) ≤ 57))) (
 ((0 : Int) ≤ i ∧ i < (s2.size : Int)) ∧
 ifT ((btA s2 i) != 95) (
 ((0 : Int) ≤ i ∧ i < (s2.size : Int)) ∧
 s103c3 Ψ (s103l2_G (s103l2 Ψ n)) s2 i ((btA s2 i) != 39) h_) (
 s103c3 Ψ (s103l2_G (s103l2 Ψ n)) s2 i false h_)) (
 s103c3 Ψ (s103l2_G (s103l2 Ψ n)) s2 i false h_)) (
 ((0 : Int) ≤ i ∧ i < (s2.size : Int)) ∧
 ifT ((btA s2 i) != 95) (
 ((0 : Int) ≤ i ∧ i < (s2.size : Int)) ∧
 s103c3 Ψ (s103l2_G (s103l2 Ψ n)) s2 i ((btA s2 i) != 39) h_) (
 s103c3 Ψ (s103l2_G (s103l2 Ψ n)) s2 i false h_))) (
 s103c3 Ψ (s103l2_G (s103l2 Ψ n)) s2 i false h_)) (
 callG prog 132 [] h fun v2 h_1 =>
 s103l4_E (s103l4 Ψ) s2 v2 0 h_1)

def s103c1 (Ψ : AVal → Heap → Prop) (s1 : ByteArray) (t19 : Bool) (h : Heap) : Prop :=
 ifT t19 (
 retG (.bool false) h Ψ) (
 s103l2_E (s103l2 Ψ) s1 1 h)

def s103 (Ψ : AVal → Heap → Prop) (s : ByteArray) (h : Heap) : Prop :=
 ifT (decide ((s.size : Int) < 1)) (
 s103c1 Ψ s true h) (
 ifT (decide (31 < (s.size : Int))) (
 s103c1 Ψ s true h) (
 ((0 : Int) ≤ 0 ∧ 0 < (s.size : Int)) ∧
 callG prog 131 [(.int .u8 (btA s 0))] h fun v5 h_2 =>
 tBool v5 fun v6 =>
 s103c1 Ψ s (!v6) h_2))

def s103_A (Ψ : AVal → Heap → Prop) : Ann :=
 .seq (rA 1)
 (.seq (.cut [(0, .str), (19, .bool)] (fun l h => J.cs l fun x0 l => J.cb l fun x1 l => J.nil l (s103c1 Ψ x0 x1 h)) (.reg [⟨none, [(0, false), (1, false), (2, false), (3, false)]⟩, ⟨some (9, false), [(4, false), (5, false), (6, false)]⟩, ⟨none, [(7, false), (8, false)]⟩, ⟨some (14, false), [(9, false), (10, false), (11, false), (12, false)]⟩, ⟨none, [(13, false)]⟩])
 (.cond (.seq (rA 1)
 (.leaf))
 (.leaf)))
 (.seq (.seq (rA 1)
 (.block (.loop [(0, .str), (3, .int .i64)] (fun n l h => s103l2_R (s103l2 Ψ n) l h) (fun L2 =>
 .seq (.seq (rA 4)
 (.cond (.leaf)
 (.leaf)))
 (.seq (.block (.cut [(0, .str), (3, .int .i64), (55, .bool)] (fun l h => J.cs l fun x0 l => J.ci .i64 l fun x1 l => J.cb l fun x2 l => J.nil l (s103c3 Ψ (fun y0 y1 h => L2 [(.str y0), (.int .i64 y1)] h) x0 x1 x2 h)) (.reg [⟨none, [(0, false), (1, false), (2, false), (3, false), (4, false), (5, false)]⟩, ⟨some (31, true), [(6, false), (7, false), (8, false), (9, false), (10, false)]⟩, ⟨some (36, true), [(11, false), (12, false), (13, false), (14, false)]⟩, ⟨some (31, true), [(15, false), (16, false)]⟩, ⟨none, [(17, false), (18, false)]⟩, ⟨some (44, true), [(19, false), (20, false), (21, false), (22, false)]⟩, ⟨none, [(23, false), (24, false)]⟩, ⟨some (50, true), [(25, false), (26, false), (27, false), (28, false)]⟩, ⟨none, [(29, false)]⟩])
 (.cond (.seq (rA 1)
 (.leaf))
 (.leaf))))
 (rA 3))))))
 (.seq (rA 2)
 (.seq (.seq (rA 1)
 (.block (.loop [(0, .str), (4, .any), (5, .int .i64)] (fun n l h => s103l4_R (s103l4 Ψ n) l h) (fun L4 =>
 .seq (.seq (rA 4)
 (.cond (.leaf)
 (.leaf)))
 (.seq (.block (.seq (rA 6)
 (.cond (.seq (rA 1)
 (.leaf))
 (.leaf))))
 (rA 3))))))
 (.seq (rA 1)
 (.leaf))))))

theorem s103_ok {Ψ : AVal → Heap → Prop} {s : ByteArray} {h : Heap} (H : s103 Ψ s h) : ACalls prog 103 [(.str s)] h Ψ :=
 calls_of_evF func103 (by kernel_rfl) (by kernel_rfl) (by kernel_rfl)
 (Eq.mpr (by as_aux_lemma => kernel_rfl : oblF prog f103 (s103_A Ψ) Ψ = ((True) ∧ (((True) ∧ ((∀ (h : Heap) (x0 : ByteArray) (x1 : Bool), OI (s103c1 Ψ x0 x1 h)) ∧ (otP 3))) ∧ (((True) ∧ ((∀ (h : Heap) (x0 : ByteArray) (x1 : Int), ON (s103l2 Ψ 0 x0 x1 h)) ∧ (∀ n2 : Nat, (∀ (h : Heap) (x0 : ByteArray) (x1 : Int), OI (s103l2 Ψ (n2 + 1) x0 x1 h)) ∧ ((otP 5) ∧ (((True) ∧ ((∀ (h : Heap) (x0 : ByteArray) (x1 : Int) (x2 : Bool), OI (s103c3 Ψ (s103l2_G (s103l2 Ψ n2)) x0 x1 x2 h)) ∧ (otP 3))) ∧ (True)))))) ∧ ((True) ∧ (((True) ∧ ((∀ (h : Heap) (x0 : ByteArray) (x1 : AVal) (x2 : Int), ON (s103l4 Ψ 0 x0 x1 x2 h)) ∧ (∀ n4 : Nat, (∀ (h : Heap) (x0 : ByteArray) (x1 : AVal) (x2 : Int), OI (s103l4 Ψ (n4 + 1) x0 x1 x2 h)) ∧ (otP 1739)))) ∧ (otP 1))))))) (⟨trivial, ⟨⟨trivial, ⟨fun _ _ _ H => H, otP_ok 3⟩⟩, ⟨⟨trivial, ⟨fun _ _ _ H => H, fun _ => ⟨fun _ _ _ H => H, ⟨otP_ok 5, ⟨⟨trivial, ⟨fun _ _ _ _ H => H, otP_ok 3⟩⟩, trivial⟩⟩⟩⟩⟩, ⟨trivial, ⟨⟨trivial, ⟨fun _ _ _ _ H => H, fun _ => ⟨fun _ _ _ _ H => H, otP_ok 1739⟩⟩⟩, otP_ok 1⟩⟩⟩⟩⟩))
 (Eq.mpr (by as_aux_lemma => kernel_rfl : evF prog f103 (s103_A Ψ) Ψ [(.str s)] h = s103 Ψ s h) H)

/- 114 math/bits.Len64 -/
def s114c3 (Ψ : AVal → Heap → Prop) (x3 n2 : Int) (h : Heap) : Prop :=
 ((0 : Int) ≤ (IntKind.u8.wrap x3) ∧ (IntKind.u8.wrap x3) < ((ByteArray.mk #[0, 1, 2, 2, 3, 3, 3, 3, 4, 4, 4, 4, 4, 4, 4, 4, 5, 5, 5, 5, 5, 5, 5, 5, 5, 5, 5, 5, 5, 5, 5, 5, 6, 6, 6, 6, 6, 6, 6, 6, 6, 6, 6, 6, 6, 6, 6, 6, 6, 6, 6, 6, 6, 6, 6, 6, 6, 6, 6, 6, 6, 6, 6, 6, 7, 7, 7, 7, 7, 7, 7, 7, 7, 7, 7, 7, 7, 7, 7, 7, 7, 7, 7, 7, 7, 7, 7, 7, 7, 7, 7, 7, 7, 7, 7, 7, 7, 7, 7, 7, 7, 7, 7, 7, 7, 7, 7, 7, 7, 7, 7, 7, 7, 7, 7, 7, 7, 7, 7, 7, 7, 7, 7, 7, 7, 7, 7, 7, 8, 8, 8, 8, 8, 8, 8, 8, 8, 8, 8, 8, 8, 8, 8, 8, 8, 8, 8, 8, 8, 8, 8, 8, 8, 8, 8, 8, 8, 8, 8, 8, 8, 8, 8, 8, 8, 8, 8, 8, 8, 8, 8, 8, 8, 8, 8, 8, 8, 8, 8, 8, 8, 8, 8, 8, 8, 8, 8, 8, 8, 8, 8, 8, 8, 8, 8, 8, 8, 8, 8, 8, 8, 8, 8, 8, 8, 8, 8, 8, 8, 8, 8, 8, 8, 8, 8, 8, 8, 8, 8, 8, 8, 8, 8, 8, 8, 8, 8, 8, 8, 8, 8, 8, 8, 8, 8, 8, 8, 8, 8, 8, 8, 8, 8, 8, 8, 8, 8, 8, 8, 8, 8, 8, 8, 8, 8, 8]).size : Int)) ∧
 rg (btA (ByteArray.mk #[0, 1, 2, 2, 3, 3, 3, 3, 4, 4, 4, 4, 4, 4, 4, 4, 5, 5, 5, 5, 5, 5, 5, 5, 5, 5, 5, 5, 5, 5, 5, 5, 6, 6, 6, 6, 6, 6, 6, 6, 6, 6, 6, 6, 6, 6, 6, 6, 6, 6, 6, 6, 6, 6, 6, 6, 6, 6, 6, 6, 6, 6, 6, 6, 7, 7, 7, 7, 7, 7, 7, 7, 7, 7, 7, 7, 7, 7, 7, 7, 7, 7, 7, 7, 7, 7, 7, 7, 7, 7, 7, 7, 7, 7, 7, 7, 7, 7, 7, 7, 7, 7, 7, 7, 7, 7, 7, 7, 7, 7, 7, 7, 7, 7, 7, 7, 7, 7, 7, 7, 7, 7, 7, 7, 7, 7, 7, 7, 8, 8, 8, 8, 8, 8, 8, 8, 8, 8, 8, 8, 8, 8, 8, 8, 8, 8, 8, 8, 8, 8, 8, 8, 8, 8, 8, 8, 8, 8, 8, 8, 8, 8, 8, 8, 8, 8, 8, 8, 8, 8, 8, 8, 8, 8, 8, 8, 8, 8, 8, 8, 8, 8, 8, 8, 8, 8, 8, 8, 8, 8, 8, 8, 8, 8, 8, 8, 8, 8, 8, 8, 8, 8, 8, 8, 8, 8, 8, 8, 8, 8, 8, 8, 8, 8, 8, 8, 8, 8, 8, 8, 8, 8, 8, 8, 8, 8, 8, 8, 8, 8, 8, 8, 8, 8, 8, 8, 8, 8, 8, 8, 8, 8, 8, 8, 8, 8, 8, 8, 8, 8, 8, 8, 8, 8, 8, 8]) (IntKind.u8.wrap x3)) (
 rg (n2 + (btA (ByteArray.mk #[0, 1, 2, 2, 3, 3, 3, 3, 4, 4, 4, 4, 4, 4, 4, 4, 5, 5, 5, 5, 5, 5, 5, 5, 5, 5, 5, 5, 5, 5, 5, 5, 6, 6, 6, 6, 6, 6, 6, 6, 6, 6, 6, 6, 6, 6, 6, 6, 6, 6, 6, 6, 6, 6, 6, 6, 6, 6, 6, 6, 6, 6, 6, 6, 7, 7, 7, 7, 7, 7, 7, 7, 7, 7, 7, 7, 7, 7, 7, 7, 7, 7, 7, 7, 7, 7, 7, 7, 7, 7, 7, 7, 7, 7, 7, 7, 7, 7, 7, 7, 7, 7, 7, 7, 7, 7, 7, 7, 7, 7, 7, 7, 7, 7, 7, 7, 7, 7, 7, 7, 7, 7, 7, 7, 7, 7, 7, 7, 8, 8, 8, 8, 8, 8, 8, 8, 8, 8, 8, 8, 8, 8, 8, 8, 8, 8, 8, 8, 8, 8, 8, 8, 8, 8, 8, 8, 8, 8, 8, 8, 8, 8, 8, 8, 8, 8, 8, 8, 8, 8, 8, 8, 8, 8, 8, 8, 8, 8, 8, 8, 8, 8, 8, 8, 8, 8, 8, 8, 8, 8, 8, 8, 8, 8, 8, 8, 8, 8, 8, 8, 8, 8, 8, 8, 8, 8, 8, 8, 8, 8, 8, 8, 8, 8, 8, 8, 8, 8, 8, 8, 8, 8, 8, 8, 8, 8, 8, 8, 8, 8, 8, 8, 8, 8, 8, 8, 8, 8, 8, 8, 8, 8, 8, 8, 8, 8, 8, 8, 8, 8, 8, 8, 8, 8, 8, 8]) (IntKind.u8.wrap x3))) (
 retG (.int .i64 (n2 + (btA (ByteArray.mk #[0, 1, 2, 2, 3, 3, 3, 3, 4, 4, 4, 4, 4, 4, 4, 4, 5, 5, 5, 5, 5, 5, 5, 5, 5, 5, 5, 5, 5, 5, 5, 5, 6, 6, 6, 6, 6, 6, 6, 6, 6, 6, 6, 6, 6, 6, 6, 6, 6, 6, 6, 6, 6, 6, 6, 6, 6, 6, 6, 6, 6, 6, 6, 6, 7, 7, 7, 7, 7, 7, 7, 7, 7, 7, 7, 7, 7, 7, 7, 7, 7, 7, 7, 7, 7, 7, 7, 7, 7, 7, 7, 7, 7, 7, 7, 7, 7, 7, 7, 7, 7, 7, 7, 7, 7, 7, 7, 7, 7, 7, 7, 7, 7, 7, 7, 7, 7, 7, 7, 7, 7, 7, 7, 7, 7, 7, 7, 7, 8, 8, 8, 8, 8, 8, 8, 8, 8, 8, 8, 8, 8, 8, 8, 8, 8, 8, 8, 8, 8, 8, 8, 8, 8, 8, 8, 8, 8, 8, 8, 8, 8, 8, 8, 8, 8, 8, 8, 8, 8, 8, 8, 8, 8, 8, 8, 8, 8, 8, 8, 8, 8, 8, 8, 8, 8, 8, 8, 8, 8, 8, 8, 8, 8, 8, 8, 8, 8, 8, 8, 8, 8, 8, 8, 8, 8, 8, 8, 8, 8, 8, 8, 8, 8, 8, 8, 8, 8, 8, 8, 8, 8, 8, 8, 8, 8, 8, 8, 8, 8, 8, 8, 8, 8, 8, 8, 8, 8, 8, 8, 8, 8, 8, 8, 8, 8, 8, 8, 8, 8, 8, 8, 8, 8, 8, 8, 8]) (IntKind.u8.wrap x3)))) h Ψ))

def s114c2 (Ψ : AVal → Heap → Prop) (x2 n1 : Int) (h : Heap) : Prop :=
 ifT (decide (256 ≤ x2)) (
 (0 : Int) ≤ 8 ∧
 rg (n1 + 8) (
 s114c3 Ψ (Int.fdiv x2 (2 ^ (min (Int.toNat 8) (IntKind.u64.bits)))) (n1 + 8) h)) (
 s114c3 Ψ x2 n1 h)

def s114c1 (Ψ : AVal → Heap → Prop) (x1 n : Int) (h : Heap) : Prop :=
 ifT (decide (65536 ≤ x1)) (
 (0 : Int) ≤ 16 ∧
 rg (n + 16) (
 s114c2 Ψ (Int.fdiv x1 (2 ^ (min (Int.toNat 16) (IntKind.u64.bits)))) (n + 16) h)) (
 s114c2 Ψ x1 n h)

def s114 (Ψ : AVal → Heap → Prop) (x : Int) (h : Heap) : Prop :=
 ifT (decide (4294967296 ≤ x)) (
 (0 : Int) ≤ 32 ∧
 s114c1 Ψ (Int.fdiv x (2 ^ (min (Int.toNat 32) (IntKind.u64.bits)))) 32 h) (
 s114c1 Ψ x 0 h)

def s114_A (Ψ : AVal → Heap → Prop) : Ann :=
 .seq (rA 1)
 (.cut [(0, .int .u64), (2, .int .i64)] (fun l h => J.ci .u64 l fun x0 l => J.ci .i64 l fun x1 l => J.nil l (s114c1 Ψ x0 x1 h)) (.seq (rA 2)
 (.cond (.seq (rA 3)
 (rA 1))
 (.leaf)))
 (.cut [(0, .int .u64), (2, .int .i64)] (fun l h => J.ci .u64 l fun x0 l => J.ci .i64 l fun x1 l => J.nil l (s114c2 Ψ x0 x1 h)) (.seq (rA 2)
 (.cond (.seq (rA 3)
 (rA 3))
 (.leaf)))
 (.cut [(0, .int .u64), (2, .int .i64)] (fun l h => J.ci .u64 l fun x0 l => J.ci .i64 l fun x1 l => J.nil l (s114c3 Ψ x0 x1 h)) (.seq (rA 2)
 (.cond (.seq (rA 3)
 (rA 3))
 (.leaf)))
 (.seq (rA 7)
 (.leaf)))))

theorem s114_ok {Ψ : AVal → Heap → Prop} {x : Int} {h : Heap} (H : s114 Ψ x h) : ACalls prog 114 [(.int .u64 x)] h Ψ :=
 calls_of_evF func114 (by kernel_rfl) (by kernel_rfl) (by kernel_rfl)
 (Eq.mpr (by as_aux_lemma => kernel_rfl : oblF prog f114 (s114_A Ψ) Ψ = ((True) ∧ ((otP 13) ∧ ((∀ (h : Heap) (x0 x1 : Int), OI (s114c1 Ψ x0 x1 h)) ∧ ((otP 13) ∧ ((∀ (h : Heap) (x0 x1 : Int), OI (s114c2 Ψ x0 x1 h)) ∧ ((otP 13) ∧ ((∀ (h : Heap) (x0 x1 : Int), OI (s114c3 Ψ x0 x1 h)) ∧ (otP 1))))))))) (⟨trivial, ⟨otP_ok 13, ⟨fun _ _ _ H => H, ⟨otP_ok 13, ⟨fun _ _ _ H => H, ⟨otP_ok 13, ⟨fun _ _ _ H => H, otP_ok 1⟩⟩⟩⟩⟩⟩⟩))
 (Eq.mpr (by as_aux_lemma => kernel_rfl : evF prog f114 (s114_A Ψ) Ψ [(.int .u64 x)] h = s114 Ψ x h) H)

/- 116 dictum/worlds.looked -/
abbrev s116l2_T := AVal → Int → AVal → AVal → Int → Int → Heap → Prop
def s116l2_R (F : s116l2_T) (l : List AVal) (h : Heap) : Prop := J.cons l fun x0 l => J.ci .i64 l fun x1 l => J.cons l fun x2 l => J.cons l fun x3 l => J.ci .i64 l fun x4 l => J.ci .i64 l fun x5 l => J.nil l (F x0 x1 x2 x3 x4 x5 h)
def s116l2_G (F : s116l2_T) (x0 : AVal) (x1 : Int) (x2 x3 : AVal) (x4 x5 : Int) (h : Heap) : Prop := gJ [.any, .int .i64, .any, .any, .int .i64, .int .i64] [x0, (.int .i64 x1), x2, x3, (.int .i64 x4), (.int .i64 x5)] h (s116l2_R F)
def s116l2_E (F : Nat → s116l2_T) (x0 : AVal) (x1 : Int) (x2 x3 : AVal) (x4 x5 : Int) (h : Heap) : Prop := gJ [.any, .int .i64, .any, .any, .int .i64, .int .i64] [x0, (.int .i64 x1), x2, x3, (.int .i64 x4), (.int .i64 x5)] h (fun l h => ∃ n, s116l2_R (F n) l h)
theorem s116l2_go {F : s116l2_T} {x0 : AVal} {x1 : Int} {x2 x3 : AVal} {x4 x5 : Int} {h : Heap} (H : F x0 x1 x2 x3 x4 x5 h) : s116l2_G F x0 x1 x2 x3 x4 x5 h := gJ_plain rfl H
theorem s116l2_in {F : Nat → s116l2_T} {x0 : AVal} {x1 : Int} {x2 x3 : AVal} {x4 x5 : Int} {h : Heap} (n : Nat) (H : F n x0 x1 x2 x3 x4 x5 h) : s116l2_E F x0 x1 x2 x3 x4 x5 h := gJ_plain rfl ⟨n, H⟩

abbrev s116l3_T := AVal → Int → AVal → Int → AVal → AVal → Int → Int → Int → Int → Heap → Prop
def s116l3_R (F : s116l3_T) (l : List AVal) (h : Heap) : Prop := J.cons l fun x0 l => J.ci .i64 l fun x1 l => J.cons l fun x2 l => J.ci .i64 l fun x3 l => J.cons l fun x4 l => J.cons l fun x5 l => J.ci .i64 l fun x6 l => J.ci .i64 l fun x7 l => J.ci .i64 l fun x8 l => J.ci .i64 l fun x9 l => J.nil l (F x0 x1 x2 x3 x4 x5 x6 x7 x8 x9 h)
def s116l3_G (F : s116l3_T) (x0 : AVal) (x1 : Int) (x2 : AVal) (x3 : Int) (x4 x5 : AVal) (x6 x7 x8 x9 : Int) (h : Heap) : Prop := gJ [.any, .int .i64, .any, .int .i64, .any, .any, .int .i64, .int .i64, .int .i64, .int .i64] [x0, (.int .i64 x1), x2, (.int .i64 x3), x4, x5, (.int .i64 x6), (.int .i64 x7), (.int .i64 x8), (.int .i64 x9)] h (s116l3_R F)
def s116l3_E (F : Nat → s116l3_T) (x0 : AVal) (x1 : Int) (x2 : AVal) (x3 : Int) (x4 x5 : AVal) (x6 x7 x8 x9 : Int) (h : Heap) : Prop := gJ [.any, .int .i64, .any, .int .i64, .any, .any, .int .i64, .int .i64, .int .i64, .int .i64] [x0, (.int .i64 x1), x2, (.int .i64 x3), x4, x5, (.int .i64 x6), (.int .i64 x7), (.int .i64 x8), (.int .i64 x9)] h (fun l h => ∃ n, s116l3_R (F n) l h)
theorem s116l3_go {F : s116l3_T} {x0 : AVal} {x1 : Int} {x2 : AVal} {x3 : Int} {x4 x5 : AVal} {x6 x7 x8 x9 : Int} {h : Heap} (H : F x0 x1 x2 x3 x4 x5 x6 x7 x8 x9 h) : s116l3_G F x0 x1 x2 x3 x4 x5 x6 x7 x8 x9 h := gJ_plain rfl H
theorem s116l3_in {F : Nat → s116l3_T} {x0 : AVal} {x1 : Int} {x2 : AVal} {x3 : Int} {x4 x5 : AVal} {x6 x7 x8 x9 : Int} {h : Heap} (n : Nat) (H : F n x0 x1 x2 x3 x4 x5 x6 x7 x8 x9 h) : s116l3_E F x0 x1 x2 x3 x4 x5 x6 x7 x8 x9 h := gJ_plain rfl ⟨n, H⟩

def s116c4 (Ψ : AVal → Heap → Prop) (L2 : s116l2_T) (L3 : s116l3_T) (m3 : AVal) (n7 : Int) (leq2 : AVal) (a1 : Int) (l_7 t34_2 : AVal) (t35_2 t36_2 t44_1 t45_1 : Int) (h : Heap) : Prop :=
 rg (t45_1 + 1) (
 L3 m3 n7 leq2 a1 l_7 t34_2 t35_2 t36_2 t44_1 (t45_1 + 1) h)

def s116c6 (Ψ : AVal → Heap → Prop) (L2 : s116l2_T) (L3 : s116l3_T) (m5 : AVal) (n9 : Int) (leq4 : AVal) (a3 : Int) (l_9 t34_4 : AVal) (t35_4 t36_4 t44_3 t45_3 : Int) (t66 : Bool) (h : Heap) : Prop :=
 ifT t66 (
 retG (.tuple [.nilfunc, (.bool false)]) h Ψ) (
 s116c4 Ψ L2 L3 m5 n9 leq4 a3 l_9 t34_4 t35_4 t36_4 t44_3 t45_3 h)

def s116c5 (Ψ : AVal → Heap → Prop) (L2 : s116l2_T) (L3 : s116l3_T) (m4 : AVal) (n8 : Int) (leq3 : AVal) (a2 : Int) (l_8 b t34_3 : AVal) (t35_3 t36_3 t44_2 t45_2 : Int) (t57 : Bool) (h : Heap) : Prop :=
 ifT t57 (
 s116c4 Ψ L2 L3 m4 n8 leq3 a2 l_8 t34_3 t35_3 t36_3 t44_2 t45_2 h) (
 ld1 h b fun v10 =>
 tInt .i64 v10 fun v11 =>
 callV prog leq3 [(.int .i64 v11), (.int .i64 a2)] h fun v12 h_4 =>
 tBool v12 fun v13 =>
 ifT v13 (
 s116c6 Ψ L2 L3 m4 n8 leq3 a2 l_8 t34_3 t35_3 t36_3 t44_2 t45_2 true h_4) (
 callG prog 141 [l_8, (.func (.func 142) [] [m4, b])] h_4 fun v14 h_5 =>
 tBool v14 fun v15 =>
 s116c6 Ψ L2 L3 m4 n8 leq3 a2 l_8 t34_3 t35_3 t36_3 t44_2 t45_2 v15 h_5))

def s116l3 (Ψ : AVal → Heap → Prop) (L2 : s116l2_T) : Nat → s116l3_T
 | 0, _, _, _, _, _, _, _, _, _, _, _ => False
 | n6 + 1, m2, n5, leq1, a, l_6, t34_1, t35_1, t36_1, t44, t45, h =>
 ifT (decide (t45 < t44)) (
 Sym.newRow 1 [(.int .i64 0)] h fun r h_2 =>
 st true h_2 (.ptr r 0 0) [(.int .i64 t45)] fun h_3 =>
 ld1 h_3 (.ptr r 0 0) fun v16 =>
 tInt .i64 v16 fun v17 =>
 ifT (a == v17) (
 s116c5 Ψ L2 (s116l3_G (s116l3 Ψ L2 n6)) m2 n5 leq1 a l_6 (.ptr r 0 0) t34_1 t35_1 t36_1 t44 t45 true h_3) (
 ld1 h_3 (.ptr r 0 0) fun v18 =>
 tInt .i64 v18 fun v19 =>
 callV prog leq1 [(.int .i64 a), (.int .i64 v19)] h_3 fun v20 h_6 =>
 tBool v20 fun v21 =>
 s116c5 Ψ L2 (s116l3_G (s116l3 Ψ L2 n6)) m2 n5 leq1 a l_6 (.ptr r 0 0) t34_1 t35_1 t36_1 t44 t45 (!v21) h_6)) (
 rg (t36_1 + 1) (
 L2 m2 n5 leq1 t34_1 t35_1 (t36_1 + 1) h))

def s116l2 (Ψ : AVal → Heap → Prop) : Nat → s116l2_T
 | 0, _, _, _, _, _, _, _ => False
 | n4 + 1, m1, n3, leq, t34, t35, t36, h =>
 ifT (decide (t36 < t35)) (
 ixS 1 t34 t36 fun p1 =>
 ld1 h p1 fun v7 =>
 callG prog 140 [v7] h fun v8 h_1 =>
 tBool v8 fun v9 =>
 ifT (!v9) (
 retG (.tuple [.nilfunc, (.bool false)]) h_1 Ψ) (
 s116l3_E (s116l3 Ψ (s116l2_G (s116l2 Ψ n4))) m1 n3 leq t36 v7 t34 t35 t36 n3 0 h_1)) (
 retG (.tuple [leq, (.bool true)]) h Ψ)

def s116c1 (Ψ : AVal → Heap → Prop) (m : AVal) (n1 : Int) (t25 : Bool) (h : Heap) : Prop :=
 ifT t25 (
 retG (.tuple [.nilfunc, (.bool false)]) h Ψ) (
 ldN 2 h m fun l_ =>
 tCons l_ fun v l_1 =>
 tCons l_1 fun v1 l_2 =>
 tNil l_2 (
 callG prog 139 [(.agg [v, v1])] h fun v2 h_ =>
 tTup v2 fun l_3 =>
 tCons l_3 fun v3 l_4 =>
 tCons l_4 fun v4 l_5 =>
 tBool v4 fun v5 =>
 tNil l_5 (
 ifT (!v5) (
 retG (.tuple [.nilfunc, (.bool false)]) h_ Ψ) (
 addOff m 1 fun p =>
 ld1 h_ p fun v6 =>
 lenN v6 fun n2 =>
 s116l2_E (s116l2 Ψ) m n1 v3 v6 n2 0 h_))))

def s116 (Ψ : AVal → Heap → Prop) (m_Up : AVal) (m_Val : AVal) (h : Heap) : Prop :=
 lenN m_Up fun n =>
 ifT (decide (n < 1)) (
 s116c1 Ψ (.lptr [m_Up, m_Val]) n true h) (
 ifT (decide (512 < n)) (
 s116c1 Ψ (.lptr [m_Up, m_Val]) n true h) (
 lenN m_Val fun n12 =>
 s116c1 Ψ (.lptr [m_Up, m_Val]) n (n12 != n) h))

def s116_A (Ψ : AVal → Heap → Prop) : Ann :=
 .seq (.reg [⟨none, [(0, true), (1, false), (2, false)]⟩])
 (.seq (rA 4)
 (.seq (.cut [(1, .any), (4, .int .i64), (25, .bool)] (fun l h => J.cons l fun x0 l => J.ci .i64 l fun x1 l => J.cb l fun x2 l => J.nil l (s116c1 Ψ x0 x1 x2 h)) (.reg [⟨none, [(0, false), (1, false), (2, false)]⟩, ⟨some (15, false), [(3, false), (4, false)]⟩, ⟨none, [(5, false), (6, false)]⟩, ⟨some (19, false), [(7, false), (8, false), (9, false), (10, false), (11, false)]⟩, ⟨none, [(12, false)]⟩])
 (.cond (.seq (rA 2)
 (.leaf))
 (.leaf)))
 (.seq (rA 7)
 (.seq (.seq (rA 2)
 (.cond (.seq (rA 2)
 (.leaf))
 (.leaf)))
 (.seq (.seq (rA 4)
 (.block (.loop [(1, .any), (4, .int .i64), (5, .any), (34, .any), (35, .int .i64), (36, .int .i64)] (fun n l h => s116l2_R (s116l2 Ψ n) l h) (fun L2 =>
 .seq (rA 1)
 (.seq (.cond (.leaf)
 (.leaf))
 (.seq (.block (.seq (rA 5)
 (.seq (.seq (rA 3)
 (.cond (.seq (rA 2)
 (.leaf))
 (.leaf)))
 (.seq (rA 2)
 (.block (.loop [(1, .any), (4, .int .i64), (5, .any), (7, .int .i64), (8, .any), (34, .any), (35, .int .i64), (36, .int .i64), (44, .int .i64), (45, .int .i64)] (fun n l h => s116l3_R (s116l3 Ψ (fun y0 y1 y2 y3 y4 y5 h => L2 [y0, (.int .i64 y1), y2, y3, (.int .i64 y4), (.int .i64 y5)] h) n) l h) (fun L3 =>
 .seq (rA 1)
 (.seq (.cond (.leaf)
 (.leaf))
 (.cut [(1, .any), (4, .int .i64), (5, .any), (7, .int .i64), (8, .any), (34, .any), (35, .int .i64), (36, .int .i64), (44, .int .i64), (45, .int .i64)] (fun l h => J.cons l fun x0 l => J.ci .i64 l fun x1 l => J.cons l fun x2 l => J.ci .i64 l fun x3 l => J.cons l fun x4 l => J.cons l fun x5 l => J.ci .i64 l fun x6 l => J.ci .i64 l fun x7 l => J.ci .i64 l fun x8 l => J.ci .i64 l fun x9 l => J.nil l (s116c4 Ψ (fun y0 y1 y2 y3 y4 y5 h => L2 [y0, (.int .i64 y1), y2, y3, (.int .i64 y4), (.int .i64 y5)] h) (fun y0 y1 y2 y3 y4 y5 y6 y7 y8 y9 h => L3 [y0, (.int .i64 y1), y2, (.int .i64 y3), y4, y5, (.int .i64 y6), (.int .i64 y7), (.int .i64 y8), (.int .i64 y9)] h) x0 x1 x2 x3 x4 x5 x6 x7 x8 x9 h)) (.block (.seq (rA 3)
 (.seq (.cut [(1, .any), (4, .int .i64), (5, .any), (7, .int .i64), (8, .any), (9, .any), (34, .any), (35, .int .i64), (36, .int .i64), (44, .int .i64), (45, .int .i64), (57, .bool)] (fun l h => J.cons l fun x0 l => J.ci .i64 l fun x1 l => J.cons l fun x2 l => J.ci .i64 l fun x3 l => J.cons l fun x4 l => J.cons l fun x5 l => J.cons l fun x6 l => J.ci .i64 l fun x7 l => J.ci .i64 l fun x8 l => J.ci .i64 l fun x9 l => J.ci .i64 l fun x10 l => J.cb l fun x11 l => J.nil l (s116c5 Ψ (fun y0 y1 y2 y3 y4 y5 h => L2 [y0, (.int .i64 y1), y2, y3, (.int .i64 y4), (.int .i64 y5)] h) (fun y0 y1 y2 y3 y4 y5 y6 y7 y8 y9 h => L3 [y0, (.int .i64 y1), y2, (.int .i64 y3), y4, y5, (.int .i64 y6), (.int .i64 y7), (.int .i64 y8), (.int .i64 y9)] h) x0 x1 x2 x3 x4 x5 x6 x7 x8 x9 x10 x11 h)) (.reg [⟨none, [(0, false), (1, false), (2, false), (3, false)]⟩, ⟨some (51, false), [(4, false), (5, false), (6, false), (7, false), (8, false)]⟩, ⟨none, [(9, false)]⟩])
 (.cond (.leaf)
 (.leaf)))
 (.cut [(1, .any), (4, .int .i64), (5, .any), (7, .int .i64), (8, .any), (34, .any), (35, .int .i64), (36, .int .i64), (44, .int .i64), (45, .int .i64), (66, .bool)] (fun l h => J.cons l fun x0 l => J.ci .i64 l fun x1 l => J.cons l fun x2 l => J.ci .i64 l fun x3 l => J.cons l fun x4 l => J.cons l fun x5 l => J.ci .i64 l fun x6 l => J.ci .i64 l fun x7 l => J.ci .i64 l fun x8 l => J.ci .i64 l fun x9 l => J.cb l fun x10 l => J.nil l (s116c6 Ψ (fun y0 y1 y2 y3 y4 y5 h => L2 [y0, (.int .i64 y1), y2, y3, (.int .i64 y4), (.int .i64 y5)] h) (fun y0 y1 y2 y3 y4 y5 y6 y7 y8 y9 h => L3 [y0, (.int .i64 y1), y2, (.int .i64 y3), y4, y5, (.int .i64 y6), (.int .i64 y7), (.int .i64 y8), (.int .i64 y9)] h) x0 x1 x2 x3 x4 x5 x6 x7 x8 x9 x10 h)) (.reg [⟨none, [(0, false), (1, false), (2, false), (3, false), (4, false)]⟩, ⟨some (62, false), [(5, false), (6, false), (7, false)]⟩, ⟨none, [(8, false)]⟩])
 (.cond (.seq (rA 2)
 (.leaf))
 (.leaf))))))
 (rA 2))))))))))
 (rA 2)))))))
 (.seq (rA 3)
 (.leaf)))))))

theorem s116_ok {Ψ : AVal → Heap → Prop} {m_Up : AVal} {m_Val : AVal} {h : Heap} (H : s116 Ψ m_Up m_Val h) : ACalls prog 116 [(.agg [m_Up, m_Val])] h Ψ :=
 calls_of_evF func116 (by kernel_rfl) (by kernel_rfl) (by kernel_rfl)
 (Eq.mpr (by as_aux_lemma => kernel_rfl : oblF prog f116 (s116_A Ψ) Ψ = ((True) ∧ ((True) ∧ (((True) ∧ ((∀ (h : Heap) (x0 : AVal) (x1 : Int) (x2 : Bool), OI (s116c1 Ψ x0 x1 x2 h)) ∧ (otP 3))) ∧ ((True) ∧ ((otP 13) ∧ (((True) ∧ ((∀ (h : Heap) (x0 : AVal) (x1 : Int) (x2 x3 : AVal) (x4 x5 : Int), ON (s116l2 Ψ 0 x0 x1 x2 x3 x4 x5 h)) ∧ (∀ n2 : Nat, (∀ (h : Heap) (x0 : AVal) (x1 : Int) (x2 x3 : AVal) (x4 x5 : Int), OI (s116l2 Ψ (n2 + 1) x0 x1 x2 x3 x4 x5 h)) ∧ ((True) ∧ ((otP 1) ∧ (((True) ∧ ((otP 13) ∧ ((True) ∧ ((∀ (h : Heap) (x0 : AVal) (x1 : Int) (x2 : AVal) (x3 : Int) (x4 x5 : AVal) (x6 x7 x8 x9 : Int), ON (s116l3 Ψ (s116l2_G (s116l2 Ψ n2)) 0 x0 x1 x2 x3 x4 x5 x6 x7 x8 x9 h)) ∧ (∀ n3 : Nat, (∀ (h : Heap) (x0 : AVal) (x1 : Int) (x2 : AVal) (x3 : Int) (x4 x5 : AVal) (x6 x7 x8 x9 : Int), OI (s116l3 Ψ (s116l2_G (s116l2 Ψ n2)) (n3 + 1) x0 x1 x2 x3 x4 x5 x6 x7 x8 x9 h)) ∧ ((True) ∧ ((otP 1) ∧ (((True) ∧ (((True) ∧ ((∀ (h : Heap) (x0 : AVal) (x1 : Int) (x2 : AVal) (x3 : Int) (x4 x5 x6 : AVal) (x7 x8 x9 x10 : Int) (x11 : Bool), OI (s116c5 Ψ (s116l2_G (s116l2 Ψ n2)) (s116l3_G (s116l3 Ψ (s116l2_G (s116l2 Ψ n2)) n3)) x0 x1 x2 x3 x4 x5 x6 x7 x8 x9 x10 x11 h)) ∧ (otP 1))) ∧ ((True) ∧ ((∀ (h : Heap) (x0 : AVal) (x1 : Int) (x2 : AVal) (x3 : Int) (x4 x5 : AVal) (x6 x7 x8 x9 : Int) (x10 : Bool), OI (s116c6 Ψ (s116l2_G (s116l2 Ψ n2)) (s116l3_G (s116l3 Ψ (s116l2_G (s116l2 Ψ n2)) n3)) x0 x1 x2 x3 x4 x5 x6 x7 x8 x9 x10 h)) ∧ (otP 3))))) ∧ ((∀ (h : Heap) (x0 : AVal) (x1 : Int) (x2 : AVal) (x3 : Int) (x4 x5 : AVal) (x6 x7 x8 x9 : Int), OI (s116c4 Ψ (s116l2_G (s116l2 Ψ n2)) (s116l3_G (s116l3 Ψ (s116l2_G (s116l2 Ψ n2)) n3)) x0 x1 x2 x3 x4 x5 x6 x7 x8 x9 h)) ∧ (True)))))))))) ∧ (True))))))) ∧ (otP 1)))))))) (⟨trivial, ⟨trivial, ⟨⟨trivial, ⟨fun _ _ _ _ H => H, otP_ok 3⟩⟩, ⟨trivial, ⟨otP_ok 13, ⟨⟨trivial, ⟨fun _ _ _ _ _ _ _ H => H, fun _ => ⟨fun _ _ _ _ _ _ _ H => H, ⟨trivial, ⟨otP_ok 1, ⟨⟨trivial, ⟨otP_ok 13, ⟨trivial, ⟨fun _ _ _ _ _ _ _ _ _ _ _ H => H, fun _ => ⟨fun _ _ _ _ _ _ _ _ _ _ _ H => H, ⟨trivial, ⟨otP_ok 1, ⟨⟨trivial, ⟨⟨trivial, ⟨fun _ _ _ _ _ _ _ _ _ _ _ _ _ H => H, otP_ok 1⟩⟩, ⟨trivial, ⟨fun _ _ _ _ _ _ _ _ _ _ _ _ H => H, otP_ok 3⟩⟩⟩⟩, ⟨fun _ _ _ _ _ _ _ _ _ _ _ H => H, trivial⟩⟩⟩⟩⟩⟩⟩⟩⟩, trivial⟩⟩⟩⟩⟩⟩, otP_ok 1⟩⟩⟩⟩⟩⟩))
 (Eq.mpr (by as_aux_lemma => kernel_rfl : evF prog f116 (s116_A Ψ) Ψ [(.agg [m_Up, m_Val])] h = s116 Ψ m_Up m_Val h) H)

/- 119 (*dictum/dictumref03.T).Find -/
abbrev s119l1_T := AVal → AVal → Int → Heap → Prop
def s119l1_R (F : s119l1_T) (l : List AVal) (h : Heap) : Prop := J.cons l fun x0 l => J.cons l fun x1 l => J.ci .i64 l fun x2 l => J.nil l (F x0 x1 x2 h)
def s119l1_G (F : s119l1_T) (x0 x1 : AVal) (x2 : Int) (h : Heap) : Prop := gJ [.any, .any, .int .i64] [x0, x1, (.int .i64 x2)] h (s119l1_R F)
def s119l1_E (F : Nat → s119l1_T) (x0 x1 : AVal) (x2 : Int) (h : Heap) : Prop := gJ [.any, .any, .int .i64] [x0, x1, (.int .i64 x2)] h (fun l h => ∃ n, s119l1_R (F n) l h)
theorem s119l1_go {F : s119l1_T} {x0 x1 : AVal} {x2 : Int} {h : Heap} (H : F x0 x1 x2 h) : s119l1_G F x0 x1 x2 h := gJ_plain rfl H
theorem s119l1_in {F : Nat → s119l1_T} {x0 x1 : AVal} {x2 : Int} {h : Heap} (n : Nat) (H : F n x0 x1 x2 h) : s119l1_E F x0 x1 x2 h := gJ_plain rfl ⟨n, H⟩

def s119l1 (Ψ : AVal → Heap → Prop) : Nat → s119l1_T
 | 0, _, _, _, _ => False
 | n1 + 1, t1, n, i, h =>
 nilCheckA t1 fun p =>
 addOff p 0 fun p1 =>
 ld1 h p1 fun v =>
 lenN v fun n2 =>
 ifT (decide (i < n2)) (
 nilCheckA t1 fun p2 =>
 addOff p2 0 fun p3 =>
 ld1 h p3 fun v1 =>
 ixS 4 v1 i fun p4 =>
 ldN 4 h p4 fun l_ =>
 tCons l_ fun v2 l_1 =>
 tInt .i64 v2 fun v3 =>
 tCons l_1 fun v4 l_2 =>
 tStr v4 fun v5 =>
 tCons l_2 fun v6 l_3 =>
 tInt .i64 v6 fun v7 =>
 tCons l_3 fun v8 l_4 =>
 tInt .i64 v8 fun v9 =>
 tNil l_4 (
 ldN 4 h n fun l_5 =>
 tCons l_5 fun v10 l_6 =>
 tInt .i64 v10 fun v11 =>
 tCons l_6 fun v12 l_7 =>
 tStr v12 fun v13 =>
 tCons l_7 fun v14 l_8 =>
 tInt .i64 v14 fun v15 =>
 tCons l_8 fun v16 l_9 =>
 tInt .i64 v16 fun v17 =>
 tNil l_9 (
 eqQ prog 71 (.agg [(.int .i64 v3), (.str v5), (.int .i64 v7), (.int .i64 v9)]) (.agg [(.int .i64 v11), (.str v13), (.int .i64 v15), (.int .i64 v17)]) fun b =>
 ifT b (
 retG (.tuple [(.int .i64 i), (.bool true)]) h Ψ) (
 rg (i + 1) (
 s119l1_G (s119l1 Ψ n1) t1 n (i + 1) h))))) (
 retG (.tuple [(.int .i64 0), (.bool false)]) h Ψ)

def s119 (Ψ : AVal → Heap → Prop) (t : AVal) (n_Kind : Int) (n_Name : ByteArray) (n_L : Int) (n_R : Int) (h : Heap) : Prop :=
 s119l1_E (s119l1 Ψ) t (.lptr [(.int .i64 n_Kind), (.str n_Name), (.int .i64 n_L), (.int .i64 n_R)]) 0 h

def s119_A (Ψ : AVal → Heap → Prop) : Ann :=
 .seq (.reg [⟨none, [(0, true), (1, false), (2, false)]⟩])
 (.seq (.seq (rA 1)
 (.block (.loop [(0, .any), (3, .any), (6, .int .i64)] (fun n l h => s119l1_R (s119l1 Ψ n) l h) (fun L1 =>
 .seq (.seq (rA 7)
 (.cond (.leaf)
 (.leaf)))
 (.seq (.block (.seq (.draw [(0, false), (1, false), (2, false), (3, false), (4, false), (5, false), (6, false), (7, false), (8, false)] [0, 1, 3, 7, 0, 31, 63, 0, 255])
 (.cond (.seq (rA 3)
 (.leaf))
 (.leaf))))
 (rA 3))))))
 (.seq (rA 2)
 (.leaf)))

theorem s119_ok {Ψ : AVal → Heap → Prop} {t : AVal} {n_Kind : Int} {n_Name : ByteArray} {n_L : Int} {n_R : Int} {h : Heap} (H : s119 Ψ t n_Kind n_Name n_L n_R h) : ACalls prog 119 [t, (.agg [(.int .i64 n_Kind), (.str n_Name), (.int .i64 n_L), (.int .i64 n_R)])] h Ψ :=
 calls_of_evF func119 (by kernel_rfl) (by kernel_rfl) (by kernel_rfl)
 (Eq.mpr (by as_aux_lemma => kernel_rfl : oblF prog f119 (s119_A Ψ) Ψ = ((True) ∧ (((True) ∧ ((∀ (h : Heap) (x0 x1 : AVal) (x2 : Int), ON (s119l1 Ψ 0 x0 x1 x2 h)) ∧ (∀ n1 : Nat, (∀ (h : Heap) (x0 x1 : AVal) (x2 : Int), OI (s119l1 Ψ (n1 + 1) x0 x1 x2 h)) ∧ (otP 1739)))) ∧ (otP 1)))) (⟨trivial, ⟨⟨trivial, ⟨fun _ _ _ _ H => H, fun _ => ⟨fun _ _ _ _ H => H, otP_ok 1739⟩⟩⟩, otP_ok 1⟩⟩))
 (Eq.mpr (by as_aux_lemma => kernel_rfl : evF prog f119 (s119_A Ψ) Ψ [t, (.agg [(.int .i64 n_Kind), (.str n_Name), (.int .i64 n_L), (.int .i64 n_R)])] h = s119 Ψ t n_Kind n_Name n_L n_R h) H)

/- 122 slices.Index[[]string,string] -/
abbrev s122l1_T := AVal → ByteArray → Int → Int → Heap → Prop
def s122l1_R (F : s122l1_T) (l : List AVal) (h : Heap) : Prop := J.cons l fun x0 l => J.cs l fun x1 l => J.ci .i64 l fun x2 l => J.ci .i64 l fun x3 l => J.nil l (F x0 x1 x2 x3 h)
def s122l1_G (F : s122l1_T) (x0 : AVal) (x1 : ByteArray) (x2 x3 : Int) (h : Heap) : Prop := gJ [.any, .str, .int .i64, .int .i64] [x0, (.str x1), (.int .i64 x2), (.int .i64 x3)] h (s122l1_R F)
def s122l1_E (F : Nat → s122l1_T) (x0 : AVal) (x1 : ByteArray) (x2 x3 : Int) (h : Heap) : Prop := gJ [.any, .str, .int .i64, .int .i64] [x0, (.str x1), (.int .i64 x2), (.int .i64 x3)] h (fun l h => ∃ n, s122l1_R (F n) l h)
theorem s122l1_go {F : s122l1_T} {x0 : AVal} {x1 : ByteArray} {x2 x3 : Int} {h : Heap} (H : F x0 x1 x2 x3 h) : s122l1_G F x0 x1 x2 x3 h := gJ_plain rfl H
theorem s122l1_in {F : Nat → s122l1_T} {x0 : AVal} {x1 : ByteArray} {x2 x3 : Int} {h : Heap} (n : Nat) (H : F n x0 x1 x2 x3 h) : s122l1_E F x0 x1 x2 x3 h := gJ_plain rfl ⟨n, H⟩

def s122l1 (Ψ : AVal → Heap → Prop) : Nat → s122l1_T
 | 0, _, _, _, _, _ => False
 | n1 + 1, s1, v1, t7, t8, h =>
 ifT (decide (t8 < t7)) (
 ixS 1 s1 t8 fun p =>
 ld1 h p fun v2 =>
 tStr v2 fun v3 =>
 ifT (strEq v1 v3) (
 retG (.int .i64 t8) h Ψ) (
 rg (t8 + 1) (
 s122l1_G (s122l1 Ψ n1) s1 v1 t7 (t8 + 1) h))) (
 retG (.int .i64 (-1)) h Ψ)

def s122 (Ψ : AVal → Heap → Prop) (s : AVal) (v : ByteArray) (h : Heap) : Prop :=
 lenN s fun n =>
 s122l1_E (s122l1 Ψ) s v n 0 h

def s122_A (Ψ : AVal → Heap → Prop) : Ann :=
 .seq (rA 1)
 (.seq (.seq (rA 3)
 (.block (.loop [(0, .any), (1, .str), (7, .int .i64), (8, .int .i64)] (fun n l h => s122l1_R (s122l1 Ψ n) l h) (fun L1 =>
 .seq (rA 1)
 (.seq (.cond (.leaf)
 (.leaf))
 (.seq (.block (.seq (rA 2)
 (.seq (rA 6)
 (.cond (.seq (rA 2)
 (.leaf))
 (.leaf)))))
 (rA 2)))))))
 (.seq (rA 1)
 (.leaf)))

theorem s122_ok {Ψ : AVal → Heap → Prop} {s : AVal} {v : ByteArray} {h : Heap} (H : s122 Ψ s v h) : ACalls prog 122 [s, (.str v)] h Ψ :=
 calls_of_evF func122 (by kernel_rfl) (by kernel_rfl) (by kernel_rfl)
 (Eq.mpr (by as_aux_lemma => kernel_rfl : oblF prog f122 (s122_A Ψ) Ψ = ((True) ∧ (((True) ∧ ((∀ (h : Heap) (x0 : AVal) (x1 : ByteArray) (x2 x3 : Int), ON (s122l1 Ψ 0 x0 x1 x2 x3 h)) ∧ (∀ n1 : Nat, (∀ (h : Heap) (x0 : AVal) (x1 : ByteArray) (x2 x3 : Int), OI (s122l1 Ψ (n1 + 1) x0 x1 x2 x3 h)) ∧ (otP 6861)))) ∧ (otP 1)))) (⟨trivial, ⟨⟨trivial, ⟨fun _ _ _ _ _ H => H, fun _ => ⟨fun _ _ _ _ _ H => H, otP_ok 6861⟩⟩⟩, otP_ok 1⟩⟩))
 (Eq.mpr (by as_aux_lemma => kernel_rfl : evF prog f122 (s122_A Ψ) Ψ [s, (.str v)] h = s122 Ψ s v h) H)

/- 132 dictum/dictumref03.Reserved -/
def s132 (Ψ : AVal → Heap → Prop) (h : Heap) : Prop :=
 retG (.lsl 1 [(.str (ByteArray.mk #[97, 98, 111, 114, 116])), (.str (ByteArray.mk #[99, 97, 115, 101])), (.str (ByteArray.mk #[102, 97, 108, 115, 101])), (.str (ByteArray.mk #[102, 115, 116])), (.str (ByteArray.mk #[102, 117, 110])), (.str (ByteArray.mk #[105, 110])), (.str (ByteArray.mk #[105, 110, 108])), (.str (ByteArray.mk #[105, 110, 114])), (.str (ByteArray.mk #[108, 101, 116])), (.str (ByteArray.mk #[111, 102])), (.str (ByteArray.mk #[115, 110, 100])), (.str (ByteArray.mk #[116, 114, 117, 101]))]) h Ψ

def s132_A (Ψ : AVal → Heap → Prop) : Ann :=
 .seq (rA 1)
 (.seq (.reg [⟨none, [(0, true), (1, false)]⟩])
 (.leaf))

theorem s132_ok {Ψ : AVal → Heap → Prop} {h : Heap} (H : s132 Ψ  h) : ACalls prog 132 [] h Ψ :=
 calls_of_evF func132 (by kernel_rfl) (by kernel_rfl) (by kernel_rfl)
 (Eq.mpr (by as_aux_lemma => kernel_rfl : oblF prog f132 (s132_A Ψ) Ψ = (otP 5)) (otP_ok 5))
 (Eq.mpr (by as_aux_lemma => kernel_rfl : evF prog f132 (s132_A Ψ) Ψ [] h = s132 Ψ  h) H)

/- 140 dictum/worlds.rising -/
abbrev s140l1_T := AVal → AVal → Int → Int → Heap → Prop
def s140l1_R (F : s140l1_T) (l : List AVal) (h : Heap) : Prop := J.cons l fun x0 l => J.cons l fun x1 l => J.ci .i64 l fun x2 l => J.ci .i64 l fun x3 l => J.nil l (F x0 x1 x2 x3 h)
def s140l1_G (F : s140l1_T) (x0 x1 : AVal) (x2 x3 : Int) (h : Heap) : Prop := gJ [.any, .any, .int .i64, .int .i64] [x0, x1, (.int .i64 x2), (.int .i64 x3)] h (s140l1_R F)
def s140l1_E (F : Nat → s140l1_T) (x0 x1 : AVal) (x2 x3 : Int) (h : Heap) : Prop := gJ [.any, .any, .int .i64, .int .i64] [x0, x1, (.int .i64 x2), (.int .i64 x3)] h (fun l h => ∃ n, s140l1_R (F n) l h)
theorem s140l1_go {F : s140l1_T} {x0 x1 : AVal} {x2 x3 : Int} {h : Heap} (H : F x0 x1 x2 x3 h) : s140l1_G F x0 x1 x2 x3 h := gJ_plain rfl H
theorem s140l1_in {F : Nat → s140l1_T} {x0 x1 : AVal} {x2 x3 : Int} {h : Heap} (n : Nat) (H : F n x0 x1 x2 x3 h) : s140l1_E F x0 x1 x2 x3 h := gJ_plain rfl ⟨n, H⟩

def s140c2 (Ψ : AVal → Heap → Prop) (L1 : s140l1_T) (l_2 t5_1 : AVal) (t6_1 t7_1 : Int) (t27 : Bool) (h : Heap) : Prop :=
 ifT t27 (
 retG (.bool false) h Ψ) (
 rg (t7_1 + 1) (
 L1 l_2 t5_1 t6_1 (t7_1 + 1) h))

def s140l1 (Ψ : AVal → Heap → Prop) : Nat → s140l1_T
 | 0, _, _, _, _, _ => False
 | n1 + 1, l_1, t5, t6, t7, h =>
 ifT (decide (t7 < t6)) (
 ixS 1 t5 t7 fun p =>
 ld1 h p fun v =>
 tStr v fun v1 =>
 callG prog 143 [(.str v1)] h fun v2 h_ =>
 tBool v2 fun v3 =>
 ifT (!v3) (
 s140c2 Ψ (s140l1_G (s140l1 Ψ n1)) l_1 t5 t6 t7 true h_) (
 ifT (decide (0 < t7)) (
 rg (t7 - 1) (
 ixS 1 l_1 (t7 - 1) fun p1 =>
 ld1 h_ p1 fun v4 =>
 tStr v4 fun v5 =>
 s140c2 Ψ (s140l1_G (s140l1 Ψ n1)) l_1 t5 t6 t7 (!strLt v5 v1) h_)) (
 s140c2 Ψ (s140l1_G (s140l1 Ψ n1)) l_1 t5 t6 t7 false h_))) (
 retG (.bool true) h Ψ)

def s140 (Ψ : AVal → Heap → Prop) (l_ : AVal) (h : Heap) : Prop :=
 lenN l_ fun n =>
 s140l1_E (s140l1 Ψ) l_ l_ n 0 h

def s140_A (Ψ : AVal → Heap → Prop) : Ann :=
 .seq (rA 1)
 (.seq (.seq (rA 3)
 (.block (.loop [(0, .any), (5, .any), (6, .int .i64), (7, .int .i64)] (fun n l h => s140l1_R (s140l1 Ψ n) l h) (fun L1 =>
 .seq (rA 1)
 (.seq (.cond (.leaf)
 (.leaf))
 (.seq (.block (.seq (rA 5)
 (.cut [(0, .any), (5, .any), (6, .int .i64), (7, .int .i64), (27, .bool)] (fun l h => J.cons l fun x0 l => J.cons l fun x1 l => J.ci .i64 l fun x2 l => J.ci .i64 l fun x3 l => J.cb l fun x4 l => J.nil l (s140c2 Ψ (fun y0 y1 y2 y3 h => L1 [y0, y1, (.int .i64 y2), (.int .i64 y3)] h) x0 x1 x2 x3 x4 h)) (.reg [⟨none, [(0, false), (1, false), (2, false), (3, false)]⟩, ⟨some (15, false), [(4, false), (5, false), (6, false)]⟩, ⟨some (18, true), [(7, false), (8, false), (9, false), (10, false), (11, false), (12, false), (13, false)]⟩, ⟨some (15, false), [(14, false)]⟩, ⟨none, [(15, false)]⟩])
 (.cond (.seq (rA 1)
 (.leaf))
 (.leaf)))))
 (rA 2)))))))
 (.seq (rA 1)
 (.leaf)))

theorem s140_ok {Ψ : AVal → Heap → Prop} {l_ : AVal} {h : Heap} (H : s140 Ψ l_ h) : ACalls prog 140 [l_] h Ψ :=
 calls_of_evF func140 (by kernel_rfl) (by kernel_rfl) (by kernel_rfl)
 (Eq.mpr (by as_aux_lemma => kernel_rfl : oblF prog f140 (s140_A Ψ) Ψ = ((True) ∧ (((True) ∧ ((∀ (h : Heap) (x0 x1 : AVal) (x2 x3 : Int), ON (s140l1 Ψ 0 x0 x1 x2 x3 h)) ∧ (∀ n1 : Nat, (∀ (h : Heap) (x0 x1 : AVal) (x2 x3 : Int), OI (s140l1 Ψ (n1 + 1) x0 x1 x2 x3 h)) ∧ ((True) ∧ ((otP 1) ∧ (((True) ∧ ((True) ∧ ((∀ (h : Heap) (x0 x1 : AVal) (x2 x3 : Int) (x4 : Bool), OI (s140c2 Ψ (s140l1_G (s140l1 Ψ n1)) x0 x1 x2 x3 x4 h)) ∧ (otP 3)))) ∧ (True))))))) ∧ (otP 1)))) (⟨trivial, ⟨⟨trivial, ⟨fun _ _ _ _ _ H => H, fun _ => ⟨fun _ _ _ _ _ H => H, ⟨trivial, ⟨otP_ok 1, ⟨⟨trivial, ⟨trivial, ⟨fun _ _ _ _ _ _ H => H, otP_ok 3⟩⟩⟩, trivial⟩⟩⟩⟩⟩⟩, otP_ok 1⟩⟩))
 (Eq.mpr (by as_aux_lemma => kernel_rfl : evF prog f140 (s140_A Ψ) Ψ [l_] h = s140 Ψ l_ h) H)

/- 142 dictum/worlds.looked$1 -/
def s142 (Ψ : AVal → Heap → Prop) (s : ByteArray) (c0 : AVal) (c1 : AVal) (h : Heap) : Prop :=
 addOff c0 1 fun p =>
 ld1 h p fun v =>
 ld1 h c1 fun v1 =>
 tInt .i64 v1 fun v2 =>
 ixS 1 v v2 fun p1 =>
 ld1 h p1 fun v3 =>
 callG prog 99 [v3, (.str s)] h fun v4 h_ =>
 tBool v4 fun v5 =>
 retG (.bool (!v5)) h_ Ψ

def s142_A (Ψ : AVal → Heap → Prop) : Ann :=
 .seq (rA 1)
 (.seq (rA 9)
 (.leaf))

theorem s142_ok {Ψ : AVal → Heap → Prop} {s : ByteArray} {c0 : AVal} {c1 : AVal} {h : Heap} (H : s142 Ψ s c0 c1 h) : ACalls prog 142 [(.str s), c0, c1] h Ψ :=
 calls_of_evF func142 (by kernel_rfl) (by kernel_rfl) (by kernel_rfl)
 (Eq.mpr (by as_aux_lemma => kernel_rfl : oblF prog f142 (s142_A Ψ) Ψ = (otP 5)) (otP_ok 5))
 (Eq.mpr (by as_aux_lemma => kernel_rfl : evF prog f142 (s142_A Ψ) Ψ [(.str s), c0, c1] h = s142 Ψ s c0 c1 h) H)

/- 157 dictum/worlds.reckon$1 -/
def s157 (Ψ : AVal → Heap → Prop) (a : Int) (b : Int) (c0 : AVal) (h : Heap) : Prop :=
 ld1 h c0 fun v =>
 ixS 1 v a fun p =>
 ld1 h p fun v1 =>
 ixS 1 v1 b fun p1 =>
 ld1 h p1 fun v2 =>
 tBool v2 fun v3 =>
 retG (.bool v3) h Ψ

def s157_A (Ψ : AVal → Heap → Prop) : Ann :=
 .seq (rA 1)
 (.seq (rA 8)
 (.leaf))

theorem s157_ok {Ψ : AVal → Heap → Prop} {a : Int} {b : Int} {c0 : AVal} {h : Heap} (H : s157 Ψ a b c0 h) : ACalls prog 157 [(.int .i64 a), (.int .i64 b), c0] h Ψ :=
 calls_of_evF func157 (by kernel_rfl) (by kernel_rfl) (by kernel_rfl)
 (Eq.mpr (by as_aux_lemma => kernel_rfl : oblF prog f157 (s157_A Ψ) Ψ = (otP 5)) (otP_ok 5))
 (Eq.mpr (by as_aux_lemma => kernel_rfl : evF prog f157 (s157_A Ψ) Ψ [(.int .i64 a), (.int .i64 b), c0] h = s157 Ψ a b c0 h) H)

/- 159 dictum/formula.reserved -/
def s159c1 (Ψ : AVal → Heap → Prop) (t4 : Bool) (h : Heap) : Prop :=
 ifT t4 (
 retG (.bool true) h Ψ) (
 retG (.bool false) h Ψ)

def s159 (Ψ : AVal → Heap → Prop) (s : ByteArray) (h : Heap) : Prop :=
 ifT (strEq s (ByteArray.mk #[97, 98, 111, 114, 116])) (
 s159c1 Ψ (strEq s (ByteArray.mk #[97, 98, 111, 114, 116])) h) (
 ifT (strEq s (ByteArray.mk #[99, 97, 115, 101])) (
 s159c1 Ψ (strEq s (ByteArray.mk #[99, 97, 115, 101])) h) (
 ifT (strEq s (ByteArray.mk #[102, 97, 108, 115, 101])) (
 s159c1 Ψ (strEq s (ByteArray.mk #[102, 97, 108, 115, 101])) h) (
 ifT (strEq s (ByteArray.mk #[102, 115, 116])) (
 s159c1 Ψ (strEq s (ByteArray.mk #[102, 115, 116])) h) (
 ifT (strEq s (ByteArray.mk #[102, 117, 110])) (
 s159c1 Ψ (strEq s (ByteArray.mk #[102, 117, 110])) h) (
 ifT (strEq s (ByteArray.mk #[105, 110])) (
 s159c1 Ψ (strEq s (ByteArray.mk #[105, 110])) h) (
 ifT (strEq s (ByteArray.mk #[105, 110, 108])) (
 s159c1 Ψ (strEq s (ByteArray.mk #[105, 110, 108])) h) (
 ifT (strEq s (ByteArray.mk #[105, 110, 114])) (
 s159c1 Ψ (strEq s (ByteArray.mk #[105, 110, 114])) h) (
 ifT (strEq s (ByteArray.mk #[108, 101, 116])) (
 s159c1 Ψ (strEq s (ByteArray.mk #[108, 101, 116])) h) (
 ifT (strEq s (ByteArray.mk #[111, 102])) (
 s159c1 Ψ (strEq s (ByteArray.mk #[111, 102])) h) (
 ifT (strEq s (ByteArray.mk #[115, 110, 100])) (
 s159c1 Ψ (strEq s (ByteArray.mk #[115, 110, 100])) h) (
 s159c1 Ψ (strEq s (ByteArray.mk #[116, 114, 117, 101])) h)))))))))))

def s159_A (Ψ : AVal → Heap → Prop) : Ann :=
 .seq (rA 1)
 (.seq (.seq (rA 1)
 (.block (.cut [(4, .bool)] (fun l h => J.cb l fun x0 l => J.nil l (s159c1 Ψ x0 h)) (.seq (rA 2)
 (.cond (.leaf)
 (.seq (rA 2)
 (.cond (.leaf)
 (.seq (rA 2)
 (.cond (.leaf)
 (.seq (rA 2)
 (.cond (.leaf)
 (.seq (rA 2)
 (.cond (.leaf)
 (.seq (rA 2)
 (.cond (.leaf)
 (.seq (rA 2)
 (.cond (.leaf)
 (.seq (rA 2)
 (.cond (.leaf)
 (.seq (rA 2)
 (.cond (.leaf)
 (.seq (rA 2)
 (.cond (.leaf)
 (.seq (rA 2)
 (.cond (.leaf)
 (rA 2)))))))))))))))))))))))
 (.cond (.seq (rA 1)
 (.leaf))
 (.leaf)))))
 (.seq (rA 1)
 (.leaf)))

theorem s159_ok {Ψ : AVal → Heap → Prop} {s : ByteArray} {h : Heap} (H : s159 Ψ s h) : ACalls prog 159 [(.str s)] h Ψ :=
 calls_of_evF func159 (by kernel_rfl) (by kernel_rfl) (by kernel_rfl)
 (Eq.mpr (by as_aux_lemma => kernel_rfl : oblF prog f159 (s159_A Ψ) Ψ = ((True) ∧ (((True) ∧ ((otP 5864062014805) ∧ ((∀ (h : Heap) (x0 : Bool), OI (s159c1 Ψ x0 h)) ∧ (otP 3)))) ∧ (otP 1)))) (⟨trivial, ⟨⟨trivial, ⟨otP_ok 5864062014805, ⟨fun _ _ H => H, otP_ok 3⟩⟩⟩, otP_ok 1⟩⟩))
 (Eq.mpr (by as_aux_lemma => kernel_rfl : evF prog f159 (s159_A Ψ) Ψ [(.str s)] h = s159 Ψ s h) H)

end Go.Proofs.YtljglglbfcgjpaaGreat

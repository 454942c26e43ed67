/- The functions that the proof meets, each as a text that Lean has checked against the program. No condition. -/
import Derived.Test.YtljglglbfcgjpaaM3
import Derived.Test.YtljglglbfcgjpaaChecked
namespace Go.Proofs.Ytljglglbfcgjpaa
open Go Go.Sym Go.Proofs.Try
set_option maxRecDepth 100000
set_option linter.unusedVariables false

/- 3 dictum/dictumlaw23.HeytingDual -/
abbrev s3l2_T := AVal → AVal → AVal → AVal → AVal → Int → Heap → Prop
def s3l2_R (F : s3l2_T) (l : List AVal) (h : Heap) : Prop := J.cons l fun x0 l => J.cons l fun x1 l => J.cons l fun x2 l => J.cons l fun x3 l => J.cons l fun x4 l => J.cons l fun v l => J.int .i64 v fun x5 => J.nil l (F x0 x1 x2 x3 x4 x5 h)
def s3l2_G (F : s3l2_T) (x0 x1 x2 x3 x4 : AVal) (x5 : Int) (h : Heap) : Prop := gJ [.any, .any, .any, .any, .any, .int .i64] [x0, x1, x2, x3, x4, (.int .i64 x5)] h (s3l2_R F)
def s3l2_E (F : Nat → s3l2_T) (x0 x1 x2 x3 x4 : AVal) (x5 : Int) (h : Heap) : Prop := gJ [.any, .any, .any, .any, .any, .int .i64] [x0, x1, x2, x3, x4, (.int .i64 x5)] h (fun l h => ∃ n, s3l2_R (F n) l h)
theorem s3l2_go {F : s3l2_T} {x0 x1 x2 x3 x4 : AVal} {x5 : Int} {h : Heap} (H : F x0 x1 x2 x3 x4 x5 h) : s3l2_G F x0 x1 x2 x3 x4 x5 h := gJ_plain rfl H
theorem s3l2_in {F : Nat → s3l2_T} {x0 x1 x2 x3 x4 : AVal} {x5 : Int} {h : Heap} (n : Nat) (H : F n x0 x1 x2 x3 x4 x5 h) : s3l2_E F x0 x1 x2 x3 x4 x5 h := gJ_plain rfl ⟨n, H⟩

abbrev s3l3_T := AVal → AVal → AVal → AVal → AVal → Int → AVal → Int → Heap → Prop
def s3l3_R (F : s3l3_T) (l : List AVal) (h : Heap) : Prop := J.cons l fun x0 l => J.cons l fun x1 l => J.cons l fun x2 l => J.cons l fun x3 l => J.cons l fun x4 l => J.cons l fun v l => J.int .i64 v fun x5 => J.cons l fun x6 l => J.cons l fun v l => J.int .i64 v fun x7 => J.nil l (F x0 x1 x2 x3 x4 x5 x6 x7 h)
def s3l3_G (F : s3l3_T) (x0 x1 x2 x3 x4 : AVal) (x5 : Int) (x6 : AVal) (x7 : Int) (h : Heap) : Prop := gJ [.any, .any, .any, .any, .any, .int .i64, .any, .int .i64] [x0, x1, x2, x3, x4, (.int .i64 x5), x6, (.int .i64 x7)] h (s3l3_R F)
def s3l3_E (F : Nat → s3l3_T) (x0 x1 x2 x3 x4 : AVal) (x5 : Int) (x6 : AVal) (x7 : Int) (h : Heap) : Prop := gJ [.any, .any, .any, .any, .any, .int .i64, .any, .int .i64] [x0, x1, x2, x3, x4, (.int .i64 x5), x6, (.int .i64 x7)] h (fun l h => ∃ n, s3l3_R (F n) l h)
theorem s3l3_go {F : s3l3_T} {x0 x1 x2 x3 x4 : AVal} {x5 : Int} {x6 : AVal} {x7 : Int} {h : Heap} (H : F x0 x1 x2 x3 x4 x5 x6 x7 h) : s3l3_G F x0 x1 x2 x3 x4 x5 x6 x7 h := gJ_plain rfl H
theorem s3l3_in {F : Nat → s3l3_T} {x0 x1 x2 x3 x4 : AVal} {x5 : Int} {x6 : AVal} {x7 : Int} {h : Heap} (n : Nat) (H : F n x0 x1 x2 x3 x4 x5 x6 x7 h) : s3l3_E F x0 x1 x2 x3 x4 x5 x6 x7 h := gJ_plain rfl ⟨n, H⟩

def s3c4 (Ψ : AVal → Heap → Prop) (L2 : s3l2_T) (L3 : s3l3_T) (a3 p4 b3 l_19 image2 : AVal) (x2 : Int) (ws1 : AVal) (w1 : Int) (h : Heap) : Prop :=
  rg (w1 + 1) (
    L3 a3 p4 b3 l_19 image2 x2 ws1 (w1 + 1) h)

def s3c5 (Ψ : AVal → Heap → Prop) (L2 : s3l2_T) (L3 : s3l3_T) (a4 p5 b4 l_20 image3 : AVal) (x3 : Int) (ws2 : AVal) (w2 : Int) (t77 : Bool) (h : Heap) : Prop :=
  ifT t77 (
    retG (.bool false) h Ψ) (
    addOff a4 0 fun p6 =>
    ld1 h p6 fun v18 =>
    ixS 1 p5 w2 fun p7 =>
    ld1 h p7 fun v19 =>
    tInt .i64 v19 fun v20 =>
    ixS 1 v18 v20 fun p8 =>
    ld1 h p8 fun v21 =>
    ixS 1 v21 x3 fun p9 =>
    ld1 h p9 fun v22 =>
    tBool v22 fun v23 =>
    ifT v23 (
      appC 1 8 h ws2 (.lsl 1 [(.int .i64 w2)]) fun v24 h_7 =>
      s3c4 Ψ L2 L3 a4 p5 b4 l_20 image3 x3 v24 w2 h_7) (
      s3c4 Ψ L2 L3 a4 p5 b4 l_20 image3 x3 ws2 w2 h))

abbrev s3l6_T := AVal → AVal → AVal → AVal → AVal → Int → AVal → Int → Int → Heap → Prop
def s3l6_R (F : s3l6_T) (l : List AVal) (h : Heap) : Prop := J.cons l fun x0 l => J.cons l fun x1 l => J.cons l fun x2 l => J.cons l fun x3 l => J.cons l fun x4 l => J.cons l fun v l => J.int .i64 v fun x5 => J.cons l fun x6 l => J.cons l fun v l => J.int .i64 v fun x7 => J.cons l fun v l => J.int .i64 v fun x8 => J.nil l (F x0 x1 x2 x3 x4 x5 x6 x7 x8 h)
def s3l6_G (F : s3l6_T) (x0 x1 x2 x3 x4 : AVal) (x5 : Int) (x6 : AVal) (x7 x8 : Int) (h : Heap) : Prop := gJ [.any, .any, .any, .any, .any, .int .i64, .any, .int .i64, .int .i64] [x0, x1, x2, x3, x4, (.int .i64 x5), x6, (.int .i64 x7), (.int .i64 x8)] h (s3l6_R F)
def s3l6_E (F : Nat → s3l6_T) (x0 x1 x2 x3 x4 : AVal) (x5 : Int) (x6 : AVal) (x7 x8 : Int) (h : Heap) : Prop := gJ [.any, .any, .any, .any, .any, .int .i64, .any, .int .i64, .int .i64] [x0, x1, x2, x3, x4, (.int .i64 x5), x6, (.int .i64 x7), (.int .i64 x8)] h (fun l h => ∃ n, s3l6_R (F n) l h)
theorem s3l6_go {F : s3l6_T} {x0 x1 x2 x3 x4 : AVal} {x5 : Int} {x6 : AVal} {x7 x8 : Int} {h : Heap} (H : F x0 x1 x2 x3 x4 x5 x6 x7 x8 h) : s3l6_G F x0 x1 x2 x3 x4 x5 x6 x7 x8 h := gJ_plain rfl H
theorem s3l6_in {F : Nat → s3l6_T} {x0 x1 x2 x3 x4 : AVal} {x5 : Int} {x6 : AVal} {x7 x8 : Int} {h : Heap} (n : Nat) (H : F n x0 x1 x2 x3 x4 x5 x6 x7 x8 h) : s3l6_E F x0 x1 x2 x3 x4 x5 x6 x7 x8 h := gJ_plain rfl ⟨n, H⟩

def s3c7 (Ψ : AVal → Heap → Prop) (L2 : s3l2_T) (L6 : s3l6_T) (a6 p14 b6 l_22 image5 : AVal) (x5 : Int) (ws4 : AVal) (at_1 k1 : Int) (h : Heap) : Prop :=
  rg (k1 + 1) (
    L6 a6 p14 b6 l_22 image5 x5 ws4 at_1 (k1 + 1) h)

def s3l6 (Ψ : AVal → Heap → Prop) (L2 : s3l2_T) : Nat → s3l6_T
  | 0, _, _, _, _, _, _, _, _, _, _ => False
  | n5 + 1, a5, p13, b5, l_21, image4, x4, ws3, at_, k, h =>
    lenN l_21 fun n6 =>
    ifT (decide (k < n6)) (
      ixS 1 l_21 k fun p15 =>
      ld1 h p15 fun v30 =>
      callG prog 9 [v30, ws3] h fun v31 h_8 =>
      tBool v31 fun v32 =>
      ifT v32 (
        s3c7 Ψ L2 (s3l6_G (s3l6 Ψ L2 n5)) a5 p13 b5 l_21 image4 x4 ws3 k k h_8) (
        s3c7 Ψ L2 (s3l6_G (s3l6 Ψ L2 n5)) a5 p13 b5 l_21 image4 x4 ws3 at_ k h_8)) (
      ifT (decide (at_ < 0)) (
        retG (.bool false) h Ψ) (
        appC 1 8 h image4 (.lsl 1 [(.int .i64 at_)]) fun v33 h_9 =>
        rg (x4 + 1) (
          L2 a5 p13 b5 l_21 v33 (x4 + 1) h_9)))

def s3l3 (Ψ : AVal → Heap → Prop) (L2 : s3l2_T) : Nat → s3l3_T
  | 0, _, _, _, _, _, _, _, _, _ => False
  | n2 + 1, a2, p3, b2, l_18, image1, x1, ws, w, h =>
    lenN p3 fun n3 =>
    ifT (decide (w < n3)) (
      ixS 1 p3 w fun p10 =>
      ld1 h p10 fun v25 =>
      tInt .i64 v25 fun v26 =>
      ifT (decide (v26 < 0)) (
        s3c5 Ψ L2 (s3l3_G (s3l3 Ψ L2 n2)) a2 p3 b2 l_18 image1 x1 ws w true h) (
        ixS 1 p3 w fun p11 =>
        ld1 h p11 fun v27 =>
        tInt .i64 v27 fun v28 =>
        addOff a2 0 fun p12 =>
        ld1 h p12 fun v29 =>
        lenN v29 fun n4 =>
        s3c5 Ψ L2 (s3l3_G (s3l3 Ψ L2 n2)) a2 p3 b2 l_18 image1 x1 ws w (decide (n4 ≤ v28)) h)) (
      s3l6_E (s3l6 Ψ L2) a2 p3 b2 l_18 image1 x1 ws (-1) 0 h)

abbrev s3l8_T := AVal → AVal → AVal → Int → Heap → Prop
def s3l8_R (F : s3l8_T) (l : List AVal) (h : Heap) : Prop := J.cons l fun x0 l => J.cons l fun x1 l => J.cons l fun x2 l => J.cons l fun v l => J.int .i64 v fun x3 => J.nil l (F x0 x1 x2 x3 h)
def s3l8_G (F : s3l8_T) (x0 x1 x2 : AVal) (x3 : Int) (h : Heap) : Prop := gJ [.any, .any, .any, .int .i64] [x0, x1, x2, (.int .i64 x3)] h (s3l8_R F)
def s3l8_E (F : Nat → s3l8_T) (x0 x1 x2 : AVal) (x3 : Int) (h : Heap) : Prop := gJ [.any, .any, .any, .int .i64] [x0, x1, x2, (.int .i64 x3)] h (fun l h => ∃ n, s3l8_R (F n) l h)
theorem s3l8_go {F : s3l8_T} {x0 x1 x2 : AVal} {x3 : Int} {h : Heap} (H : F x0 x1 x2 x3 h) : s3l8_G F x0 x1 x2 x3 h := gJ_plain rfl H
theorem s3l8_in {F : Nat → s3l8_T} {x0 x1 x2 : AVal} {x3 : Int} {h : Heap} (n : Nat) (H : F n x0 x1 x2 x3 h) : s3l8_E F x0 x1 x2 x3 h := gJ_plain rfl ⟨n, H⟩

abbrev s3l9_T := AVal → AVal → AVal → Int → Int → Heap → Prop
def s3l9_R (F : s3l9_T) (l : List AVal) (h : Heap) : Prop := J.cons l fun x0 l => J.cons l fun x1 l => J.cons l fun x2 l => J.cons l fun v l => J.int .i64 v fun x3 => J.cons l fun v l => J.int .i64 v fun x4 => J.nil l (F x0 x1 x2 x3 x4 h)
def s3l9_G (F : s3l9_T) (x0 x1 x2 : AVal) (x3 x4 : Int) (h : Heap) : Prop := gJ [.any, .any, .any, .int .i64, .int .i64] [x0, x1, x2, (.int .i64 x3), (.int .i64 x4)] h (s3l9_R F)
def s3l9_E (F : Nat → s3l9_T) (x0 x1 x2 : AVal) (x3 x4 : Int) (h : Heap) : Prop := gJ [.any, .any, .any, .int .i64, .int .i64] [x0, x1, x2, (.int .i64 x3), (.int .i64 x4)] h (fun l h => ∃ n, s3l9_R (F n) l h)
theorem s3l9_go {F : s3l9_T} {x0 x1 x2 : AVal} {x3 x4 : Int} {h : Heap} (H : F x0 x1 x2 x3 x4 h) : s3l9_G F x0 x1 x2 x3 x4 h := gJ_plain rfl H
theorem s3l9_in {F : Nat → s3l9_T} {x0 x1 x2 : AVal} {x3 x4 : Int} {h : Heap} (n : Nat) (H : F n x0 x1 x2 x3 x4 h) : s3l9_E F x0 x1 x2 x3 x4 h := gJ_plain rfl ⟨n, H⟩

def s3c10 (Ψ : AVal → Heap → Prop) (L8 : s3l8_T) (L9 : s3l9_T) (a9 b9 image8 : AVal) (x8 y1 : Int) (t162 : Bool) (h : Heap) : Prop :=
  ifT t162 (
    retG (.bool false) h Ψ) (
    rg (y1 + 1) (
      L9 a9 b9 image8 x8 (y1 + 1) h))

def s3l9 (Ψ : AVal → Heap → Prop) (L8 : s3l8_T) : Nat → s3l9_T
  | 0, _, _, _, _, _, _ => False
  | n11 + 1, a8, b8, image7, x7, y, h =>
    lenN image7 fun n12 =>
    ifT (decide (y < n12)) (
      addOff b8 0 fun p16 =>
      ld1 h p16 fun v34 =>
      ixS 1 image7 x7 fun p17 =>
      ld1 h p17 fun v35 =>
      tInt .i64 v35 fun v36 =>
      ixS 1 v34 v36 fun p18 =>
      ld1 h p18 fun v37 =>
      ixS 1 image7 y fun p19 =>
      ld1 h p19 fun v38 =>
      tInt .i64 v38 fun v39 =>
      ixS 1 v37 v39 fun p20 =>
      ld1 h p20 fun v40 =>
      tBool v40 fun v41 =>
      addOff a8 0 fun p21 =>
      ld1 h p21 fun v42 =>
      ixS 1 v42 x7 fun p22 =>
      ld1 h p22 fun v43 =>
      ixS 1 v43 y fun p23 =>
      ld1 h p23 fun v44 =>
      tBool v44 fun v45 =>
      eqQ prog 4 (.bool v41) (.bool v45) fun b10 =>
      ifT (!b10) (
        s3c10 Ψ L8 (s3l9_G (s3l9 Ψ L8 n11)) a8 b8 image7 x7 y true h) (
        ifT (x7 != y) (
          ixS 1 image7 x7 fun p24 =>
          ld1 h p24 fun v46 =>
          tInt .i64 v46 fun v47 =>
          ixS 1 image7 y fun p25 =>
          ld1 h p25 fun v48 =>
          tInt .i64 v48 fun v49 =>
          s3c10 Ψ L8 (s3l9_G (s3l9 Ψ L8 n11)) a8 b8 image7 x7 y (v47 == v49) h) (
          s3c10 Ψ L8 (s3l9_G (s3l9 Ψ L8 n11)) a8 b8 image7 x7 y false h))) (
      rg (x7 + 1) (
        L8 a8 b8 image7 (x7 + 1) h))

def s3l8 (Ψ : AVal → Heap → Prop) : Nat → s3l8_T
  | 0, _, _, _, _, _ => False
  | n9 + 1, a7, b7, image6, x6, h =>
    lenN image6 fun n10 =>
    ifT (decide (x6 < n10)) (
      s3l9_E (s3l9 Ψ (s3l8_G (s3l8 Ψ n9))) a7 b7 image6 x6 0 h) (
      callG prog 7 [] h fun v50 h_10 =>
      tBool v50 fun v51 =>
      retG (.bool v51) h_10 Ψ)

def s3l2 (Ψ : AVal → Heap → Prop) : Nat → s3l2_T
  | 0, _, _, _, _, _, _, _ => False
  | n + 1, a1, p1, b1, l_17, image, x, h =>
    addOff a1 0 fun p2 =>
    ld1 h p2 fun v17 =>
    lenN v17 fun n1 =>
    ifT (decide (x < n1)) (
      s3l3_E (s3l3 Ψ (s3l2_G (s3l2 Ψ n))) a1 p1 b1 l_17 image x .nilsl 0 h) (
      s3l8_E (s3l8 Ψ) a1 b1 image 0 h)

def s3c1 (Ψ : AVal → Heap → Prop) (a p b l_16 : AVal) (t49 : Bool) (h : Heap) : Prop :=
  ifT t49 (
    retG (.bool false) h Ψ) (
    s3l2_E (s3l2 Ψ) a p b l_16 .nilsl 0 h)

def s3 (Ψ : AVal → Heap → Prop) (a_Leq : AVal) (h : Heap) : Prop :=
  callG prog 6 [(.agg [a_Leq])] h fun v h_ =>
  tTup v fun l_ =>
  tCons l_ fun v1 l_1 =>
  tCons l_1 fun v2 l_2 =>
  tCons l_2 fun v3 l_3 =>
  tInt .i64 v3 fun v4 =>
  tNil l_3 (
    tAgg v1 fun l_4 =>
    tCons l_4 fun v5 l_5 =>
    tCons l_5 fun v6 l_6 =>
    tNil l_6 (
      Sym.newRow 2 [(.agg [.nilsl, .nilsl])] h_ fun r h_1 =>
      st false h_1 (.ptr r 0 0) [v5, v6] fun h_2 =>
      ifT (v4 != 0) (
        callG prog 7 [] h_2 fun v7 h_3 =>
        tBool v7 fun v8 =>
        retG (.bool v8) h_3 Ψ) (
        ldN 2 h_2 (.ptr r 0 0) fun l_7 =>
        tCons l_7 fun v9 l_8 =>
        tCons l_8 fun v10 l_9 =>
        tNil l_9 (
          callG prog 8 [(.agg [v9, v10])] h_2 fun v11 h_4 =>
          tTup v11 fun l_10 =>
          tCons l_10 fun v12 l_11 =>
          tCons l_11 fun v13 l_12 =>
          tCons l_12 fun v14 l_13 =>
          tInt .i64 v14 fun v15 =>
          tNil l_13 (
            tAgg v12 fun l_14 =>
            tCons l_14 fun v16 l_15 =>
            tNil l_15 (
              Sym.newRow 1 [(.agg [.nilsl])] h_4 fun r1 h_5 =>
              st false h_5 (.ptr r1 0 0) [v16] fun h_6 =>
              ifT (v15 != 0) (
                s3c1 Ψ (.lptr [a_Leq]) v2 (.ptr r1 0 0) v13 true h_6) (
                lenN v13 fun n16 =>
                lenN a_Leq fun n17 =>
                ifT (n16 != n17) (
                  s3c1 Ψ (.lptr [a_Leq]) v2 (.ptr r1 0 0) v13 true h_6) (
                  ld1 h_6 (.ptr r1 0 0) fun v52 =>
                  lenN v52 fun n18 =>
                  lenN v13 fun n19 =>
                  s3c1 Ψ (.lptr [a_Leq]) v2 (.ptr r1 0 0) v13 (n18 != n19) h_6))))))))

def s3_A (Ψ : AVal → Heap → Prop) : Ann :=
  .seq (.reg [⟨none, [(0, true), (1, false)]⟩])
  (.seq (rA 10)
  (.seq (.seq (rA 2)
  (.cond (.seq (rA 2)
  (.leaf))
  (.leaf)))
  (.seq (rA 10)
  (.seq (.cut [(1, .any), (4, .any), (6, .any), (7, .any), (49, .bool)] (fun l h => J.cons l fun x0 l => J.cons l fun x1 l => J.cons l fun x2 l => J.cons l fun x3 l => J.cons l fun v l => J.bool v fun x4 => J.nil l (s3c1 Ψ x0 x1 x2 x3 x4 h)) (.reg [⟨none, [(0, false), (1, false), (2, false)]⟩, ⟨some (34, false), [(3, false), (4, false), (5, false), (6, false), (7, false), (8, false)]⟩, ⟨none, [(9, false), (10, false)]⟩, ⟨some (42, false), [(11, false), (12, false), (13, false), (14, false), (15, false), (16, false)]⟩, ⟨none, [(17, false)]⟩])
  (.cond (.seq (rA 1)
  (.leaf))
  (.leaf)))
  (.seq (rA 1)
  (.seq (.seq (rA 1)
  (.block (.loop [(1, .any), (4, .any), (6, .any), (7, .any), (9, .any), (10, .int .i64)] (fun n l h => s3l2_R (s3l2 Ψ n) l h) (fun L2 =>
  .seq (.seq (rA 5)
  (.cond (.leaf)
  (.leaf)))
  (.seq (.block (.seq (rA 1)
  (.seq (.seq (rA 1)
  (.block (.loop [(1, .any), (4, .any), (6, .any), (7, .any), (9, .any), (10, .int .i64), (11, .any), (12, .int .i64)] (fun n l h => s3l3_R (s3l3 Ψ (fun y0 y1 y2 y3 y4 y5 h => L2 [y0, y1, y2, y3, y4, (.int .i64 y5)] h) n) l h) (fun L3 =>
  .seq (.seq (rA 4)
  (.cond (.leaf)
  (.leaf)))
  (.cut [(1, .any), (4, .any), (6, .any), (7, .any), (9, .any), (10, .int .i64), (11, .any), (12, .int .i64)] (fun l h => J.cons l fun x0 l => J.cons l fun x1 l => J.cons l fun x2 l => J.cons l fun x3 l => J.cons l fun x4 l => J.cons l fun v l => J.int .i64 v fun x5 => J.cons l fun x6 l => J.cons l fun v l => J.int .i64 v fun x7 => J.nil l (s3c4 Ψ (fun y0 y1 y2 y3 y4 y5 h => L2 [y0, y1, y2, y3, y4, (.int .i64 y5)] h) (fun y0 y1 y2 y3 y4 y5 y6 y7 h => L3 [y0, y1, y2, y3, y4, (.int .i64 y5), y6, (.int .i64 y7)] h) x0 x1 x2 x3 x4 x5 x6 x7 h)) (.block (.seq (.cut [(1, .any), (4, .any), (6, .any), (7, .any), (9, .any), (10, .int .i64), (11, .any), (12, .int .i64), (77, .bool)] (fun l h => J.cons l fun x0 l => J.cons l fun x1 l => J.cons l fun x2 l => J.cons l fun x3 l => J.cons l fun x4 l => J.cons l fun v l => J.int .i64 v fun x5 => J.cons l fun x6 l => J.cons l fun v l => J.int .i64 v fun x7 => J.cons l fun v l => J.bool v fun x8 => J.nil l (s3c5 Ψ (fun y0 y1 y2 y3 y4 y5 h => L2 [y0, y1, y2, y3, y4, (.int .i64 y5)] h) (fun y0 y1 y2 y3 y4 y5 y6 y7 h => L3 [y0, y1, y2, y3, y4, (.int .i64 y5), y6, (.int .i64 y7)] h) x0 x1 x2 x3 x4 x5 x6 x7 x8 h)) (.draw [(0, false), (1, false), (2, false), (3, false), (4, false), (5, false), (6, false), (7, false), (8, false), (9, false), (10, false), (11, false), (12, false), (13, false), (14, false)] [0, 0, 3, 7, 15, 31, 63, 63, 255, 511, 63, 1087, 3135, 8191, 16383])
  (.cond (.seq (rA 1)
  (.leaf))
  (.leaf)))
  (.seq (.draw [(0, false), (1, false), (2, false), (3, false), (4, false), (5, false), (6, false), (7, false), (8, false), (9, false), (10, false)] [0, 1, 0, 0, 12, 28, 63, 127, 0, 511, 1023])
  (.cond (.reg [⟨none, [(0, false), (1, false), (2, true), (3, false), (4, false)]⟩])
  (.leaf)))))
  (rA 3))))))
  (.seq (rA 1)
  (.seq (.seq (rA 1)
  (.block (.loop [(1, .any), (4, .any), (6, .any), (7, .any), (9, .any), (10, .int .i64), (11, .any), (13, .int .i64), (14, .int .i64)] (fun n l h => s3l6_R (s3l6 Ψ (fun y0 y1 y2 y3 y4 y5 h => L2 [y0, y1, y2, y3, y4, (.int .i64 y5)] h) n) l h) (fun L6 =>
  .seq (.seq (rA 4)
  (.cond (.leaf)
  (.leaf)))
  (.cut [(1, .any), (4, .any), (6, .any), (7, .any), (9, .any), (10, .int .i64), (11, .any), (13, .int .i64), (14, .int .i64)] (fun l h => J.cons l fun x0 l => J.cons l fun x1 l => J.cons l fun x2 l => J.cons l fun x3 l => J.cons l fun x4 l => J.cons l fun v l => J.int .i64 v fun x5 => J.cons l fun x6 l => J.cons l fun v l => J.int .i64 v fun x7 => J.cons l fun v l => J.int .i64 v fun x8 => J.nil l (s3c7 Ψ (fun y0 y1 y2 y3 y4 y5 h => L2 [y0, y1, y2, y3, y4, (.int .i64 y5)] h) (fun y0 y1 y2 y3 y4 y5 y6 y7 y8 h => L6 [y0, y1, y2, y3, y4, (.int .i64 y5), y6, (.int .i64 y7), (.int .i64 y8)] h) x0 x1 x2 x3 x4 x5 x6 x7 x8 h)) (.block (.seq (rA 6)
  (.cond (rA 2)
  (.leaf))))
  (rA 3))))))
  (.seq (.seq (rA 2)
  (.cond (.seq (rA 1)
  (.leaf))
  (.leaf)))
  (.reg [⟨none, [(0, false), (1, false), (2, true), (3, false), (4, false)]⟩])))))))
  (rA 3))))))
  (.seq (.seq (rA 1)
  (.block (.loop [(1, .any), (6, .any), (9, .any), (15, .int .i64)] (fun n l h => s3l8_R (s3l8 Ψ n) l h) (fun L8 =>
  .seq (.seq (rA 4)
  (.cond (.leaf)
  (.leaf)))
  (.seq (.block (.seq (rA 1)
  (.block (.loop [(1, .any), (6, .any), (9, .any), (15, .int .i64), (16, .int .i64)] (fun n l h => s3l9_R (s3l9 Ψ (fun y0 y1 y2 y3 h => L8 [y0, y1, y2, (.int .i64 y3)] h) n) l h) (fun L9 =>
  .seq (.seq (rA 4)
  (.cond (.leaf)
  (.leaf)))
  (.seq (.block (.cut [(1, .any), (6, .any), (9, .any), (15, .int .i64), (16, .int .i64), (162, .bool)] (fun l h => J.cons l fun x0 l => J.cons l fun x1 l => J.cons l fun x2 l => J.cons l fun v l => J.int .i64 v fun x3 => J.cons l fun v l => J.int .i64 v fun x4 => J.cons l fun v l => J.bool v fun x5 => J.nil l (s3c10 Ψ (fun y0 y1 y2 y3 h => L8 [y0, y1, y2, (.int .i64 y3)] h) (fun y0 y1 y2 y3 y4 h => L9 [y0, y1, y2, (.int .i64 y3), (.int .i64 y4)] h) x0 x1 x2 x3 x4 x5 h)) (.draw [(0, false), (1, false), (2, false), (3, false), (4, false), (5, false), (6, false), (7, false), (8, false), (9, false), (10, false), (11, false), (12, false), (13, false), (14, false), (15, false), (16, false), (17, false), (18, false), (19, false), (20, false), (21, false), (22, false), (23, false), (24, false), (25, false), (26, false), (27, false), (28, false), (29, false), (30, false), (31, false), (32, false), (33, false), (34, false), (35, false), (36, false), (37, false), (38, false)] [0, 1, 0, 0, 12, 28, 63, 127, 0, 0, 768, 1792, 4095, 8191, 0, 16384, 0, 114688, 245760, 0, 1032192, 2080768, 4194303, 8388607, 16777215, 16777215, 67108863, 134217727, 268435455, 268435455, 1073741823, 2147483647, 268435455, 268435455, 13153337343, 30333206527, 68719476735, 137438953471, 274877906943])
  (.cond (.seq (rA 1)
  (.leaf))
  (.leaf))))
  (rA 3)))))))
  (rA 3))))))
  (.seq (rA 2)
  (.leaf)))))))))

theorem s3_ok {Ψ : AVal → Heap → Prop} {a_Leq : AVal} {h : Heap} (H : s3 Ψ a_Leq h) : ACalls prog 3 [(.agg [a_Leq])] h Ψ :=
  calls_of_evF func3 (by kernel_rfl) (by kernel_rfl) (by kernel_rfl)
    (Eq.mpr (by as_aux_lemma => kernel_rfl : oblF prog f3 (s3_A Ψ) Ψ = (True ∧ True ∧ (True ∧ (True ∧ True) ∧ True) ∧ True ∧ ((True) ∧ (∀ (h : Heap) (x0 x1 x2 x3 : AVal) (x4 : Bool), OI (s3c1 Ψ x0 x1 x2 x3 x4 h)) ∧ ((True ∧ True) ∧ True)) ∧ True ∧ (True ∧ (∀ (h : Heap) (x0 x1 x2 x3 x4 : AVal) (x5 : Int), ON (s3l2 Ψ 0 x0 x1 x2 x3 x4 x5 h)) ∧ ∀ n2 : Nat, (∀ (h : Heap) (x0 x1 x2 x3 x4 : AVal) (x5 : Int), OI (s3l2 Ψ (n2 + 1) x0 x1 x2 x3 x4 x5 h)) ∧ ((True ∧ True ∧ True) ∧ (True ∧ (True ∧ (∀ (h : Heap) (x0 x1 x2 x3 x4 : AVal) (x5 : Int) (x6 : AVal) (x7 : Int), ON (s3l3 Ψ (s3l2_G (s3l2 Ψ n2)) 0 x0 x1 x2 x3 x4 x5 x6 x7 h)) ∧ ∀ n3 : Nat, (∀ (h : Heap) (x0 x1 x2 x3 x4 : AVal) (x5 : Int) (x6 : AVal) (x7 : Int), OI (s3l3 Ψ (s3l2_G (s3l2 Ψ n2)) (n3 + 1) x0 x1 x2 x3 x4 x5 x6 x7 h)) ∧ ((True ∧ True ∧ True) ∧ (((True) ∧ (∀ (h : Heap) (x0 x1 x2 x3 x4 : AVal) (x5 : Int) (x6 : AVal) (x7 : Int) (x8 : Bool), OI (s3c5 Ψ (s3l2_G (s3l2 Ψ n2)) (s3l3_G (s3l3 Ψ (s3l2_G (s3l2 Ψ n2)) n3)) x0 x1 x2 x3 x4 x5 x6 x7 x8 h)) ∧ ((True ∧ True) ∧ True)) ∧ True ∧ True ∧ True) ∧ (∀ (h : Heap) (x0 x1 x2 x3 x4 : AVal) (x5 : Int) (x6 : AVal) (x7 : Int), OI (s3c4 Ψ (s3l2_G (s3l2 Ψ n2)) (s3l3_G (s3l3 Ψ (s3l2_G (s3l2 Ψ n2)) n3)) x0 x1 x2 x3 x4 x5 x6 x7 h)) ∧ (True))) ∧ True ∧ (True ∧ (∀ (h : Heap) (x0 x1 x2 x3 x4 : AVal) (x5 : Int) (x6 : AVal) (x7 x8 : Int), ON (s3l6 Ψ (s3l2_G (s3l2 Ψ n2)) 0 x0 x1 x2 x3 x4 x5 x6 x7 x8 h)) ∧ ∀ n6 : Nat, (∀ (h : Heap) (x0 x1 x2 x3 x4 : AVal) (x5 : Int) (x6 : AVal) (x7 x8 : Int), OI (s3l6 Ψ (s3l2_G (s3l2 Ψ n2)) (n6 + 1) x0 x1 x2 x3 x4 x5 x6 x7 x8 h)) ∧ ((True ∧ True ∧ True) ∧ (True ∧ True ∧ True) ∧ (∀ (h : Heap) (x0 x1 x2 x3 x4 : AVal) (x5 : Int) (x6 : AVal) (x7 x8 : Int), OI (s3c7 Ψ (s3l2_G (s3l2 Ψ n2)) (s3l6_G (s3l6 Ψ (s3l2_G (s3l2 Ψ n2)) n6)) x0 x1 x2 x3 x4 x5 x6 x7 x8 h)) ∧ (True))) ∧ (True ∧ (True ∧ True) ∧ True) ∧ True) ∧ True)) ∧ (True ∧ (∀ (h : Heap) (x0 x1 x2 : AVal) (x3 : Int), ON (s3l8 Ψ 0 x0 x1 x2 x3 h)) ∧ ∀ n8 : Nat, (∀ (h : Heap) (x0 x1 x2 : AVal) (x3 : Int), OI (s3l8 Ψ (n8 + 1) x0 x1 x2 x3 h)) ∧ ((True ∧ True ∧ True) ∧ (True ∧ (∀ (h : Heap) (x0 x1 x2 : AVal) (x3 x4 : Int), ON (s3l9 Ψ (s3l8_G (s3l8 Ψ n8)) 0 x0 x1 x2 x3 x4 h)) ∧ ∀ n9 : Nat, (∀ (h : Heap) (x0 x1 x2 : AVal) (x3 x4 : Int), OI (s3l9 Ψ (s3l8_G (s3l8 Ψ n8)) (n9 + 1) x0 x1 x2 x3 x4 h)) ∧ ((True ∧ True ∧ True) ∧ ((True) ∧ (∀ (h : Heap) (x0 x1 x2 : AVal) (x3 x4 : Int) (x5 : Bool), OI (s3c10 Ψ (s3l8_G (s3l8 Ψ n8)) (s3l9_G (s3l9 Ψ (s3l8_G (s3l8 Ψ n8)) n9)) x0 x1 x2 x3 x4 x5 h)) ∧ ((True ∧ True) ∧ True)) ∧ True)) ∧ True)) ∧ True ∧ True)) ⟨trivial, ⟨trivial, ⟨⟨trivial, ⟨⟨trivial, trivial⟩, trivial⟩⟩, ⟨trivial, ⟨⟨trivial, fun _ _ _ _ _ _ H => H, ⟨⟨trivial, trivial⟩, trivial⟩⟩, ⟨trivial, ⟨⟨trivial, ⟨fun _ _ _ _ _ _ _ H => H, fun _ => ⟨fun _ _ _ _ _ _ _ H => H, ⟨⟨trivial, ⟨trivial, trivial⟩⟩, ⟨⟨trivial, ⟨⟨trivial, ⟨fun _ _ _ _ _ _ _ _ _ H => H, fun _ => ⟨fun _ _ _ _ _ _ _ _ _ H => H, ⟨⟨trivial, ⟨trivial, trivial⟩⟩, ⟨⟨⟨trivial, fun _ _ _ _ _ _ _ _ _ _ H => H, ⟨⟨trivial, trivial⟩, trivial⟩⟩, ⟨trivial, ⟨trivial, trivial⟩⟩⟩, fun _ _ _ _ _ _ _ _ _ H => H, trivial⟩⟩⟩⟩⟩, ⟨trivial, ⟨⟨trivial, ⟨fun _ _ _ _ _ _ _ _ _ _ H => H, fun _ => ⟨fun _ _ _ _ _ _ _ _ _ _ H => H, ⟨⟨trivial, ⟨trivial, trivial⟩⟩, ⟨⟨trivial, ⟨trivial, trivial⟩⟩, fun _ _ _ _ _ _ _ _ _ _ H => H, trivial⟩⟩⟩⟩⟩, ⟨⟨trivial, ⟨⟨trivial, trivial⟩, trivial⟩⟩, trivial⟩⟩⟩⟩⟩, trivial⟩⟩⟩⟩⟩, ⟨⟨trivial, ⟨fun _ _ _ _ _ H => H, fun _ => ⟨fun _ _ _ _ _ H => H, ⟨⟨trivial, ⟨trivial, trivial⟩⟩, ⟨⟨trivial, ⟨fun _ _ _ _ _ _ H => H, fun _ => ⟨fun _ _ _ _ _ _ H => H, ⟨⟨trivial, ⟨trivial, trivial⟩⟩, ⟨⟨trivial, fun _ _ _ _ _ _ _ H => H, ⟨⟨trivial, trivial⟩, trivial⟩⟩, trivial⟩⟩⟩⟩⟩, trivial⟩⟩⟩⟩⟩, ⟨trivial, trivial⟩⟩⟩⟩⟩⟩⟩⟩⟩)
    (Eq.mpr (by as_aux_lemma => kernel_rfl : evF prog f3 (s3_A Ψ) Ψ [(.agg [a_Leq])] h = s3 Ψ a_Leq h) H)

/- 5 dictum/dictumlaw23.HeytingTells -/
def s5c1 (Ψ : AVal → Heap → Prop) (a own : AVal) (t109 : Bool) (h : Heap) : Prop :=
  ifT t109 (
    retG (.bool false) h Ψ) (
    ldN 1 h own fun l_26 =>
    tCons l_26 fun v35 l_27 =>
    tNil l_27 (
      callG prog 17 [(.agg [v35])] h fun v36 h_9 =>
      tTup v36 fun l_28 =>
      tCons l_28 fun v37 l_29 =>
      tInt .i64 v37 fun v38 =>
      tCons l_29 fun v39 l_30 =>
      tInt .i64 v39 fun v40 =>
      tCons l_30 fun v41 l_31 =>
      tInt .i64 v41 fun v42 =>
      tNil l_31 (
        ldN 1 h_9 own fun l_32 =>
        tCons l_32 fun v43 l_33 =>
        tNil l_33 (
          callG prog 18 [(.agg [v43])] h_9 fun v44 h_10 =>
          tTup v44 fun l_34 =>
          tCons l_34 fun v45 l_35 =>
          tBool v45 fun v46 =>
          tCons l_35 fun v47 l_36 =>
          tInt .i64 v47 fun v48 =>
          tNil l_36 (
            ldN 1 h_10 a fun l_37 =>
            tCons l_37 fun v49 l_38 =>
            tNil l_38 (
              callG prog 19 [(.agg [v49])] h_10 fun v50 h_11 =>
              tTup v50 fun l_39 =>
              tCons l_39 fun v51 l_40 =>
              tBool v51 fun v52 =>
              tCons l_40 fun v53 l_41 =>
              tInt .i64 v53 fun v54 =>
              tNil l_41 (
                ldN 1 h_11 a fun l_42 =>
                tCons l_42 fun v55 l_43 =>
                tNil l_43 (
                  callG prog 20 [(.agg [v55])] h_11 fun v56 h_12 =>
                  tTup v56 fun l_44 =>
                  tCons l_44 fun v57 l_45 =>
                  tCons l_45 fun v58 l_46 =>
                  tBool v58 fun v59 =>
                  tNil l_46 (
                    ifT (!v59) (
                      ifT (v38 == 0) (
                        ifT (v40 == 0) (
                          ifT (v42 == 230) (
                            ifT (!v46) (
                              ifT (v48 == v54) (
                                ldN 1 h_12 own fun l_47 =>
                                tCons l_47 fun v60 l_48 =>
                                tNil l_48 (
                                  ldN 1 h_12 a fun l_49 =>
                                  tCons l_49 fun v61 l_50 =>
                                  tNil l_50 (
                                    callG prog 21 [(.agg [v60]), (.agg [v61])] h_12 fun v62 h_13 =>
                                    tBool v62 fun v63 =>
                                    ifT v63 (
                                      callG prog 7 [] h_13 fun v64 h_14 =>
                                      tBool v64 fun v65 =>
                                      retG (.bool v65) h_14 Ψ) (
                                      retG (.bool false) h_13 Ψ)))) (
                                retG (.bool false) h_12 Ψ)) (
                              retG (.bool false) h_12 Ψ)) (
                            retG (.bool false) h_12 Ψ)) (
                          retG (.bool false) h_12 Ψ)) (
                        retG (.bool false) h_12 Ψ)) (
                      callG prog 22 [v57] h_12 fun v66 h_15 =>
                      tTup v66 fun l_51 =>
                      tCons l_51 fun v67 l_52 =>
                      tInt .i64 v67 fun v68 =>
                      tCons l_52 fun v69 l_53 =>
                      tInt .i64 v69 fun v70 =>
                      tNil l_53 (
                        ifT (v38 == v68) (
                          ifT (v40 == v70) (
                            ifT (v42 == 0) (
                              eqQ prog 4 (.bool v46) (.bool v52) fun b =>
                              ifT b (
                                ifT (v48 == v54) (
                                  ldN 1 h_15 own fun l_54 =>
                                  tCons l_54 fun v71 l_55 =>
                                  tNil l_55 (
                                    ldN 1 h_15 a fun l_56 =>
                                    tCons l_56 fun v72 l_57 =>
                                    tNil l_57 (
                                      callG prog 21 [(.agg [v71]), (.agg [v72])] h_15 fun v73 h_16 =>
                                      tBool v73 fun v74 =>
                                      ifT v74 (
                                        callG prog 7 [] h_16 fun v75 h_17 =>
                                        tBool v75 fun v76 =>
                                        retG (.bool v76) h_17 Ψ) (
                                        retG (.bool false) h_16 Ψ)))) (
                                  retG (.bool false) h_15 Ψ)) (
                                retG (.bool false) h_15 Ψ)) (
                              retG (.bool false) h_15 Ψ)) (
                            retG (.bool false) h_15 Ψ)) (
                          retG (.bool false) h_15 Ψ))))))))))))

def s5 (Ψ : AVal → Heap → Prop) (a_Leq : AVal) (x : Int) (y : Int) (h : Heap) : Prop :=
  callG prog 14 [(.agg [a_Leq])] h fun v h_ =>
  tAgg v fun l_ =>
  tCons l_ fun v1 l_1 =>
  tNil l_1 (
    Sym.newRow 1 [(.agg [.nilsl])] h_ fun r h_1 =>
    st false h_1 (.ptr r 0 0) [v1] fun h_2 =>
    ldN 1 h_2 (.ptr r 0 0) fun l_2 =>
    tCons l_2 fun v2 l_3 =>
    tNil l_3 (
      callG prog 12 [(.agg [v2]), (.int .i64 x), (.int .i64 y)] h_2 fun v3 h_3 =>
      tTup v3 fun l_4 =>
      tCons l_4 fun v4 l_5 =>
      tInt .i64 v4 fun v5 =>
      tCons l_5 fun v6 l_6 =>
      tInt .i64 v6 fun v7 =>
      tNil l_6 (
        ldN 1 h_3 (.ptr r 0 0) fun l_7 =>
        tCons l_7 fun v8 l_8 =>
        tNil l_8 (
          callG prog 15 [(.agg [v8]), (.int .i64 x), (.int .i64 y)] h_3 fun v9 h_4 =>
          tTup v9 fun l_9 =>
          tCons l_9 fun v10 l_10 =>
          tInt .i64 v10 fun v11 =>
          tCons l_10 fun v12 l_11 =>
          tInt .i64 v12 fun v13 =>
          tNil l_11 (
            ldN 1 h_4 (.ptr r 0 0) fun l_12 =>
            tCons l_12 fun v14 l_13 =>
            tNil l_13 (
              callG prog 13 [(.agg [v14]), (.int .i64 x), (.int .i64 y)] h_4 fun v15 h_5 =>
              tTup v15 fun l_14 =>
              tCons l_14 fun v16 l_15 =>
              tInt .i64 v16 fun v17 =>
              tCons l_15 fun v18 l_16 =>
              tInt .i64 v18 fun v19 =>
              tNil l_16 (
                callG prog 16 [(.agg [a_Leq]), (.int .i64 3), (.int .i64 x), (.int .i64 y)] h_5 fun v20 h_6 =>
                tTup v20 fun l_17 =>
                tCons l_17 fun v21 l_18 =>
                tInt .i64 v21 fun v22 =>
                tCons l_18 fun v23 l_19 =>
                tInt .i64 v23 fun v24 =>
                tNil l_19 (
                  callG prog 16 [(.agg [a_Leq]), (.int .i64 4), (.int .i64 x), (.int .i64 y)] h_6 fun v25 h_7 =>
                  tTup v25 fun l_20 =>
                  tCons l_20 fun v26 l_21 =>
                  tInt .i64 v26 fun v27 =>
                  tCons l_21 fun v28 l_22 =>
                  tInt .i64 v28 fun v29 =>
                  tNil l_22 (
                    callG prog 16 [(.agg [a_Leq]), (.int .i64 5), (.int .i64 x), (.int .i64 y)] h_7 fun v30 h_8 =>
                    tTup v30 fun l_23 =>
                    tCons l_23 fun v31 l_24 =>
                    tInt .i64 v31 fun v32 =>
                    tCons l_24 fun v33 l_25 =>
                    tInt .i64 v33 fun v34 =>
                    tNil l_25 (
                      ifT (v5 != v22) (
                        s5c1 Ψ (.lptr [a_Leq]) (.ptr r 0 0) true h_8) (
                        ifT (v7 != v24) (
                          s5c1 Ψ (.lptr [a_Leq]) (.ptr r 0 0) true h_8) (
                          ifT (v11 != v27) (
                            s5c1 Ψ (.lptr [a_Leq]) (.ptr r 0 0) true h_8) (
                            ifT (v13 != v29) (
                              s5c1 Ψ (.lptr [a_Leq]) (.ptr r 0 0) true h_8) (
                              ifT (v17 != v32) (
                                s5c1 Ψ (.lptr [a_Leq]) (.ptr r 0 0) true h_8) (
                                ifT (v19 != v34) (
                                  s5c1 Ψ (.lptr [a_Leq]) (.ptr r 0 0) true h_8) (
                                  ldN 1 h_8 (.ptr r 0 0) fun l_58 =>
                                  tCons l_58 fun v77 l_59 =>
                                  tNil l_59 (
                                    callG prog 10 [(.agg [v77])] h_8 fun v78 h_18 =>
                                    tInt .i64 v78 fun v79 =>
                                    ((AVal.agg [a_Leq]) = (.agg [a_Leq])) ∧
                                    callG prog 11 [(.agg [a_Leq])] h_18 fun v80 h_19 =>
                                    tInt .i64 v80 fun v81 =>
                                    s5c1 Ψ (.lptr [a_Leq]) (.ptr r 0 0) (v79 != v81) h_19)))))))))))))))))

def s5_A (Ψ : AVal → Heap → Prop) : Ann :=
  .seq (.reg [⟨none, [(0, true), (1, false)]⟩])
  (.seq (rA 4)
  (.seq (rA 9)
  (.seq (rA 9)
  (.seq (rA 9)
  (.seq (rA 9)
  (.seq (rA 9)
  (.seq (rA 9)
  (.seq (.cut [(3, .any), (7, .any), (109, .bool)] (fun l h => J.cons l fun x0 l => J.cons l fun x1 l => J.cons l fun v l => J.bool v fun x2 => J.nil l (s5c1 Ψ x0 x1 x2 h)) (.draw [(0, false), (1, false), (2, false), (3, false), (4, false), (5, false), (6, false), (7, false), (8, false), (9, false), (10, false), (11, false), (12, false), (13, false), (14, false), (15, false), (16, false), (17, false), (18, false), (19, false), (20, false), (21, false), (22, false), (23, false), (24, false), (25, false), (26, false), (27, false), (28, false), (29, false), (31, false), (30, false), (32, false), (33, false), (34, false)] [0, 0, 3, 7, 15, 15, 63, 127, 255, 511, 511, 2047, 4095, 8191, 16383, 16383, 65535, 131071, 262143, 524287, 524287, 2097151, 4194303, 8388607, 16777215, 16777215, 67108863, 134217727, 268435455, 536870911, 1073741823, 536870911, 4294967295, 8589934591, 17179869183])
  (.cond (.seq (rA 1)
  (.leaf))
  (.leaf)))
  (.seq (rA 9)
  (.seq (rA 7)
  (.seq (rA 7)
  (.seq (rA 7)
  (.seq (.seq (rA 2)
  (.cond (.seq (.reg [⟨none, [(0, false), (1, false), (2, false)]⟩, ⟨some (135, true), [(3, false), (4, false)]⟩, ⟨none, [(5, false), (6, false)]⟩, ⟨some (139, true), [(7, false), (8, false)]⟩, ⟨none, [(9, false), (10, false)]⟩, ⟨some (143, true), [(11, false), (12, false)]⟩, ⟨none, [(13, false), (14, false)]⟩, ⟨some (147, true), [(15, false), (16, false), (17, false)]⟩, ⟨none, [(18, false), (19, false)]⟩, ⟨some (152, true), [(20, false), (21, false), (22, false)]⟩, ⟨none, [(23, false), (24, false)]⟩, ⟨some (157, true), [(25, false)]⟩, ⟨none, [(26, false), (27, false)]⟩])
  (.leaf))
  (.leaf)))
  (.seq (rA 7)
  (.seq (.reg [⟨none, [(0, false), (1, false), (2, false), (3, false)]⟩, ⟨some (168, true), [(4, false), (5, false), (6, false)]⟩, ⟨none, [(7, false), (8, false)]⟩, ⟨some (173, true), [(9, false), (10, false)]⟩, ⟨none, [(11, false), (12, false)]⟩, ⟨some (177, true), [(13, false), (14, false), (15, false)]⟩, ⟨none, [(16, false), (17, false)]⟩, ⟨some (182, true), [(18, false), (19, false), (20, false)]⟩, ⟨none, [(21, false), (22, false)]⟩, ⟨some (187, true), [(23, false), (24, false), (25, false)]⟩, ⟨none, [(26, false), (27, false)]⟩, ⟨some (192, true), [(28, false)]⟩, ⟨none, [(29, false), (30, false)]⟩])
  (.leaf))))))))))))))))

theorem s5_ok {Ψ : AVal → Heap → Prop} {a_Leq : AVal} {x : Int} {y : Int} {h : Heap} (H : s5 Ψ a_Leq x y h) : ACalls prog 5 [(.agg [a_Leq]), (.int .i64 x), (.int .i64 y)] h Ψ :=
  calls_of_evF func5 (by kernel_rfl) (by kernel_rfl) (by kernel_rfl)
    (Eq.mpr (by as_aux_lemma => kernel_rfl : oblF prog f5 (s5_A Ψ) Ψ = (True ∧ True ∧ True ∧ True ∧ True ∧ True ∧ True ∧ True ∧ ((True) ∧ (∀ (h : Heap) (x0 x1 : AVal) (x2 : Bool), OI (s5c1 Ψ x0 x1 x2 h)) ∧ ((True ∧ True) ∧ True)) ∧ True ∧ True ∧ True ∧ True ∧ (True ∧ (True ∧ True) ∧ True) ∧ True ∧ True ∧ True)) ⟨trivial, ⟨trivial, ⟨trivial, ⟨trivial, ⟨trivial, ⟨trivial, ⟨trivial, ⟨trivial, ⟨⟨trivial, fun _ _ _ _ H => H, ⟨⟨trivial, trivial⟩, trivial⟩⟩, ⟨trivial, ⟨trivial, ⟨trivial, ⟨trivial, ⟨⟨trivial, ⟨⟨trivial, trivial⟩, trivial⟩⟩, ⟨trivial, ⟨trivial, trivial⟩⟩⟩⟩⟩⟩⟩⟩⟩⟩⟩⟩⟩⟩⟩⟩)
    (Eq.mpr (by as_aux_lemma => kernel_rfl : evF prog f5 (s5_A Ψ) Ψ [(.agg [a_Leq]), (.int .i64 x), (.int .i64 y)] h = s5 Ψ a_Leq x y h) H)

/- 7 dictum/dictumlaw23.heads -/
def s7 (Ψ : AVal → Heap → Prop) (h : Heap) : Prop :=
  callG prog 27 [(.int .i64 3)] h fun v h_ =>
  tTup v fun l_ =>
  tCons l_ fun v1 l_1 =>
  tCons l_1 fun v2 l_2 =>
  tInt .i64 v2 fun v3 =>
  tNil l_2 (
    tAgg v1 fun l_3 =>
    tCons l_3 fun v4 l_4 =>
    tNil l_4 (
      Sym.newRow 1 [(.agg [.nilsl])] h_ fun r h_1 =>
      st false h_1 (.ptr r 0 0) [v4] fun h_2 =>
      callG prog 27 [(.int .i64 2)] h_2 fun v5 h_3 =>
      tTup v5 fun l_5 =>
      tCons l_5 fun v6 l_6 =>
      tCons l_6 fun v7 l_7 =>
      tInt .i64 v7 fun v8 =>
      tNil l_7 (
        tAgg v6 fun l_8 =>
        tCons l_8 fun v9 l_9 =>
        tNil l_9 (
          Sym.newRow 1 [(.agg [.nilsl])] h_3 fun r1 h_4 =>
          st false h_4 (.ptr r1 0 0) [v9] fun h_5 =>
          ldN 1 h_5 (.ptr r 0 0) fun l_10 =>
          tCons l_10 fun v10 l_11 =>
          tNil l_11 (
            callG prog 13 [(.agg [v10]), (.int .i64 1), (.int .i64 0)] h_5 fun v11 h_6 =>
            tTup v11 fun l_12 =>
            tCons l_12 fun v12 l_13 =>
            tInt .i64 v12 fun v13 =>
            tCons l_13 fun v14 l_14 =>
            tInt .i64 v14 fun v15 =>
            tNil l_14 (
              ldN 1 h_6 (.ptr r 0 0) fun l_15 =>
              tCons l_15 fun v16 l_16 =>
              tNil l_16 (
                callG prog 13 [(.agg [v16]), (.int .i64 0), (.int .i64 1)] h_6 fun v17 h_7 =>
                tTup v17 fun l_17 =>
                tCons l_17 fun v18 l_18 =>
                tInt .i64 v18 fun v19 =>
                tCons l_18 fun v20 l_19 =>
                tInt .i64 v20 fun v21 =>
                tNil l_19 (
                  ldN 1 h_7 (.ptr r 0 0) fun l_20 =>
                  tCons l_20 fun v22 l_21 =>
                  tNil l_21 (
                    callG prog 18 [(.agg [v22])] h_7 fun v23 h_8 =>
                    tTup v23 fun l_22 =>
                    tCons l_22 fun v24 l_23 =>
                    tBool v24 fun v25 =>
                    tCons l_23 fun v26 l_24 =>
                    tInt .i64 v26 fun v27 =>
                    tNil l_24 (
                      ldN 1 h_8 (.ptr r1 0 0) fun l_25 =>
                      tCons l_25 fun v28 l_26 =>
                      tNil l_26 (
                        callG prog 18 [(.agg [v28])] h_8 fun v29 h_9 =>
                        tTup v29 fun l_27 =>
                        tCons l_27 fun v30 l_28 =>
                        tBool v30 fun v31 =>
                        tCons l_28 fun v32 l_29 =>
                        tInt .i64 v32 fun v33 =>
                        tNil l_29 (
                          callG prog 8 [(.agg [(.lsl 1 [(.lsl 1 [(.int .i64 1)]), .nilsl]), (.lsl 1 [.nilsl, .nilsl])])] h_9 fun v34 h_10 =>
                          tTup v34 fun l_30 =>
                          tCons l_30 fun v35 l_31 =>
                          tCons l_31 fun v36 l_32 =>
                          tCons l_32 fun v37 l_33 =>
                          tInt .i64 v37 fun v38 =>
                          tNil l_33 (
                            tAgg v35 fun l_34 =>
                            tCons l_34 fun v39 l_35 =>
                            tNil l_35 (
                              Sym.newRow 1 [(.agg [.nilsl])] h_10 fun r2 h_11 =>
                              st false h_11 (.ptr r2 0 0) [v39] fun h_12 =>
                              (((mkS true 1 24 .nilsl h_12 7 7 fun v40 h_13 =>
                              mkS true 1 24 .nilsl h_13 7 7 fun v41 h_14 =>
                              chk (sc v40) (
                                chk (sc v41) (
                                  ∃ v42, (callG prog 8 [(.agg [v40, v41])] h_14 fun v h2 => v = v42 ∧ h2 = h_14) ∧
                                  tTup v42 fun l_36 =>
                                  tCons l_36 fun v43 l_37 =>
                                  tCons l_37 fun v44 l_38 =>
                                  tCons l_38 fun v45 l_39 =>
                                  tInt .i64 v45 fun v46 =>
                                  tNil l_39 (
                                    tAgg v43 fun l_40 =>
                                    tCons l_40 fun v47 l_41 =>
                                    tNil l_41 (
                                      Sym.newRow 1 [(.agg [.nilsl])] h_14 fun r3 h_16 =>
                                      ((callG prog 8 [(.agg [v40, v41])] h_16 fun v h2 => v = (.tuple [v43, v44, (.int .i64 v46)]) ∧ h2 = h_16)) ∧
                                      st false h_16 (.ptr r3 0 0) [v47] fun h_18 =>
                                      ldN 1 h_18 (.ptr r 0 0) fun l_42 =>
                                      tCons l_42 fun v49 l_43 =>
                                      tNil l_43 (
                                        callG prog 6 [(.agg [v49])] h_18 fun v50 h_19 =>
                                        tTup v50 fun l_44 =>
                                        tCons l_44 fun v51 l_45 =>
                                        tCons l_45 fun v52 l_46 =>
                                        tCons l_46 fun v53 l_47 =>
                                        tInt .i64 v53 fun v54 =>
                                        tNil l_47 (
                                          tAgg v51 fun l_48 =>
                                          tCons l_48 fun v55 l_49 =>
                                          tCons l_49 fun v56 l_50 =>
                                          tNil l_50 (
                                            Sym.newRow 2 [(.agg [.nilsl, .nilsl])] h_19 fun r4 h_20 =>
                                            st false h_20 (.ptr r4 0 0) [v55, v56] fun h_21 =>
                                            ifT (v3 == 0) (
                                              ifT (v8 == 0) (
                                                ifT (v15 == 0) (
                                                  ifT (v21 == 0) (
                                                    ifT (v27 == 0) (
                                                      ifT (v33 == 0) (
                                                        ifT (v13 == 0) (
                                                          ifT (v19 == 2) (
                                                            ifT (!v25) (
                                                              ifT v31 (
                                                                ifT (v38 == 0) (
                                                                  lenN v36 fun n =>
                                                                  ifT (n == 3) (
                                                                    ixS 1 v36 1 fun p =>
                                                                    ld1 h_21 p fun v57 =>
                                                                    callG prog 9 [v57, (.lsl 1 [(.int .i64 1)])] h_21 fun v58 h_22 =>
                                                                    tBool v58 fun v59 =>
                                                                    ifT v59 (
                                                                      ifT (v46 == 231) (
                                                                        ifT (v54 == 0) (
                                                                          callG prog 9 [v52, (.lsl 1 [(.int .i64 1), (.int .i64 2)])] h_22 fun v60 h_23 =>
                                                                          tBool v60 fun v61 =>
                                                                          ifT v61 (
                                                                            ld1 h_23 (.ptr r4 0 0) fun v62 =>
                                                                            lenN v62 fun n1 =>
                                                                            ifT (n1 == 2) (
                                                                              ld1 h_23 (.ptr r4 0 0) fun v63 =>
                                                                              ixS 1 v63 1 fun p1 =>
                                                                              ld1 h_23 p1 fun v64 =>
                                                                              callG prog 9 [v64, (.lsl 1 [(.int .i64 0)])] h_23 fun v65 h_24 =>
                                                                              tBool v65 fun v66 =>
                                                                              ifT v66 (
                                                                                callG prog 10 [(.agg [(.lsl 1 [(.lsl 1 [(.bool true), (.bool true), (.bool true)]), (.lsl 1 [(.bool false), (.bool true), (.bool false)]), (.lsl 1 [(.bool false), (.bool false), (.bool true)])])])] h_24 fun v67 h_25 =>
                                                                                tInt .i64 v67 fun v68 =>
                                                                                retG (.bool (v68 == 230)) h_25 Ψ) (
                                                                                retG (.bool false) h_24 Ψ)) (
                                                                              retG (.bool false) h_23 Ψ)) (
                                                                            retG (.bool false) h_23 Ψ)) (
                                                                          retG (.bool false) h_22 Ψ)) (
                                                                        retG (.bool false) h_22 Ψ)) (
                                                                      retG (.bool false) h_22 Ψ)) (
                                                                    retG (.bool false) h_21 Ψ)) (
                                                                  retG (.bool false) h_21 Ψ)) (
                                                                retG (.bool false) h_21 Ψ)) (
                                                              retG (.bool false) h_21 Ψ)) (
                                                            retG (.bool false) h_21 Ψ)) (
                                                          retG (.bool false) h_21 Ψ)) (
                                                        retG (.bool false) h_21 Ψ)) (
                                                      retG (.bool false) h_21 Ψ)) (
                                                    retG (.bool false) h_21 Ψ)) (
                                                  retG (.bool false) h_21 Ψ)) (
                                                retG (.bool false) h_21 Ψ)) (
                                              retG (.bool false) h_21 Ψ))))))))) ∧
                              mkS true 1 24 .nilsl h_12 7 7 fun v69 h_26 =>
                              Sym.newRow 1 [(.agg [.nilsl])] h_26 fun r5 h_27 =>
                              mkS true 1 24 .nilsl h_27 7 7 fun v70 h_28 =>
                              chk (sc v69) (
                                chk (sc v70) (
                                  ∃ v71, (callG prog 8 [(.agg [v69, v70])] h_28 fun v h2 => v = v71 ∧ h2 = h_28) ∧
                                  tTup v71 fun l_51 =>
                                  tCons l_51 fun v72 l_52 =>
                                  tCons l_52 fun v73 l_53 =>
                                  tCons l_53 fun v74 l_54 =>
                                  tInt .i64 v74 fun v75 =>
                                  tNil l_54 (
                                    tAgg v72 fun l_55 =>
                                    tCons l_55 fun v76 l_56 =>
                                    tNil l_56 (
                                      st false h_28 (.ptr r5 0 0) [v76] fun h_30 =>
                                      ldN 1 h_30 (.ptr r 0 0) fun l_57 =>
                                      tCons l_57 fun v77 l_58 =>
                                      tNil l_58 (
                                        callG prog 6 [(.agg [v77])] h_30 fun v78 h_31 =>
                                        tTup v78 fun l_59 =>
                                        tCons l_59 fun v79 l_60 =>
                                        tCons l_60 fun v80 l_61 =>
                                        tCons l_61 fun v81 l_62 =>
                                        tInt .i64 v81 fun v82 =>
                                        tNil l_62 (
                                          tAgg v79 fun l_63 =>
                                          tCons l_63 fun v83 l_64 =>
                                          tCons l_64 fun v84 l_65 =>
                                          tNil l_65 (
                                            Sym.newRow 2 [(.agg [.nilsl, .nilsl])] h_31 fun r6 h_32 =>
                                            st false h_32 (.ptr r6 0 0) [v83, v84] fun h_33 =>
                                            ifT (v3 == 0) (
                                              ifT (v8 == 0) (
                                                ifT (v15 == 0) (
                                                  ifT (v21 == 0) (
                                                    ifT (v27 == 0) (
                                                      ifT (v33 == 0) (
                                                        ifT (v13 == 0) (
                                                          ifT (v19 == 2) (
                                                            ifT (!v25) (
                                                              ifT v31 (
                                                                ifT (v38 == 0) (
                                                                  lenN v36 fun n2 =>
                                                                  ifT (n2 == 3) (
                                                                    ixS 1 v36 1 fun p2 =>
                                                                    ld1 h_33 p2 fun v85 =>
                                                                    callG prog 9 [v85, (.lsl 1 [(.int .i64 1)])] h_33 fun v86 h_34 =>
                                                                    tBool v86 fun v87 =>
                                                                    ifT v87 (
                                                                      ifT (v75 == 231) (
                                                                        ifT (v82 == 0) (
                                                                          callG prog 9 [v80, (.lsl 1 [(.int .i64 1), (.int .i64 2)])] h_34 fun v88 h_35 =>
                                                                          tBool v88 fun v89 =>
                                                                          ifT v89 (
                                                                            ld1 h_35 (.ptr r6 0 0) fun v90 =>
                                                                            lenN v90 fun n3 =>
                                                                            ifT (n3 == 2) (
                                                                              ld1 h_35 (.ptr r6 0 0) fun v91 =>
                                                                              ixS 1 v91 1 fun p3 =>
                                                                              ld1 h_35 p3 fun v92 =>
                                                                              callG prog 9 [v92, (.lsl 1 [(.int .i64 0)])] h_35 fun v93 h_36 =>
                                                                              tBool v93 fun v94 =>
                                                                              ifT v94 (
                                                                                callG prog 10 [(.agg [(.lsl 1 [(.lsl 1 [(.bool true), (.bool true), (.bool true)]), (.lsl 1 [(.bool false), (.bool true), (.bool false)]), (.lsl 1 [(.bool false), (.bool false), (.bool true)])])])] h_36 fun v95 h_37 =>
                                                                                tInt .i64 v95 fun v96 =>
                                                                                retG (.bool (v96 == 230)) h_37 Ψ) (
                                                                                retG (.bool false) h_36 Ψ)) (
                                                                              retG (.bool false) h_35 Ψ)) (
                                                                            retG (.bool false) h_35 Ψ)) (
                                                                          retG (.bool false) h_34 Ψ)) (
                                                                        retG (.bool false) h_34 Ψ)) (
                                                                      retG (.bool false) h_34 Ψ)) (
                                                                    retG (.bool false) h_33 Ψ)) (
                                                                  retG (.bool false) h_33 Ψ)) (
                                                                retG (.bool false) h_33 Ψ)) (
                                                              retG (.bool false) h_33 Ψ)) (
                                                            retG (.bool false) h_33 Ψ)) (
                                                          retG (.bool false) h_33 Ψ)) (
                                                        retG (.bool false) h_33 Ψ)) (
                                                      retG (.bool false) h_33 Ψ)) (
                                                    retG (.bool false) h_33 Ψ)) (
                                                  retG (.bool false) h_33 Ψ)) (
                                                retG (.bool false) h_33 Ψ)) (
                                              retG (.bool false) h_33 Ψ))))))))) ∧
                              Sym.newRow 1 [(.agg [.nilsl])] h_12 fun r7 h_38 =>
                              mkS true 1 24 .nilsl h_38 7 7 fun v97 h_39 =>
                              mkS true 1 24 .nilsl h_39 7 7 fun v98 h_40 =>
                              chk (sc v97) (
                                chk (sc v98) (
                                  ∃ v99, (callG prog 8 [(.agg [v97, v98])] h_40 fun v h2 => v = v99 ∧ h2 = h_40) ∧
                                  tTup v99 fun l_66 =>
                                  tCons l_66 fun v100 l_67 =>
                                  tCons l_67 fun v101 l_68 =>
                                  tCons l_68 fun v102 l_69 =>
                                  tInt .i64 v102 fun v103 =>
                                  tNil l_69 (
                                    tAgg v100 fun l_70 =>
                                    tCons l_70 fun v104 l_71 =>
                                    tNil l_71 (
                                      st false h_40 (.ptr r7 0 0) [v104] fun h_42 =>
                                      ldN 1 h_42 (.ptr r 0 0) fun l_72 =>
                                      tCons l_72 fun v105 l_73 =>
                                      tNil l_73 (
                                        callG prog 6 [(.agg [v105])] h_42 fun v106 h_43 =>
                                        tTup v106 fun l_74 =>
                                        tCons l_74 fun v107 l_75 =>
                                        tCons l_75 fun v108 l_76 =>
                                        tCons l_76 fun v109 l_77 =>
                                        tInt .i64 v109 fun v110 =>
                                        tNil l_77 (
                                          tAgg v107 fun l_78 =>
                                          tCons l_78 fun v111 l_79 =>
                                          tCons l_79 fun v112 l_80 =>
                                          tNil l_80 (
                                            Sym.newRow 2 [(.agg [.nilsl, .nilsl])] h_43 fun r8 h_44 =>
                                            st false h_44 (.ptr r8 0 0) [v111, v112] fun h_45 =>
                                            ifT (v3 == 0) (
                                              ifT (v8 == 0) (
                                                ifT (v15 == 0) (
                                                  ifT (v21 == 0) (
                                                    ifT (v27 == 0) (
                                                      ifT (v33 == 0) (
                                                        ifT (v13 == 0) (
                                                          ifT (v19 == 2) (
                                                            ifT (!v25) (
                                                              ifT v31 (
                                                                ifT (v38 == 0) (
                                                                  lenN v36 fun n4 =>
                                                                  ifT (n4 == 3) (
                                                                    ixS 1 v36 1 fun p4 =>
                                                                    ld1 h_45 p4 fun v113 =>
                                                                    callG prog 9 [v113, (.lsl 1 [(.int .i64 1)])] h_45 fun v114 h_46 =>
                                                                    tBool v114 fun v115 =>
                                                                    ifT v115 (
                                                                      ifT (v103 == 231) (
                                                                        ifT (v110 == 0) (
                                                                          callG prog 9 [v108, (.lsl 1 [(.int .i64 1), (.int .i64 2)])] h_46 fun v116 h_47 =>
                                                                          tBool v116 fun v117 =>
                                                                          ifT v117 (
                                                                            ld1 h_47 (.ptr r8 0 0) fun v118 =>
                                                                            lenN v118 fun n5 =>
                                                                            ifT (n5 == 2) (
                                                                              ld1 h_47 (.ptr r8 0 0) fun v119 =>
                                                                              ixS 1 v119 1 fun p5 =>
                                                                              ld1 h_47 p5 fun v120 =>
                                                                              callG prog 9 [v120, (.lsl 1 [(.int .i64 0)])] h_47 fun v121 h_48 =>
                                                                              tBool v121 fun v122 =>
                                                                              ifT v122 (
                                                                                callG prog 10 [(.agg [(.lsl 1 [(.lsl 1 [(.bool true), (.bool true), (.bool true)]), (.lsl 1 [(.bool false), (.bool true), (.bool false)]), (.lsl 1 [(.bool false), (.bool false), (.bool true)])])])] h_48 fun v123 h_49 =>
                                                                                tInt .i64 v123 fun v124 =>
                                                                                retG (.bool (v124 == 230)) h_49 Ψ) (
                                                                                retG (.bool false) h_48 Ψ)) (
                                                                              retG (.bool false) h_47 Ψ)) (
                                                                            retG (.bool false) h_47 Ψ)) (
                                                                          retG (.bool false) h_46 Ψ)) (
                                                                        retG (.bool false) h_46 Ψ)) (
                                                                      retG (.bool false) h_46 Ψ)) (
                                                                    retG (.bool false) h_45 Ψ)) (
                                                                  retG (.bool false) h_45 Ψ)) (
                                                                retG (.bool false) h_45 Ψ)) (
                                                              retG (.bool false) h_45 Ψ)) (
                                                            retG (.bool false) h_45 Ψ)) (
                                                          retG (.bool false) h_45 Ψ)) (
                                                        retG (.bool false) h_45 Ψ)) (
                                                      retG (.bool false) h_45 Ψ)) (
                                                    retG (.bool false) h_45 Ψ)) (
                                                  retG (.bool false) h_45 Ψ)) (
                                                retG (.bool false) h_45 Ψ)) (
                                              retG (.bool false) h_45 Ψ))))))))) ∧
                              (mkS true 1 24 .nilsl h_12 7 7 fun v125 h_50 =>
                              mkS true 1 24 .nilsl h_50 7 7 fun v126 h_51 =>
                              chk (sc v126) (
                                chk (sc v125) (
                                  ∃ v127, (callG prog 8 [(.agg [v126, v125])] h_51 fun v h2 => v = v127 ∧ h2 = h_51) ∧
                                  tTup v127 fun l_81 =>
                                  tCons l_81 fun v128 l_82 =>
                                  tCons l_82 fun v129 l_83 =>
                                  tCons l_83 fun v130 l_84 =>
                                  tInt .i64 v130 fun v131 =>
                                  tNil l_84 (
                                    tAgg v128 fun l_85 =>
                                    tCons l_85 fun v132 l_86 =>
                                    tNil l_86 (
                                      Sym.newRow 1 [(.agg [.nilsl])] h_51 fun r9 h_53 =>
                                      ((callG prog 8 [(.agg [v126, v125])] h_53 fun v h2 => v = (.tuple [v128, v129, (.int .i64 v131)]) ∧ h2 = h_53)) ∧
                                      st false h_53 (.ptr r9 0 0) [v132] fun h_55 =>
                                      ldN 1 h_55 (.ptr r 0 0) fun l_87 =>
                                      tCons l_87 fun v134 l_88 =>
                                      tNil l_88 (
                                        callG prog 6 [(.agg [v134])] h_55 fun v135 h_56 =>
                                        tTup v135 fun l_89 =>
                                        tCons l_89 fun v136 l_90 =>
                                        tCons l_90 fun v137 l_91 =>
                                        tCons l_91 fun v138 l_92 =>
                                        tInt .i64 v138 fun v139 =>
                                        tNil l_92 (
                                          tAgg v136 fun l_93 =>
                                          tCons l_93 fun v140 l_94 =>
                                          tCons l_94 fun v141 l_95 =>
                                          tNil l_95 (
                                            Sym.newRow 2 [(.agg [.nilsl, .nilsl])] h_56 fun r10 h_57 =>
                                            st false h_57 (.ptr r10 0 0) [v140, v141] fun h_58 =>
                                            ifT (v3 == 0) (
                                              ifT (v8 == 0) (
                                                ifT (v15 == 0) (
                                                  ifT (v21 == 0) (
                                                    ifT (v27 == 0) (
                                                      ifT (v33 == 0) (
                                                        ifT (v13 == 0) (
                                                          ifT (v19 == 2) (
                                                            ifT (!v25) (
                                                              ifT v31 (
                                                                ifT (v38 == 0) (
                                                                  lenN v36 fun n6 =>
                                                                  ifT (n6 == 3) (
                                                                    ixS 1 v36 1 fun p6 =>
                                                                    ld1 h_58 p6 fun v142 =>
                                                                    callG prog 9 [v142, (.lsl 1 [(.int .i64 1)])] h_58 fun v143 h_59 =>
                                                                    tBool v143 fun v144 =>
                                                                    ifT v144 (
                                                                      ifT (v131 == 231) (
                                                                        ifT (v139 == 0) (
                                                                          callG prog 9 [v137, (.lsl 1 [(.int .i64 1), (.int .i64 2)])] h_59 fun v145 h_60 =>
                                                                          tBool v145 fun v146 =>
                                                                          ifT v146 (
                                                                            ld1 h_60 (.ptr r10 0 0) fun v147 =>
                                                                            lenN v147 fun n7 =>
                                                                            ifT (n7 == 2) (
                                                                              ld1 h_60 (.ptr r10 0 0) fun v148 =>
                                                                              ixS 1 v148 1 fun p7 =>
                                                                              ld1 h_60 p7 fun v149 =>
                                                                              callG prog 9 [v149, (.lsl 1 [(.int .i64 0)])] h_60 fun v150 h_61 =>
                                                                              tBool v150 fun v151 =>
                                                                              ifT v151 (
                                                                                callG prog 10 [(.agg [(.lsl 1 [(.lsl 1 [(.bool true), (.bool true), (.bool true)]), (.lsl 1 [(.bool false), (.bool true), (.bool false)]), (.lsl 1 [(.bool false), (.bool false), (.bool true)])])])] h_61 fun v152 h_62 =>
                                                                                tInt .i64 v152 fun v153 =>
                                                                                retG (.bool (v153 == 230)) h_62 Ψ) (
                                                                                retG (.bool false) h_61 Ψ)) (
                                                                              retG (.bool false) h_60 Ψ)) (
                                                                            retG (.bool false) h_60 Ψ)) (
                                                                          retG (.bool false) h_59 Ψ)) (
                                                                        retG (.bool false) h_59 Ψ)) (
                                                                      retG (.bool false) h_59 Ψ)) (
                                                                    retG (.bool false) h_58 Ψ)) (
                                                                  retG (.bool false) h_58 Ψ)) (
                                                                retG (.bool false) h_58 Ψ)) (
                                                              retG (.bool false) h_58 Ψ)) (
                                                            retG (.bool false) h_58 Ψ)) (
                                                          retG (.bool false) h_58 Ψ)) (
                                                        retG (.bool false) h_58 Ψ)) (
                                                      retG (.bool false) h_58 Ψ)) (
                                                    retG (.bool false) h_58 Ψ)) (
                                                  retG (.bool false) h_58 Ψ)) (
                                                retG (.bool false) h_58 Ψ)) (
                                              retG (.bool false) h_58 Ψ))))))))) ∧
                              (mkS true 1 24 .nilsl h_12 7 7 fun v154 h_63 =>
                              Sym.newRow 1 [(.agg [.nilsl])] h_63 fun r11 h_64 =>
                              mkS true 1 24 .nilsl h_64 7 7 fun v155 h_65 =>
                              chk (sc v155) (
                                chk (sc v154) (
                                  ∃ v156, (callG prog 8 [(.agg [v155, v154])] h_65 fun v h2 => v = v156 ∧ h2 = h_65) ∧
                                  tTup v156 fun l_96 =>
                                  tCons l_96 fun v157 l_97 =>
                                  tCons l_97 fun v158 l_98 =>
                                  tCons l_98 fun v159 l_99 =>
                                  tInt .i64 v159 fun v160 =>
                                  tNil l_99 (
                                    tAgg v157 fun l_100 =>
                                    tCons l_100 fun v161 l_101 =>
                                    tNil l_101 (
                                      st false h_65 (.ptr r11 0 0) [v161] fun h_67 =>
                                      ldN 1 h_67 (.ptr r 0 0) fun l_102 =>
                                      tCons l_102 fun v162 l_103 =>
                                      tNil l_103 (
                                        callG prog 6 [(.agg [v162])] h_67 fun v163 h_68 =>
                                        tTup v163 fun l_104 =>
                                        tCons l_104 fun v164 l_105 =>
                                        tCons l_105 fun v165 l_106 =>
                                        tCons l_106 fun v166 l_107 =>
                                        tInt .i64 v166 fun v167 =>
                                        tNil l_107 (
                                          tAgg v164 fun l_108 =>
                                          tCons l_108 fun v168 l_109 =>
                                          tCons l_109 fun v169 l_110 =>
                                          tNil l_110 (
                                            Sym.newRow 2 [(.agg [.nilsl, .nilsl])] h_68 fun r12 h_69 =>
                                            st false h_69 (.ptr r12 0 0) [v168, v169] fun h_70 =>
                                            ifT (v3 == 0) (
                                              ifT (v8 == 0) (
                                                ifT (v15 == 0) (
                                                  ifT (v21 == 0) (
                                                    ifT (v27 == 0) (
                                                      ifT (v33 == 0) (
                                                        ifT (v13 == 0) (
                                                          ifT (v19 == 2) (
                                                            ifT (!v25) (
                                                              ifT v31 (
                                                                ifT (v38 == 0) (
                                                                  lenN v36 fun n8 =>
                                                                  ifT (n8 == 3) (
                                                                    ixS 1 v36 1 fun p8 =>
                                                                    ld1 h_70 p8 fun v170 =>
                                                                    callG prog 9 [v170, (.lsl 1 [(.int .i64 1)])] h_70 fun v171 h_71 =>
                                                                    tBool v171 fun v172 =>
                                                                    ifT v172 (
                                                                      ifT (v160 == 231) (
                                                                        ifT (v167 == 0) (
                                                                          callG prog 9 [v165, (.lsl 1 [(.int .i64 1), (.int .i64 2)])] h_71 fun v173 h_72 =>
                                                                          tBool v173 fun v174 =>
                                                                          ifT v174 (
                                                                            ld1 h_72 (.ptr r12 0 0) fun v175 =>
                                                                            lenN v175 fun n9 =>
                                                                            ifT (n9 == 2) (
                                                                              ld1 h_72 (.ptr r12 0 0) fun v176 =>
                                                                              ixS 1 v176 1 fun p9 =>
                                                                              ld1 h_72 p9 fun v177 =>
                                                                              callG prog 9 [v177, (.lsl 1 [(.int .i64 0)])] h_72 fun v178 h_73 =>
                                                                              tBool v178 fun v179 =>
                                                                              ifT v179 (
                                                                                callG prog 10 [(.agg [(.lsl 1 [(.lsl 1 [(.bool true), (.bool true), (.bool true)]), (.lsl 1 [(.bool false), (.bool true), (.bool false)]), (.lsl 1 [(.bool false), (.bool false), (.bool true)])])])] h_73 fun v180 h_74 =>
                                                                                tInt .i64 v180 fun v181 =>
                                                                                retG (.bool (v181 == 230)) h_74 Ψ) (
                                                                                retG (.bool false) h_73 Ψ)) (
                                                                              retG (.bool false) h_72 Ψ)) (
                                                                            retG (.bool false) h_72 Ψ)) (
                                                                          retG (.bool false) h_71 Ψ)) (
                                                                        retG (.bool false) h_71 Ψ)) (
                                                                      retG (.bool false) h_71 Ψ)) (
                                                                    retG (.bool false) h_70 Ψ)) (
                                                                  retG (.bool false) h_70 Ψ)) (
                                                                retG (.bool false) h_70 Ψ)) (
                                                              retG (.bool false) h_70 Ψ)) (
                                                            retG (.bool false) h_70 Ψ)) (
                                                          retG (.bool false) h_70 Ψ)) (
                                                        retG (.bool false) h_70 Ψ)) (
                                                      retG (.bool false) h_70 Ψ)) (
                                                    retG (.bool false) h_70 Ψ)) (
                                                  retG (.bool false) h_70 Ψ)) (
                                                retG (.bool false) h_70 Ψ)) (
                                              retG (.bool false) h_70 Ψ))))))))) ∧
                              Sym.newRow 1 [(.agg [.nilsl])] h_12 fun r13 h_75 =>
                              mkS true 1 24 .nilsl h_75 7 7 fun v182 h_76 =>
                              mkS true 1 24 .nilsl h_76 7 7 fun v183 h_77 =>
                              chk (sc v183) (
                                chk (sc v182) (
                                  ∃ v184, (callG prog 8 [(.agg [v183, v182])] h_77 fun v h2 => v = v184 ∧ h2 = h_77) ∧
                                  tTup v184 fun l_111 =>
                                  tCons l_111 fun v185 l_112 =>
                                  tCons l_112 fun v186 l_113 =>
                                  tCons l_113 fun v187 l_114 =>
                                  tInt .i64 v187 fun v188 =>
                                  tNil l_114 (
                                    tAgg v185 fun l_115 =>
                                    tCons l_115 fun v189 l_116 =>
                                    tNil l_116 (
                                      st false h_77 (.ptr r13 0 0) [v189] fun h_79 =>
                                      ldN 1 h_79 (.ptr r 0 0) fun l_117 =>
                                      tCons l_117 fun v190 l_118 =>
                                      tNil l_118 (
                                        callG prog 6 [(.agg [v190])] h_79 fun v191 h_80 =>
                                        tTup v191 fun l_119 =>
                                        tCons l_119 fun v192 l_120 =>
                                        tCons l_120 fun v193 l_121 =>
                                        tCons l_121 fun v194 l_122 =>
                                        tInt .i64 v194 fun v195 =>
                                        tNil l_122 (
                                          tAgg v192 fun l_123 =>
                                          tCons l_123 fun v196 l_124 =>
                                          tCons l_124 fun v197 l_125 =>
                                          tNil l_125 (
                                            Sym.newRow 2 [(.agg [.nilsl, .nilsl])] h_80 fun r14 h_81 =>
                                            st false h_81 (.ptr r14 0 0) [v196, v197] fun h_82 =>
                                            ifT (v3 == 0) (
                                              ifT (v8 == 0) (
                                                ifT (v15 == 0) (
                                                  ifT (v21 == 0) (
                                                    ifT (v27 == 0) (
                                                      ifT (v33 == 0) (
                                                        ifT (v13 == 0) (
                                                          ifT (v19 == 2) (
                                                            ifT (!v25) (
                                                              ifT v31 (
                                                                ifT (v38 == 0) (
                                                                  lenN v36 fun n10 =>
                                                                  ifT (n10 == 3) (
                                                                    ixS 1 v36 1 fun p10 =>
                                                                    ld1 h_82 p10 fun v198 =>
                                                                    callG prog 9 [v198, (.lsl 1 [(.int .i64 1)])] h_82 fun v199 h_83 =>
                                                                    tBool v199 fun v200 =>
                                                                    ifT v200 (
                                                                      ifT (v188 == 231) (
                                                                        ifT (v195 == 0) (
                                                                          callG prog 9 [v193, (.lsl 1 [(.int .i64 1), (.int .i64 2)])] h_83 fun v201 h_84 =>
                                                                          tBool v201 fun v202 =>
                                                                          ifT v202 (
                                                                            ld1 h_84 (.ptr r14 0 0) fun v203 =>
                                                                            lenN v203 fun n11 =>
                                                                            ifT (n11 == 2) (
                                                                              ld1 h_84 (.ptr r14 0 0) fun v204 =>
                                                                              ixS 1 v204 1 fun p11 =>
                                                                              ld1 h_84 p11 fun v205 =>
                                                                              callG prog 9 [v205, (.lsl 1 [(.int .i64 0)])] h_84 fun v206 h_85 =>
                                                                              tBool v206 fun v207 =>
                                                                              ifT v207 (
                                                                                callG prog 10 [(.agg [(.lsl 1 [(.lsl 1 [(.bool true), (.bool true), (.bool true)]), (.lsl 1 [(.bool false), (.bool true), (.bool false)]), (.lsl 1 [(.bool false), (.bool false), (.bool true)])])])] h_85 fun v208 h_86 =>
                                                                                tInt .i64 v208 fun v209 =>
                                                                                retG (.bool (v209 == 230)) h_86 Ψ) (
                                                                                retG (.bool false) h_85 Ψ)) (
                                                                              retG (.bool false) h_84 Ψ)) (
                                                                            retG (.bool false) h_84 Ψ)) (
                                                                          retG (.bool false) h_83 Ψ)) (
                                                                        retG (.bool false) h_83 Ψ)) (
                                                                      retG (.bool false) h_83 Ψ)) (
                                                                    retG (.bool false) h_82 Ψ)) (
                                                                  retG (.bool false) h_82 Ψ)) (
                                                                retG (.bool false) h_82 Ψ)) (
                                                              retG (.bool false) h_82 Ψ)) (
                                                            retG (.bool false) h_82 Ψ)) (
                                                          retG (.bool false) h_82 Ψ)) (
                                                        retG (.bool false) h_82 Ψ)) (
                                                      retG (.bool false) h_82 Ψ)) (
                                                    retG (.bool false) h_82 Ψ)) (
                                                  retG (.bool false) h_82 Ψ)) (
                                                retG (.bool false) h_82 Ψ)) (
                                              retG (.bool false) h_82 Ψ))))))))))))))))))))))

def s7_A (Ψ : AVal → Heap → Prop) : Ann :=
  .seq (rA 1)
  (.seq (rA 7)
  (.seq (rA 7)
  (.seq (rA 7)
  (.seq (rA 7)
  (.seq (rA 7)
  (.seq (rA 7)
  (.seq (.reg [⟨none, [(0, true), (1, true), (2, true), (3, false), (4, false), (5, false), (6, false), (7, false), (8, false), (9, false), (10, false), (11, false), (12, false)]⟩])
  (.seq (.drawT (.split 0 1 (.split 0 8 (.split 1 8 (.leaf [(0, true), (1, true), (2, false), (3, true), (4, false), (5, false), (6, false), (7, false), (8, false), (9, false), (10, false), (11, false)]) (.leaf [(0, true), (8, false), (1, true), (2, false), (3, true), (4, false), (5, false), (6, false), (7, false), (9, false), (10, false), (11, false)])) (.leaf [(8, false), (0, true), (1, true), (2, false), (3, true), (4, false), (5, false), (6, false), (7, false), (9, false), (10, false), (11, false)])) (.split 0 8 (.leaf [(1, true), (0, true), (2, false), (3, true), (4, false), (5, false), (6, false), (7, false), (8, false), (9, false), (10, false), (11, false)]) (.split 1 8 (.leaf [(1, true), (8, false), (0, true), (2, false), (3, true), (4, false), (5, false), (6, false), (7, false), (9, false), (10, false), (11, false)]) (.leaf [(8, false), (1, true), (0, true), (2, false), (3, true), (4, false), (5, false), (6, false), (7, false), (9, false), (10, false), (11, false)])))) [0, 0, 3, 7, 15, 31, 31, 31, 0, 319, 895, 2047])
  (.seq (rA 10)
  (.seq (.reg [⟨none, [(0, false), (1, false), (2, false)]⟩, ⟨some (75, true), [(3, false), (4, false)]⟩, ⟨none, [(5, false), (6, false)]⟩, ⟨some (79, true), [(7, false), (8, false)]⟩, ⟨none, [(9, false), (10, false)]⟩, ⟨some (83, true), [(11, false), (12, false)]⟩, ⟨none, [(13, false), (14, false)]⟩, ⟨some (87, true), [(15, false), (16, false)]⟩, ⟨none, [(17, false), (18, false)]⟩, ⟨some (91, true), [(19, false), (20, false)]⟩, ⟨none, [(21, false), (22, false)]⟩, ⟨some (95, true), [(23, false), (24, false)]⟩, ⟨none, [(25, false), (26, false)]⟩, ⟨some (99, true), [(27, false), (28, false)]⟩, ⟨none, [(29, false), (30, false)]⟩, ⟨some (103, true), [(31, false), (32, false)]⟩, ⟨none, [(33, false), (34, false)]⟩, ⟨some (107, true), [(35, false)]⟩, ⟨none, [(36, false), (37, false)]⟩, ⟨some (110, true), [(38, false), (39, false)]⟩, ⟨none, [(40, false), (41, false)]⟩, ⟨some (114, true), [(42, false), (43, false), (44, false)]⟩, ⟨none, [(45, false), (46, false)]⟩, ⟨some (119, true), [(47, false), (48, false), (49, false), (50, true), (51, false)]⟩, ⟨none, [(52, false), (53, false)]⟩, ⟨some (126, true), [(54, false), (55, false)]⟩, ⟨none, [(56, false), (57, false)]⟩, ⟨some (130, true), [(58, false), (59, false)]⟩, ⟨none, [(60, false), (61, false)]⟩, ⟨some (134, true), [(62, false), (63, true), (64, false)]⟩, ⟨none, [(65, false), (66, false)]⟩, ⟨some (139, true), [(67, false), (68, false), (69, false), (70, false)]⟩, ⟨none, [(71, false), (72, false)]⟩, ⟨some (145, true), [(73, false), (74, false), (75, false), (76, false), (77, true), (78, false)]⟩, ⟨none, [(79, false), (80, false)]⟩, ⟨some (153, true), [(81, true), (82, true), (83, true), (84, true), (85, false), (86, false), (87, false)]⟩, ⟨none, [(88, false), (89, false)]⟩])
  (.leaf)))))))))))

theorem s7_ok {Ψ : AVal → Heap → Prop} {h : Heap} (H : s7 Ψ  h) : ACalls prog 7 [] h Ψ :=
  calls_of_evF func7 (by kernel_rfl) (by kernel_rfl) (by kernel_rfl)
    (Eq.mpr (by as_aux_lemma => kernel_rfl : oblF prog f7 (s7_A Ψ) Ψ = (True ∧ True ∧ True ∧ True ∧ True ∧ True ∧ True ∧ True ∧ True ∧ True ∧ True ∧ True)) ⟨trivial, ⟨trivial, ⟨trivial, ⟨trivial, ⟨trivial, ⟨trivial, ⟨trivial, ⟨trivial, ⟨trivial, ⟨trivial, ⟨trivial, trivial⟩⟩⟩⟩⟩⟩⟩⟩⟩⟩⟩)
    (Eq.mpr (by as_aux_lemma => kernel_rfl : evF prog f7 (s7_A Ψ) Ψ [] h = s7 Ψ  h) H)

/- 9 dictum/dictumref03.Ints -/
abbrev s9l1_T := AVal → AVal → Int → Heap → Prop
def s9l1_R (F : s9l1_T) (l : List AVal) (h : Heap) : Prop := J.cons l fun x0 l => J.cons l fun x1 l => J.cons l fun v l => J.int .i64 v fun x2 => J.nil l (F x0 x1 x2 h)
def s9l1_G (F : s9l1_T) (x0 x1 : AVal) (x2 : Int) (h : Heap) : Prop := gJ [.any, .any, .int .i64] [x0, x1, (.int .i64 x2)] h (s9l1_R F)
def s9l1_E (F : Nat → s9l1_T) (x0 x1 : AVal) (x2 : Int) (h : Heap) : Prop := gJ [.any, .any, .int .i64] [x0, x1, (.int .i64 x2)] h (fun l h => ∃ n, s9l1_R (F n) l h)
theorem s9l1_go {F : s9l1_T} {x0 x1 : AVal} {x2 : Int} {h : Heap} (H : F x0 x1 x2 h) : s9l1_G F x0 x1 x2 h := gJ_plain rfl H
theorem s9l1_in {F : Nat → s9l1_T} {x0 x1 : AVal} {x2 : Int} {h : Heap} (n : Nat) (H : F n x0 x1 x2 h) : s9l1_E F x0 x1 x2 h := gJ_plain rfl ⟨n, H⟩

def s9l1 (Ψ : AVal → Heap → Prop) : Nat → s9l1_T
  | 0, _, _, _, _ => False
  | n2 + 1, a1, b1, i, h =>
    lenN a1 fun n3 =>
    ifT (decide (i < n3)) (
      ixS 1 a1 i fun p =>
      ld1 h p fun v =>
      tInt .i64 v fun v1 =>
      ixS 1 b1 i fun p1 =>
      ld1 h p1 fun v2 =>
      tInt .i64 v2 fun v3 =>
      ifT (v1 != v3) (
        retG (.bool false) h Ψ) (
        rg (i + 1) (
          s9l1_G (s9l1 Ψ n2) a1 b1 (i + 1) h))) (
      retG (.bool true) h Ψ)

def s9 (Ψ : AVal → Heap → Prop) (a : AVal) (b : AVal) (h : Heap) : Prop :=
  lenN a fun n =>
  lenN b fun n1 =>
  ifT (n != n1) (
    retG (.bool false) h Ψ) (
    s9l1_E (s9l1 Ψ) a b 0 h)

def s9_A (Ψ : AVal → Heap → Prop) : Ann :=
  .seq (rA 1)
  (.seq (.seq (rA 5)
  (.cond (.seq (rA 1)
  (.leaf))
  (.leaf)))
  (.seq (.seq (rA 1)
  (.block (.loop [(0, .any), (1, .any), (5, .int .i64)] (fun n l h => s9l1_R (s9l1 Ψ n) l h) (fun L1 =>
  .seq (.seq (rA 4)
  (.cond (.leaf)
  (.leaf)))
  (.seq (.block (.seq (.draw [(0, false), (1, false), (2, false), (3, false), (4, false), (5, false), (6, false), (7, false), (8, false)] [0, 0, 3, 7, 0, 0, 48, 112, 255])
  (.cond (.seq (rA 1)
  (.leaf))
  (.leaf))))
  (rA 3))))))
  (.seq (rA 1)
  (.leaf))))

theorem s9_ok {Ψ : AVal → Heap → Prop} {a : AVal} {b : AVal} {h : Heap} (H : s9 Ψ a b h) : ACalls prog 9 [a, b] h Ψ :=
  calls_of_evF func9 (by kernel_rfl) (by kernel_rfl) (by kernel_rfl)
    (Eq.mpr (by as_aux_lemma => kernel_rfl : oblF prog f9 (s9_A Ψ) Ψ = (True ∧ (True ∧ (True ∧ True) ∧ True) ∧ (True ∧ (∀ (h : Heap) (x0 x1 : AVal) (x2 : Int), ON (s9l1 Ψ 0 x0 x1 x2 h)) ∧ ∀ n1 : Nat, (∀ (h : Heap) (x0 x1 : AVal) (x2 : Int), OI (s9l1 Ψ (n1 + 1) x0 x1 x2 h)) ∧ ((True ∧ True ∧ True) ∧ (True ∧ (True ∧ True) ∧ True) ∧ True)) ∧ True ∧ True)) ⟨trivial, ⟨⟨trivial, ⟨⟨trivial, trivial⟩, trivial⟩⟩, ⟨⟨trivial, ⟨fun _ _ _ _ H => H, fun _ => ⟨fun _ _ _ _ H => H, ⟨⟨trivial, ⟨trivial, trivial⟩⟩, ⟨⟨trivial, ⟨⟨trivial, trivial⟩, trivial⟩⟩, trivial⟩⟩⟩⟩⟩, ⟨trivial, trivial⟩⟩⟩⟩)
    (Eq.mpr (by as_aux_lemma => kernel_rfl : evF prog f9 (s9_A Ψ) Ψ [a, b] h = s9 Ψ a b h) H)

/- 11 dictum/dictumref23.Check -/
def s11 (Ψ : AVal → Heap → Prop) (a_Leq : AVal) (h : Heap) : Prop :=
  callG prog 20 [(.agg [a_Leq])] h fun v h_ =>
  tTup v fun l_ =>
  tCons l_ fun v1 l_1 =>
  tCons l_1 fun v2 l_2 =>
  tBool v2 fun v3 =>
  tNil l_2 (
    ifT (!v3) (
      retG (.int .i64 230) h_ Ψ) (
      retG (.int .i64 0) h_ Ψ))

def s11_A (Ψ : AVal → Heap → Prop) : Ann :=
  .seq (.reg [⟨none, [(0, true), (1, false)]⟩])
  (.seq (rA 7)
  (.seq (.seq (rA 2)
  (.cond (.seq (rA 1)
  (.leaf))
  (.leaf)))
  (.seq (rA 1)
  (.leaf))))

theorem s11_ok {Ψ : AVal → Heap → Prop} {a_Leq : AVal} {h : Heap} (H : s11 Ψ a_Leq h) : ACalls prog 11 [(.agg [a_Leq])] h Ψ :=
  calls_of_evF func11 (by kernel_rfl) (by kernel_rfl) (by kernel_rfl)
    (Eq.mpr (by as_aux_lemma => kernel_rfl : oblF prog f11 (s11_A Ψ) Ψ = (True ∧ True ∧ (True ∧ (True ∧ True) ∧ True) ∧ True ∧ True)) ⟨trivial, ⟨trivial, ⟨⟨trivial, ⟨⟨trivial, trivial⟩, trivial⟩⟩, ⟨trivial, trivial⟩⟩⟩⟩)
    (Eq.mpr (by as_aux_lemma => kernel_rfl : evF prog f11 (s11_A Ψ) Ψ [(.agg [a_Leq])] h = s11 Ψ a_Leq h) H)

/- 13 dictum/heyting.Imp -/
def s13 (Ψ : AVal → Heap → Prop) (a_Leq : AVal) (x : Int) (y : Int) (h : Heap) : Prop :=
  callG prog 23 [(.agg [a_Leq]), (.lsl 1 [(.int .i64 x), (.int .i64 y)])] h fun v h_ =>
  tTup v fun l_ =>
  tCons l_ fun v1 l_1 =>
  tCons l_1 fun v2 l_2 =>
  tInt .i64 v2 fun v3 =>
  tNil l_2 (
    tAgg v1 fun l_3 =>
    tCons l_3 fun v4 l_4 =>
    tInt .i64 v4 fun v5 =>
    tCons l_4 fun v6 l_5 =>
    tNil l_5 (
      Sym.newRow 2 [(.agg [(.int .i64 0), .nilfunc])] h_ fun r h_1 =>
      st false h_1 (.ptr r 0 0) [(.int .i64 v5), v6] fun h_2 =>
      ifT (v3 != 0) (
        retG (.tuple [(.int .i64 0), (.int .i64 v3)]) h_2 Ψ) (
        ldN 2 h_2 (.ptr r 0 0) fun l_6 =>
        tCons l_6 fun v7 l_7 =>
        tInt .i64 v7 fun v8 =>
        tCons l_7 fun v9 l_8 =>
        tNil l_8 (
          callG prog 31 [(.agg [(.int .i64 v8), v9]), (.int .i64 x), (.int .i64 y)] h_2 fun v10 h_3 =>
          tInt .i64 v10 fun v11 =>
          retG (.tuple [(.int .i64 v11), (.int .i64 0)]) h_3 Ψ))))

def s13_A (Ψ : AVal → Heap → Prop) : Ann :=
  .seq (.reg [⟨none, [(0, true), (1, false), (2, false)]⟩])
  (.seq (.reg [⟨none, [(0, false), (1, false), (2, false), (3, true), (4, false), (5, false), (6, false), (7, false), (8, false), (9, false), (10, false)]⟩])
  (.seq (.seq (rA 2)
  (.cond (.seq (rA 3)
  (.leaf))
  (.leaf)))
  (.seq (rA 6)
  (.leaf))))

theorem s13_ok {Ψ : AVal → Heap → Prop} {a_Leq : AVal} {x : Int} {y : Int} {h : Heap} (H : s13 Ψ a_Leq x y h) : ACalls prog 13 [(.agg [a_Leq]), (.int .i64 x), (.int .i64 y)] h Ψ :=
  calls_of_evF func13 (by kernel_rfl) (by kernel_rfl) (by kernel_rfl)
    (Eq.mpr (by as_aux_lemma => kernel_rfl : oblF prog f13 (s13_A Ψ) Ψ = (True ∧ True ∧ (True ∧ (True ∧ True) ∧ True) ∧ True ∧ True)) ⟨trivial, ⟨trivial, ⟨⟨trivial, ⟨⟨trivial, trivial⟩, trivial⟩⟩, ⟨trivial, trivial⟩⟩⟩⟩)
    (Eq.mpr (by as_aux_lemma => kernel_rfl : evF prog f13 (s13_A Ψ) Ψ [(.agg [a_Leq]), (.int .i64 x), (.int .i64 y)] h = s13 Ψ a_Leq x y h) H)

/- 15 dictum/heyting.Join -/
def s15 (Ψ : AVal → Heap → Prop) (a_Leq : AVal) (x : Int) (y : Int) (h : Heap) : Prop :=
  callG prog 23 [(.agg [a_Leq]), (.lsl 1 [(.int .i64 x), (.int .i64 y)])] h fun v h_ =>
  tTup v fun l_ =>
  tCons l_ fun v1 l_1 =>
  tCons l_1 fun v2 l_2 =>
  tInt .i64 v2 fun v3 =>
  tNil l_2 (
    tAgg v1 fun l_3 =>
    tCons l_3 fun v4 l_4 =>
    tInt .i64 v4 fun v5 =>
    tCons l_4 fun v6 l_5 =>
    tNil l_5 (
      Sym.newRow 2 [(.agg [(.int .i64 0), .nilfunc])] h_ fun r h_1 =>
      st false h_1 (.ptr r 0 0) [(.int .i64 v5), v6] fun h_2 =>
      ifT (v3 != 0) (
        retG (.tuple [(.int .i64 0), (.int .i64 v3)]) h_2 Ψ) (
        ldN 2 h_2 (.ptr r 0 0) fun l_6 =>
        tCons l_6 fun v7 l_7 =>
        tInt .i64 v7 fun v8 =>
        tCons l_7 fun v9 l_8 =>
        tNil l_8 (
          callG prog 25 [(.agg [(.int .i64 v8), v9]), (.int .i64 x), (.int .i64 y)] h_2 fun v10 h_3 =>
          tTup v10 fun l_9 =>
          tCons l_9 fun v11 l_10 =>
          tInt .i64 v11 fun v12 =>
          tCons l_10 fun v13 l_11 =>
          tBool v13 fun v14 =>
          tNil l_11 (
            retG (.tuple [(.int .i64 v12), (.int .i64 0)]) h_3 Ψ)))))

def s15_A (Ψ : AVal → Heap → Prop) : Ann :=
  .seq (.reg [⟨none, [(0, true), (1, false), (2, false)]⟩])
  (.seq (.reg [⟨none, [(0, false), (1, false), (2, false), (3, true), (4, false), (5, false), (6, false), (7, false), (8, false), (9, false), (10, false)]⟩])
  (.seq (.seq (rA 2)
  (.cond (.seq (rA 3)
  (.leaf))
  (.leaf)))
  (.seq (rA 9)
  (.seq (rA 3)
  (.leaf)))))

theorem s15_ok {Ψ : AVal → Heap → Prop} {a_Leq : AVal} {x : Int} {y : Int} {h : Heap} (H : s15 Ψ a_Leq x y h) : ACalls prog 15 [(.agg [a_Leq]), (.int .i64 x), (.int .i64 y)] h Ψ :=
  calls_of_evF func15 (by kernel_rfl) (by kernel_rfl) (by kernel_rfl)
    (Eq.mpr (by as_aux_lemma => kernel_rfl : oblF prog f15 (s15_A Ψ) Ψ = (True ∧ True ∧ (True ∧ (True ∧ True) ∧ True) ∧ True ∧ True ∧ True)) ⟨trivial, ⟨trivial, ⟨⟨trivial, ⟨⟨trivial, trivial⟩, trivial⟩⟩, ⟨trivial, ⟨trivial, trivial⟩⟩⟩⟩⟩)
    (Eq.mpr (by as_aux_lemma => kernel_rfl : evF prog f15 (s15_A Ψ) Ψ [(.agg [a_Leq]), (.int .i64 x), (.int .i64 y)] h = s15 Ψ a_Leq x y h) H)

/- 17 dictum/heyting.Bounds -/
def s17 (Ψ : AVal → Heap → Prop) (a_Leq : AVal) (h : Heap) : Prop :=
  callG prog 23 [(.agg [a_Leq]), .nilsl] h fun v h_ =>
  tTup v fun l_ =>
  tCons l_ fun v1 l_1 =>
  tCons l_1 fun v2 l_2 =>
  tInt .i64 v2 fun v3 =>
  tNil l_2 (
    tAgg v1 fun l_3 =>
    tCons l_3 fun v4 l_4 =>
    tInt .i64 v4 fun v5 =>
    tCons l_4 fun v6 l_5 =>
    tNil l_5 (
      Sym.newRow 2 [(.agg [(.int .i64 0), .nilfunc])] h_ fun r h_1 =>
      st false h_1 (.ptr r 0 0) [(.int .i64 v5), v6] fun h_2 =>
      ifT (v3 != 0) (
        retG (.tuple [(.int .i64 0), (.int .i64 0), (.int .i64 v3)]) h_2 Ψ) (
        ldN 2 h_2 (.ptr r 0 0) fun l_6 =>
        tCons l_6 fun v7 l_7 =>
        tInt .i64 v7 fun v8 =>
        tCons l_7 fun v9 l_8 =>
        tNil l_8 (
          callG prog 24 [(.agg [(.int .i64 v8), v9])] h_2 fun v10 h_3 =>
          tTup v10 fun l_9 =>
          tCons l_9 fun v11 l_10 =>
          tInt .i64 v11 fun v12 =>
          tCons l_10 fun v13 l_11 =>
          tInt .i64 v13 fun v14 =>
          tNil l_11 (
            retG (.tuple [(.int .i64 v12), (.int .i64 v14), (.int .i64 0)]) h_3 Ψ)))))

def s17_A (Ψ : AVal → Heap → Prop) : Ann :=
  .seq (.reg [⟨none, [(0, true), (1, false), (2, false), (3, false)]⟩])
  (.seq (rA 8)
  (.seq (.seq (rA 2)
  (.cond (.seq (rA 4)
  (.leaf))
  (.leaf)))
  (.seq (rA 7)
  (.seq (rA 5)
  (.leaf)))))

theorem s17_ok {Ψ : AVal → Heap → Prop} {a_Leq : AVal} {h : Heap} (H : s17 Ψ a_Leq h) : ACalls prog 17 [(.agg [a_Leq])] h Ψ :=
  calls_of_evF func17 (by kernel_rfl) (by kernel_rfl) (by kernel_rfl)
    (Eq.mpr (by as_aux_lemma => kernel_rfl : oblF prog f17 (s17_A Ψ) Ψ = (True ∧ True ∧ (True ∧ (True ∧ True) ∧ True) ∧ True ∧ True ∧ True)) ⟨trivial, ⟨trivial, ⟨⟨trivial, ⟨⟨trivial, trivial⟩, trivial⟩⟩, ⟨trivial, ⟨trivial, trivial⟩⟩⟩⟩⟩)
    (Eq.mpr (by as_aux_lemma => kernel_rfl : evF prog f17 (s17_A Ψ) Ψ [(.agg [a_Leq])] h = s17 Ψ a_Leq h) H)

/- 19 dictum/dictumref23.Boolean -/
abbrev s19l1_T := AVal → Int → Int → Int → Heap → Prop
def s19l1_R (F : s19l1_T) (l : List AVal) (h : Heap) : Prop := J.cons l fun x0 l => J.cons l fun v l => J.int .i64 v fun x1 => J.cons l fun v l => J.int .i64 v fun x2 => J.cons l fun v l => J.int .i64 v fun x3 => J.nil l (F x0 x1 x2 x3 h)
def s19l1_G (F : s19l1_T) (x0 : AVal) (x1 x2 x3 : Int) (h : Heap) : Prop := gJ [.any, .int .i64, .int .i64, .int .i64] [x0, (.int .i64 x1), (.int .i64 x2), (.int .i64 x3)] h (s19l1_R F)
def s19l1_E (F : Nat → s19l1_T) (x0 : AVal) (x1 x2 x3 : Int) (h : Heap) : Prop := gJ [.any, .int .i64, .int .i64, .int .i64] [x0, (.int .i64 x1), (.int .i64 x2), (.int .i64 x3)] h (fun l h => ∃ n, s19l1_R (F n) l h)
theorem s19l1_go {F : s19l1_T} {x0 : AVal} {x1 x2 x3 : Int} {h : Heap} (H : F x0 x1 x2 x3 h) : s19l1_G F x0 x1 x2 x3 h := gJ_plain rfl H
theorem s19l1_in {F : Nat → s19l1_T} {x0 : AVal} {x1 x2 x3 : Int} {h : Heap} (n : Nat) (H : F n x0 x1 x2 x3 h) : s19l1_E F x0 x1 x2 x3 h := gJ_plain rfl ⟨n, H⟩

def s19l1 (Ψ : AVal → Heap → Prop) : Nat → s19l1_T
  | 0, _, _, _, _, _ => False
  | n + 1, h_2, low, high, x, h =>
    nilCheckA h_2 fun p =>
    addOff p 0 fun p1 =>
    ld1 h p1 fun v9 =>
    lenN v9 fun n1 =>
    ifT (decide (x < n1)) (
      nilCheckA h_2 fun p2 =>
      addOff p2 2 fun p3 =>
      ld1 h p3 fun v10 =>
      ixS 1 v10 x fun p4 =>
      ld1 h p4 fun v11 =>
      callG prog 32 [h_2, (.int .i64 x), (.int .i64 low)] h fun v12 h_3 =>
      tInt .i64 v12 fun v13 =>
      (ld1 h_3 p4 fun v14 =>
      v14 = v11) ∧
      (ld1 h_3 p3 fun v15 =>
      v15 = v10) ∧
      ixS 1 v11 v13 fun p5 =>
      ld1 h_3 p5 fun v16 =>
      tInt .i64 v16 fun v17 =>
      ifT (v17 != high) (
        retG (.tuple [(.bool false), (.int .i64 0)]) h_3 Ψ) (
        rg (x + 1) (
          s19l1_G (s19l1 Ψ n) h_2 low high (x + 1) h_3))) (
      retG (.tuple [(.bool true), (.int .i64 0)]) h Ψ)

def s19 (Ψ : AVal → Heap → Prop) (a_Leq : AVal) (h : Heap) : Prop :=
  callG prog 20 [(.agg [a_Leq])] h fun v h_ =>
  tTup v fun l_ =>
  tCons l_ fun v1 l_1 =>
  tCons l_1 fun v2 l_2 =>
  tBool v2 fun v3 =>
  tNil l_2 (
    ifT (!v3) (
      retG (.tuple [(.bool false), (.int .i64 230)]) h_ Ψ) (
      callG prog 22 [v1] h_ fun v4 h_1 =>
      tTup v4 fun l_3 =>
      tCons l_3 fun v5 l_4 =>
      tInt .i64 v5 fun v6 =>
      tCons l_4 fun v7 l_5 =>
      tInt .i64 v7 fun v8 =>
      tNil l_5 (
        s19l1_E (s19l1 Ψ) v1 v6 v8 0 h_1)))

def s19_A (Ψ : AVal → Heap → Prop) : Ann :=
  .seq (.reg [⟨none, [(0, true), (1, false), (2, false)]⟩])
  (.seq (rA 7)
  (.seq (.seq (rA 2)
  (.cond (.seq (rA 2)
  (.leaf))
  (.leaf)))
  (.seq (rA 7)
  (.seq (.seq (rA 1)
  (.block (.loop [(4, .any), (6, .int .i64), (7, .int .i64), (8, .int .i64)] (fun n l h => s19l1_R (s19l1 Ψ n) l h) (fun L1 =>
  .seq (.seq (rA 7)
  (.cond (.leaf)
  (.leaf)))
  (.seq (.block (.seq (.draw [(0, false), (1, false), (2, false), (3, false), (4, false), (5, false), (6, false), (7, false), (8, false), (9, false), (13, false), (10, false), (11, false), (12, false), (14, false)] [0, 1, 3, 7, 0, 31, 63, 0, 0, 0, 896, 2047, 4095, 0, 16383])
  (.cond (.seq (rA 2)
  (.leaf))
  (.leaf))))
  (rA 3))))))
  (.seq (rA 2)
  (.leaf))))))

theorem s19_ok {Ψ : AVal → Heap → Prop} {a_Leq : AVal} {h : Heap} (H : s19 Ψ a_Leq h) : ACalls prog 19 [(.agg [a_Leq])] h Ψ :=
  calls_of_evF func19 (by kernel_rfl) (by kernel_rfl) (by kernel_rfl)
    (Eq.mpr (by as_aux_lemma => kernel_rfl : oblF prog f19 (s19_A Ψ) Ψ = (True ∧ True ∧ (True ∧ (True ∧ True) ∧ True) ∧ True ∧ (True ∧ (∀ (h : Heap) (x0 : AVal) (x1 x2 x3 : Int), ON (s19l1 Ψ 0 x0 x1 x2 x3 h)) ∧ ∀ n1 : Nat, (∀ (h : Heap) (x0 : AVal) (x1 x2 x3 : Int), OI (s19l1 Ψ (n1 + 1) x0 x1 x2 x3 h)) ∧ ((True ∧ True ∧ True) ∧ (True ∧ (True ∧ True) ∧ True) ∧ True)) ∧ True ∧ True)) ⟨trivial, ⟨trivial, ⟨⟨trivial, ⟨⟨trivial, trivial⟩, trivial⟩⟩, ⟨trivial, ⟨⟨trivial, ⟨fun _ _ _ _ _ H => H, fun _ => ⟨fun _ _ _ _ _ H => H, ⟨⟨trivial, ⟨trivial, trivial⟩⟩, ⟨⟨trivial, ⟨⟨trivial, trivial⟩, trivial⟩⟩, trivial⟩⟩⟩⟩⟩, ⟨trivial, trivial⟩⟩⟩⟩⟩⟩)
    (Eq.mpr (by as_aux_lemma => kernel_rfl : evF prog f19 (s19_A Ψ) Ψ [(.agg [a_Leq])] h = s19 Ψ a_Leq h) H)

/- 21 dictum/dictumref23.Same -/
abbrev s21l1_T := AVal → AVal → Int → Heap → Prop
def s21l1_R (F : s21l1_T) (l : List AVal) (h : Heap) : Prop := J.cons l fun x0 l => J.cons l fun x1 l => J.cons l fun v l => J.int .i64 v fun x2 => J.nil l (F x0 x1 x2 h)
def s21l1_G (F : s21l1_T) (x0 x1 : AVal) (x2 : Int) (h : Heap) : Prop := gJ [.any, .any, .int .i64] [x0, x1, (.int .i64 x2)] h (s21l1_R F)
def s21l1_E (F : Nat → s21l1_T) (x0 x1 : AVal) (x2 : Int) (h : Heap) : Prop := gJ [.any, .any, .int .i64] [x0, x1, (.int .i64 x2)] h (fun l h => ∃ n, s21l1_R (F n) l h)
theorem s21l1_go {F : s21l1_T} {x0 x1 : AVal} {x2 : Int} {h : Heap} (H : F x0 x1 x2 h) : s21l1_G F x0 x1 x2 h := gJ_plain rfl H
theorem s21l1_in {F : Nat → s21l1_T} {x0 x1 : AVal} {x2 : Int} {h : Heap} (n : Nat) (H : F n x0 x1 x2 h) : s21l1_E F x0 x1 x2 h := gJ_plain rfl ⟨n, H⟩

abbrev s21l2_T := AVal → AVal → Int → Int → Heap → Prop
def s21l2_R (F : s21l2_T) (l : List AVal) (h : Heap) : Prop := J.cons l fun x0 l => J.cons l fun x1 l => J.cons l fun v l => J.int .i64 v fun x2 => J.cons l fun v l => J.int .i64 v fun x3 => J.nil l (F x0 x1 x2 x3 h)
def s21l2_G (F : s21l2_T) (x0 x1 : AVal) (x2 x3 : Int) (h : Heap) : Prop := gJ [.any, .any, .int .i64, .int .i64] [x0, x1, (.int .i64 x2), (.int .i64 x3)] h (s21l2_R F)
def s21l2_E (F : Nat → s21l2_T) (x0 x1 : AVal) (x2 x3 : Int) (h : Heap) : Prop := gJ [.any, .any, .int .i64, .int .i64] [x0, x1, (.int .i64 x2), (.int .i64 x3)] h (fun l h => ∃ n, s21l2_R (F n) l h)
theorem s21l2_go {F : s21l2_T} {x0 x1 : AVal} {x2 x3 : Int} {h : Heap} (H : F x0 x1 x2 x3 h) : s21l2_G F x0 x1 x2 x3 h := gJ_plain rfl H
theorem s21l2_in {F : Nat → s21l2_T} {x0 x1 : AVal} {x2 x3 : Int} {h : Heap} (n : Nat) (H : F n x0 x1 x2 x3 h) : s21l2_E F x0 x1 x2 x3 h := gJ_plain rfl ⟨n, H⟩

def s21l2 (Ψ : AVal → Heap → Prop) (L1 : s21l1_T) : Nat → s21l2_T
  | 0, _, _, _, _, _ => False
  | n6 + 1, a1, b1, x1, y, h =>
    addOff a1 0 fun p5 =>
    ld1 h p5 fun v5 =>
    ixS 1 v5 x1 fun p6 =>
    ld1 h p6 fun v6 =>
    lenN v6 fun n7 =>
    ifT (decide (y < n7)) (
      addOff a1 0 fun p7 =>
      ld1 h p7 fun v7 =>
      ixS 1 v7 x1 fun p8 =>
      ld1 h p8 fun v8 =>
      ixS 1 v8 y fun p9 =>
      ld1 h p9 fun v9 =>
      tBool v9 fun v10 =>
      addOff b1 0 fun p10 =>
      ld1 h p10 fun v11 =>
      ixS 1 v11 x1 fun p11 =>
      ld1 h p11 fun v12 =>
      ixS 1 v12 y fun p12 =>
      ld1 h p12 fun v13 =>
      tBool v13 fun v14 =>
      eqQ prog 4 (.bool v10) (.bool v14) fun b2 =>
      ifT (!b2) (
        retG (.bool false) h Ψ) (
        rg (y + 1) (
          s21l2_G (s21l2 Ψ L1 n6) a1 b1 x1 (y + 1) h))) (
      rg (x1 + 1) (
        L1 a1 b1 (x1 + 1) h))

def s21l1 (Ψ : AVal → Heap → Prop) : Nat → s21l1_T
  | 0, _, _, _, _ => False
  | n2 + 1, a, b, x, h =>
    addOff a 0 fun p =>
    ld1 h p fun v =>
    lenN v fun n3 =>
    ifT (decide (x < n3)) (
      addOff a 0 fun p1 =>
      ld1 h p1 fun v1 =>
      ixS 1 v1 x fun p2 =>
      ld1 h p2 fun v2 =>
      lenN v2 fun n4 =>
      addOff b 0 fun p3 =>
      ld1 h p3 fun v3 =>
      ixS 1 v3 x fun p4 =>
      ld1 h p4 fun v4 =>
      lenN v4 fun n5 =>
      ifT (n4 != n5) (
        retG (.bool false) h Ψ) (
        s21l2_E (s21l2 Ψ (s21l1_G (s21l1 Ψ n2))) a b x 0 h)) (
      retG (.bool true) h Ψ)

def s21 (Ψ : AVal → Heap → Prop) (a_Leq : AVal) (b_Leq : AVal) (h : Heap) : Prop :=
  lenN a_Leq fun n =>
  lenN b_Leq fun n1 =>
  ifT (n != n1) (
    retG (.bool false) h Ψ) (
    s21l1_E (s21l1 Ψ) (.lptr [a_Leq]) (.lptr [b_Leq]) 0 h)

def s21_A (Ψ : AVal → Heap → Prop) : Ann :=
  .seq (.reg [⟨none, [(0, true), (1, true), (2, false)]⟩])
  (.seq (.seq (rA 7)
  (.cond (.seq (rA 1)
  (.leaf))
  (.leaf)))
  (.seq (.seq (rA 1)
  (.block (.loop [(2, .any), (3, .any), (5, .int .i64)] (fun n l h => s21l1_R (s21l1 Ψ n) l h) (fun L1 =>
  .seq (.seq (rA 5)
  (.cond (.leaf)
  (.leaf)))
  (.seq (.block (.seq (.seq (.draw [(0, false), (1, false), (2, false), (3, false), (4, false), (5, false), (6, false), (7, false), (8, false), (9, false), (10, false), (11, false), (12, false)] [0, 1, 0, 7, 15, 31, 0, 64, 0, 448, 960, 1984, 4095])
  (.cond (.seq (rA 1)
  (.leaf))
  (.leaf)))
  (.seq (rA 1)
  (.block (.loop [(2, .any), (3, .any), (5, .int .i64), (6, .int .i64)] (fun n l h => s21l2_R (s21l2 Ψ (fun y0 y1 y2 h => L1 [y0, y1, (.int .i64 y2)] h) n) l h) (fun L2 =>
  .seq (.seq (rA 8)
  (.cond (.leaf)
  (.leaf)))
  (.seq (.block (.seq (.draw [(0, false), (1, false), (2, false), (3, false), (4, false), (5, false), (6, false), (7, false), (8, false), (9, false), (10, false), (11, false), (12, false), (13, false), (14, false), (15, false), (16, false)] [0, 1, 0, 7, 15, 0, 63, 127, 0, 256, 0, 1792, 3840, 0, 16128, 32512, 65535])
  (.cond (.seq (rA 1)
  (.leaf))
  (.leaf))))
  (rA 3))))))))
  (rA 3))))))
  (.seq (rA 1)
  (.leaf))))

theorem s21_ok {Ψ : AVal → Heap → Prop} {a_Leq : AVal} {b_Leq : AVal} {h : Heap} (H : s21 Ψ a_Leq b_Leq h) : ACalls prog 21 [(.agg [a_Leq]), (.agg [b_Leq])] h Ψ :=
  calls_of_evF func21 (by kernel_rfl) (by kernel_rfl) (by kernel_rfl)
    (Eq.mpr (by as_aux_lemma => kernel_rfl : oblF prog f21 (s21_A Ψ) Ψ = (True ∧ (True ∧ (True ∧ True) ∧ True) ∧ (True ∧ (∀ (h : Heap) (x0 x1 : AVal) (x2 : Int), ON (s21l1 Ψ 0 x0 x1 x2 h)) ∧ ∀ n1 : Nat, (∀ (h : Heap) (x0 x1 : AVal) (x2 : Int), OI (s21l1 Ψ (n1 + 1) x0 x1 x2 h)) ∧ ((True ∧ True ∧ True) ∧ ((True ∧ (True ∧ True) ∧ True) ∧ True ∧ (∀ (h : Heap) (x0 x1 : AVal) (x2 x3 : Int), ON (s21l2 Ψ (s21l1_G (s21l1 Ψ n1)) 0 x0 x1 x2 x3 h)) ∧ ∀ n2 : Nat, (∀ (h : Heap) (x0 x1 : AVal) (x2 x3 : Int), OI (s21l2 Ψ (s21l1_G (s21l1 Ψ n1)) (n2 + 1) x0 x1 x2 x3 h)) ∧ ((True ∧ True ∧ True) ∧ (True ∧ (True ∧ True) ∧ True) ∧ True)) ∧ True)) ∧ True ∧ True)) ⟨trivial, ⟨⟨trivial, ⟨⟨trivial, trivial⟩, trivial⟩⟩, ⟨⟨trivial, ⟨fun _ _ _ _ H => H, fun _ => ⟨fun _ _ _ _ H => H, ⟨⟨trivial, ⟨trivial, trivial⟩⟩, ⟨⟨⟨trivial, ⟨⟨trivial, trivial⟩, trivial⟩⟩, ⟨trivial, ⟨fun _ _ _ _ _ H => H, fun _ => ⟨fun _ _ _ _ _ H => H, ⟨⟨trivial, ⟨trivial, trivial⟩⟩, ⟨⟨trivial, ⟨⟨trivial, trivial⟩, trivial⟩⟩, trivial⟩⟩⟩⟩⟩⟩, trivial⟩⟩⟩⟩⟩, ⟨trivial, trivial⟩⟩⟩⟩)
    (Eq.mpr (by as_aux_lemma => kernel_rfl : evF prog f21 (s21_A Ψ) Ψ [(.agg [a_Leq]), (.agg [b_Leq])] h = s21 Ψ a_Leq b_Leq h) H)

/- 23 dictum/heyting.look -/
abbrev s23l2_T := AVal → AVal → AVal → AVal → AVal → AVal → Int → Int → Heap → Prop
def s23l2_R (F : s23l2_T) (l : List AVal) (h : Heap) : Prop := J.cons l fun x0 l => J.cons l fun x1 l => J.cons l fun x2 l => J.cons l fun x3 l => J.cons l fun x4 l => J.cons l fun x5 l => J.cons l fun v l => J.int .i64 v fun x6 => J.cons l fun v l => J.int .i64 v fun x7 => J.nil l (F x0 x1 x2 x3 x4 x5 x6 x7 h)
def s23l2_G (F : s23l2_T) (x0 x1 x2 x3 x4 x5 : AVal) (x6 x7 : Int) (h : Heap) : Prop := gJ [.any, .any, .any, .any, .any, .any, .int .i64, .int .i64] [x0, x1, x2, x3, x4, x5, (.int .i64 x6), (.int .i64 x7)] h (s23l2_R F)
def s23l2_E (F : Nat → s23l2_T) (x0 x1 x2 x3 x4 x5 : AVal) (x6 x7 : Int) (h : Heap) : Prop := gJ [.any, .any, .any, .any, .any, .any, .int .i64, .int .i64] [x0, x1, x2, x3, x4, x5, (.int .i64 x6), (.int .i64 x7)] h (fun l h => ∃ n, s23l2_R (F n) l h)
theorem s23l2_go {F : s23l2_T} {x0 x1 x2 x3 x4 x5 : AVal} {x6 x7 : Int} {h : Heap} (H : F x0 x1 x2 x3 x4 x5 x6 x7 h) : s23l2_G F x0 x1 x2 x3 x4 x5 x6 x7 h := gJ_plain rfl H
theorem s23l2_in {F : Nat → s23l2_T} {x0 x1 x2 x3 x4 x5 : AVal} {x6 x7 : Int} {h : Heap} (n : Nat) (H : F n x0 x1 x2 x3 x4 x5 x6 x7 h) : s23l2_E F x0 x1 x2 x3 x4 x5 x6 x7 h := gJ_plain rfl ⟨n, H⟩

abbrev s23l3_T := AVal → AVal → AVal → AVal → AVal → AVal → Int → Int → Int → Int → Int → Heap → Prop
def s23l3_R (F : s23l3_T) (l : List AVal) (h : Heap) : Prop := J.cons l fun x0 l => J.cons l fun x1 l => J.cons l fun x2 l => J.cons l fun x3 l => J.cons l fun x4 l => J.cons l fun x5 l => J.cons l fun v l => J.int .i64 v fun x6 => J.cons l fun v l => J.int .i64 v fun x7 => J.cons l fun v l => J.int .i64 v fun x8 => J.cons l fun v l => J.int .i64 v fun x9 => J.cons l fun v l => J.int .i64 v fun x10 => J.nil l (F x0 x1 x2 x3 x4 x5 x6 x7 x8 x9 x10 h)
def s23l3_G (F : s23l3_T) (x0 x1 x2 x3 x4 x5 : AVal) (x6 x7 x8 x9 x10 : Int) (h : Heap) : Prop := gJ [.any, .any, .any, .any, .any, .any, .int .i64, .int .i64, .int .i64, .int .i64, .int .i64] [x0, x1, x2, x3, x4, x5, (.int .i64 x6), (.int .i64 x7), (.int .i64 x8), (.int .i64 x9), (.int .i64 x10)] h (s23l3_R F)
def s23l3_E (F : Nat → s23l3_T) (x0 x1 x2 x3 x4 x5 : AVal) (x6 x7 x8 x9 x10 : Int) (h : Heap) : Prop := gJ [.any, .any, .any, .any, .any, .any, .int .i64, .int .i64, .int .i64, .int .i64, .int .i64] [x0, x1, x2, x3, x4, x5, (.int .i64 x6), (.int .i64 x7), (.int .i64 x8), (.int .i64 x9), (.int .i64 x10)] h (fun l h => ∃ n, s23l3_R (F n) l h)
theorem s23l3_go {F : s23l3_T} {x0 x1 x2 x3 x4 x5 : AVal} {x6 x7 x8 x9 x10 : Int} {h : Heap} (H : F x0 x1 x2 x3 x4 x5 x6 x7 x8 x9 x10 h) : s23l3_G F x0 x1 x2 x3 x4 x5 x6 x7 x8 x9 x10 h := gJ_plain rfl H
theorem s23l3_in {F : Nat → s23l3_T} {x0 x1 x2 x3 x4 x5 : AVal} {x6 x7 x8 x9 x10 : Int} {h : Heap} (n : Nat) (H : F n x0 x1 x2 x3 x4 x5 x6 x7 x8 x9 x10 h) : s23l3_E F x0 x1 x2 x3 x4 x5 x6 x7 x8 x9 x10 h := gJ_plain rfl ⟨n, H⟩

abbrev s23l4_T := AVal → AVal → AVal → AVal → AVal → AVal → Int → Int → Int → Int → Int → Int → Int → Int → Heap → Prop
def s23l4_R (F : s23l4_T) (l : List AVal) (h : Heap) : Prop := J.cons l fun x0 l => J.cons l fun x1 l => J.cons l fun x2 l => J.cons l fun x3 l => J.cons l fun x4 l => J.cons l fun x5 l => J.cons l fun v l => J.int .i64 v fun x6 => J.cons l fun v l => J.int .i64 v fun x7 => J.cons l fun v l => J.int .i64 v fun x8 => J.cons l fun v l => J.int .i64 v fun x9 => J.cons l fun v l => J.int .i64 v fun x10 => J.cons l fun v l => J.int .i64 v fun x11 => J.cons l fun v l => J.int .i64 v fun x12 => J.cons l fun v l => J.int .i64 v fun x13 => J.nil l (F x0 x1 x2 x3 x4 x5 x6 x7 x8 x9 x10 x11 x12 x13 h)
def s23l4_G (F : s23l4_T) (x0 x1 x2 x3 x4 x5 : AVal) (x6 x7 x8 x9 x10 x11 x12 x13 : Int) (h : Heap) : Prop := gJ [.any, .any, .any, .any, .any, .any, .int .i64, .int .i64, .int .i64, .int .i64, .int .i64, .int .i64, .int .i64, .int .i64] [x0, x1, x2, x3, x4, x5, (.int .i64 x6), (.int .i64 x7), (.int .i64 x8), (.int .i64 x9), (.int .i64 x10), (.int .i64 x11), (.int .i64 x12), (.int .i64 x13)] h (s23l4_R F)
def s23l4_E (F : Nat → s23l4_T) (x0 x1 x2 x3 x4 x5 : AVal) (x6 x7 x8 x9 x10 x11 x12 x13 : Int) (h : Heap) : Prop := gJ [.any, .any, .any, .any, .any, .any, .int .i64, .int .i64, .int .i64, .int .i64, .int .i64, .int .i64, .int .i64, .int .i64] [x0, x1, x2, x3, x4, x5, (.int .i64 x6), (.int .i64 x7), (.int .i64 x8), (.int .i64 x9), (.int .i64 x10), (.int .i64 x11), (.int .i64 x12), (.int .i64 x13)] h (fun l h => ∃ n, s23l4_R (F n) l h)
theorem s23l4_go {F : s23l4_T} {x0 x1 x2 x3 x4 x5 : AVal} {x6 x7 x8 x9 x10 x11 x12 x13 : Int} {h : Heap} (H : F x0 x1 x2 x3 x4 x5 x6 x7 x8 x9 x10 x11 x12 x13 h) : s23l4_G F x0 x1 x2 x3 x4 x5 x6 x7 x8 x9 x10 x11 x12 x13 h := gJ_plain rfl H
theorem s23l4_in {F : Nat → s23l4_T} {x0 x1 x2 x3 x4 x5 : AVal} {x6 x7 x8 x9 x10 x11 x12 x13 : Int} {h : Heap} (n : Nat) (H : F n x0 x1 x2 x3 x4 x5 x6 x7 x8 x9 x10 x11 x12 x13 h) : s23l4_E F x0 x1 x2 x3 x4 x5 x6 x7 x8 x9 x10 x11 x12 x13 h := gJ_plain rfl ⟨n, H⟩

def s23l4 (Ψ : AVal → Heap → Prop) (L2 : s23l2_T) (L3 : s23l3_T) : Nat → s23l4_T
  | 0, _, _, _, _, _, _, _, _, _, _, _, _, _, _, _ => False
  | n7 + 1, elems4, t4_3, n6, l_22, meets2, joins2, x1, y, t49_2, t50_2, t53_1, t54_1, t57, t58, h =>
    ifT (decide (t58 < t57)) (
      ixS 1 meets2 x1 fun p =>
      ld1 h p fun v28 =>
      ixS 1 joins2 y fun p1 =>
      ld1 h p1 fun v29 =>
      ixS 1 v29 t58 fun p2 =>
      ld1 h p2 fun v30 =>
      tInt .i64 v30 fun v31 =>
      ixS 1 v28 v31 fun p3 =>
      ld1 h p3 fun v32 =>
      tInt .i64 v32 fun v33 =>
      ixS 1 meets2 x1 fun p4 =>
      ld1 h p4 fun v34 =>
      ixS 1 v34 y fun p5 =>
      ld1 h p5 fun v35 =>
      tInt .i64 v35 fun v36 =>
      ixS 1 joins2 v36 fun p6 =>
      ld1 h p6 fun v37 =>
      ixS 1 meets2 x1 fun p7 =>
      ld1 h p7 fun v38 =>
      ixS 1 v38 t58 fun p8 =>
      ld1 h p8 fun v39 =>
      tInt .i64 v39 fun v40 =>
      ixS 1 v37 v40 fun p9 =>
      ld1 h p9 fun v41 =>
      tInt .i64 v41 fun v42 =>
      ifT (v33 != v42) (
        ldN 2 h l_22 fun l_23 =>
        tCons l_23 fun v43 l_24 =>
        tInt .i64 v43 fun v44 =>
        tCons l_24 fun v45 l_25 =>
        tNil l_25 (
          st false h t4_3 [(.int .i64 v44), v45] fun h_8 =>
          ldN 2 h_8 t4_3 fun l_26 =>
          tCons l_26 fun v46 l_27 =>
          tInt .i64 v46 fun v47 =>
          tCons l_27 fun v48 l_28 =>
          tNil l_28 (
            retG (.tuple [(.agg [(.int .i64 v47), v48]), (.int .i64 230)]) h_8 Ψ))) (
        rg (t58 + 1) (
          s23l4_G (s23l4 Ψ L2 L3 n7) elems4 t4_3 n6 l_22 meets2 joins2 x1 y t49_2 t50_2 t53_1 t54_1 t57 (t58 + 1) h))) (
      rg (t54_1 + 1) (
        L3 elems4 t4_3 n6 l_22 meets2 joins2 x1 t49_2 t50_2 t53_1 (t54_1 + 1) h))

def s23l3 (Ψ : AVal → Heap → Prop) (L2 : s23l2_T) : Nat → s23l3_T
  | 0, _, _, _, _, _, _, _, _, _, _, _, _ => False
  | n5 + 1, elems3, t4_2, n4, l_21, meets1, joins1, x, t49_1, t50_1, t53, t54, h =>
    ifT (decide (t54 < t53)) (
      ld1 h n4 fun v26 =>
      tInt .i64 v26 fun v27 =>
      s23l4_E (s23l4 Ψ L2 (s23l3_G (s23l3 Ψ L2 n5))) elems3 t4_2 n4 l_21 meets1 joins1 x t54 t49_1 t50_1 t53 t54 v27 0 h) (
      rg (t50_1 + 1) (
        L2 elems3 t4_2 n4 l_21 meets1 joins1 t49_1 (t50_1 + 1) h))

abbrev s23l5_T := AVal → AVal → AVal → AVal → Int → Int → Heap → Prop
def s23l5_R (F : s23l5_T) (l : List AVal) (h : Heap) : Prop := J.cons l fun x0 l => J.cons l fun x1 l => J.cons l fun x2 l => J.cons l fun x3 l => J.cons l fun v l => J.int .i64 v fun x4 => J.cons l fun v l => J.int .i64 v fun x5 => J.nil l (F x0 x1 x2 x3 x4 x5 h)
def s23l5_G (F : s23l5_T) (x0 x1 x2 x3 : AVal) (x4 x5 : Int) (h : Heap) : Prop := gJ [.any, .any, .any, .any, .int .i64, .int .i64] [x0, x1, x2, x3, (.int .i64 x4), (.int .i64 x5)] h (s23l5_R F)
def s23l5_E (F : Nat → s23l5_T) (x0 x1 x2 x3 : AVal) (x4 x5 : Int) (h : Heap) : Prop := gJ [.any, .any, .any, .any, .int .i64, .int .i64] [x0, x1, x2, x3, (.int .i64 x4), (.int .i64 x5)] h (fun l h => ∃ n, s23l5_R (F n) l h)
theorem s23l5_go {F : s23l5_T} {x0 x1 x2 x3 : AVal} {x4 x5 : Int} {h : Heap} (H : F x0 x1 x2 x3 x4 x5 h) : s23l5_G F x0 x1 x2 x3 x4 x5 h := gJ_plain rfl H
theorem s23l5_in {F : Nat → s23l5_T} {x0 x1 x2 x3 : AVal} {x4 x5 : Int} {h : Heap} (n : Nat) (H : F n x0 x1 x2 x3 x4 x5 h) : s23l5_E F x0 x1 x2 x3 x4 x5 h := gJ_plain rfl ⟨n, H⟩

def s23c6 (Ψ : AVal → Heap → Prop) (L5 : s23l5_T) (t4_5 n13 l_30 t98_1 : AVal) (t99_1 t100_1 : Int) (t110 : Bool) (h : Heap) : Prop :=
  ifT t110 (
    ldN 2 h l_30 fun l_31 =>
    tCons l_31 fun v51 l_32 =>
    tInt .i64 v51 fun v52 =>
    tCons l_32 fun v53 l_33 =>
    tNil l_33 (
      st false h t4_5 [(.int .i64 v52), v53] fun h_9 =>
      ldN 2 h_9 t4_5 fun l_34 =>
      tCons l_34 fun v54 l_35 =>
      tInt .i64 v54 fun v55 =>
      tCons l_35 fun v56 l_36 =>
      tNil l_36 (
        retG (.tuple [(.agg [(.int .i64 v55), v56]), (.int .i64 2)]) h_9 Ψ))) (
    rg (t100_1 + 1) (
      L5 t4_5 n13 l_30 t98_1 t99_1 (t100_1 + 1) h))

def s23l5 (Ψ : AVal → Heap → Prop) : Nat → s23l5_T
  | 0, _, _, _, _, _, _, _ => False
  | n12 + 1, t4_4, n11, l_29, t98, t99, t100, h =>
    ifT (decide (t100 < t99)) (
      ixS 1 t98 t100 fun p10 =>
      ld1 h p10 fun v49 =>
      tInt .i64 v49 fun v50 =>
      ifT (decide (v50 < 0)) (
        s23c6 Ψ (s23l5_G (s23l5 Ψ n12)) t4_4 n11 l_29 t98 t99 t100 true h) (
        ld1 h n11 fun v57 =>
        tInt .i64 v57 fun v58 =>
        s23c6 Ψ (s23l5_G (s23l5 Ψ n12)) t4_4 n11 l_29 t98 t99 t100 (decide (v58 ≤ v50)) h)) (
      ldN 2 h l_29 fun l_37 =>
      tCons l_37 fun v59 l_38 =>
      tInt .i64 v59 fun v60 =>
      tCons l_38 fun v61 l_39 =>
      tNil l_39 (
        st false h t4_4 [(.int .i64 v60), v61] fun h_10 =>
        ldN 2 h_10 t4_4 fun l_40 =>
        tCons l_40 fun v62 l_41 =>
        tInt .i64 v62 fun v63 =>
        tCons l_41 fun v64 l_42 =>
        tNil l_42 (
          retG (.tuple [(.agg [(.int .i64 v63), v64]), (.int .i64 0)]) h_10 Ψ)))

def s23l2 (Ψ : AVal → Heap → Prop) : Nat → s23l2_T
  | 0, _, _, _, _, _, _, _, _, _ => False
  | n3 + 1, elems2, t4_1, n2, l_20, meets, joins, t49, t50, h =>
    ifT (decide (t50 < t49)) (
      ld1 h n2 fun v24 =>
      tInt .i64 v24 fun v25 =>
      s23l3_E (s23l3 Ψ (s23l2_G (s23l2 Ψ n3))) elems2 t4_1 n2 l_20 meets joins t50 t49 t50 v25 0 h) (
      lenN elems2 fun n10 =>
      s23l5_E (s23l5 Ψ) t4_1 n2 l_20 elems2 n10 0 h)

def s23c1 (Ψ : AVal → Heap → Prop) (elems1 t4 n1 l_ : AVal) (t38 : Bool) (h : Heap) : Prop :=
  ifT t38 (
    ldN 2 h l_ fun l_1 =>
    tCons l_1 fun v2 l_2 =>
    tInt .i64 v2 fun v3 =>
    tCons l_2 fun v4 l_3 =>
    tNil l_3 (
      st false h t4 [(.int .i64 v3), v4] fun h_5 =>
      ldN 2 h_5 t4 fun l_4 =>
      tCons l_4 fun v5 l_5 =>
      tInt .i64 v5 fun v6 =>
      tCons l_5 fun v7 l_6 =>
      tNil l_6 (
        retG (.tuple [(.agg [(.int .i64 v6), v7]), (.int .i64 230)]) h_5 Ψ))) (
    ldN 2 h l_ fun l_7 =>
    tCons l_7 fun v8 l_8 =>
    tInt .i64 v8 fun v9 =>
    tCons l_8 fun v10 l_9 =>
    tNil l_9 (
      callG prog 39 [(.agg [(.int .i64 v9), v10])] h fun v11 h_6 =>
      tTup v11 fun l_10 =>
      tCons l_10 fun v12 l_11 =>
      tCons l_11 fun v13 l_12 =>
      tCons l_12 fun v14 l_13 =>
      tBool v14 fun v15 =>
      tNil l_13 (
        ifT (!v15) (
          ldN 2 h_6 l_ fun l_14 =>
          tCons l_14 fun v16 l_15 =>
          tInt .i64 v16 fun v17 =>
          tCons l_15 fun v18 l_16 =>
          tNil l_16 (
            st false h_6 t4 [(.int .i64 v17), v18] fun h_7 =>
            ldN 2 h_7 t4 fun l_17 =>
            tCons l_17 fun v19 l_18 =>
            tInt .i64 v19 fun v20 =>
            tCons l_18 fun v21 l_19 =>
            tNil l_19 (
              retG (.tuple [(.agg [(.int .i64 v20), v21]), (.int .i64 230)]) h_7 Ψ))) (
          ld1 h_6 n1 fun v22 =>
          tInt .i64 v22 fun v23 =>
          s23l2_E (s23l2 Ψ) elems1 t4 n1 l_ v12 v13 v23 0 h_6))))

def s23 (Ψ : AVal → Heap → Prop) (a_Leq : AVal) (elems : AVal) (h : Heap) : Prop :=
  Sym.newRow 2 [(.agg [(.int .i64 0), .nilfunc])] h fun r h_ =>
  lenN a_Leq fun n =>
  Sym.newRow 1 [(.int .i64 0)] h_ fun r1 h_1 =>
  st true h_1 (.ptr r1 0 0) [(.int .i64 n)] fun h_2 =>
  ld1 h_2 (.ptr r1 0 0) fun v =>
  tInt .i64 v fun v1 =>
  Sym.newRow 2 [(.agg [(.int .i64 0), .nilfunc])] h_2 fun r2 h_3 =>
  st false h_3 (.ptr r2 0 0) [(.int .i64 v1), (.func (.func 35) [] [(.lptr [a_Leq])])] fun h_4 =>
  ld1 h_4 (.ptr r1 0 0) fun v65 =>
  tInt .i64 v65 fun v66 =>
  ifT (decide (v66 < 1)) (
    s23c1 Ψ elems (.ptr r 0 0) (.ptr r1 0 0) (.ptr r2 0 0) true h_4) (
    ld1 h_4 (.ptr r1 0 0) fun v67 =>
    tInt .i64 v67 fun v68 =>
    ifT (decide (64 < v68)) (
      s23c1 Ψ elems (.ptr r 0 0) (.ptr r1 0 0) (.ptr r2 0 0) true h_4) (
      callG prog 36 [a_Leq, (.func (.func 37) [] [(.ptr r1 0 0)])] h_4 fun v69 h_11 =>
      tBool v69 fun v70 =>
      ifT v70 (
        s23c1 Ψ elems (.ptr r 0 0) (.ptr r1 0 0) (.ptr r2 0 0) true h_11) (
        ldN 2 h_11 (.ptr r2 0 0) fun l_43 =>
        tCons l_43 fun v71 l_44 =>
        tInt .i64 v71 fun v72 =>
        tCons l_44 fun v73 l_45 =>
        tNil l_45 (
          callG prog 38 [(.agg [(.int .i64 v72), v73])] h_11 fun v74 h_12 =>
          tBool v74 fun v75 =>
          s23c1 Ψ elems (.ptr r 0 0) (.ptr r1 0 0) (.ptr r2 0 0) (!v75) h_12))))

def s23_A (Ψ : AVal → Heap → Prop) : Ann :=
  .seq (.reg [⟨none, [(0, true), (1, false), (2, false)]⟩])
  (.seq (rA 5)
  (.seq (rA 5)
  (.seq (.cut [(1, .any), (4, .any), (6, .any), (7, .any), (38, .bool)] (fun l h => J.cons l fun x0 l => J.cons l fun x1 l => J.cons l fun x2 l => J.cons l fun x3 l => J.cons l fun v l => J.bool v fun x4 => J.nil l (s23c1 Ψ x0 x1 x2 x3 x4 h)) (.reg [⟨none, [(0, false), (1, false), (2, false)]⟩, ⟨some (24, false), [(3, false), (4, false)]⟩, ⟨none, [(5, false), (6, false)]⟩, ⟨some (28, false), [(7, false), (8, false), (9, false), (10, false)]⟩, ⟨none, [(11, false), (12, false)]⟩, ⟨some (34, false), [(13, false), (14, false), (15, false)]⟩, ⟨none, [(16, false)]⟩])
  (.cond (.seq (rA 3)
  (.leaf))
  (.leaf)))
  (.seq (rA 9)
  (.seq (.seq (rA 2)
  (.cond (.seq (rA 3)
  (.leaf))
  (.leaf)))
  (.seq (.seq (rA 2)
  (.block (.loop [(1, .any), (4, .any), (6, .any), (7, .any), (8, .any), (9, .any), (49, .int .i64), (50, .int .i64)] (fun n l h => s23l2_R (s23l2 Ψ n) l h) (fun L2 =>
  .seq (rA 1)
  (.seq (.cond (.leaf)
  (.leaf))
  (.seq (.block (.seq (rA 2)
  (.seq (rA 2)
  (.block (.loop [(1, .any), (4, .any), (6, .any), (7, .any), (8, .any), (9, .any), (11, .int .i64), (49, .int .i64), (50, .int .i64), (53, .int .i64), (54, .int .i64)] (fun n l h => s23l3_R (s23l3 Ψ (fun y0 y1 y2 y3 y4 y5 y6 y7 h => L2 [y0, y1, y2, y3, y4, y5, (.int .i64 y6), (.int .i64 y7)] h) n) l h) (fun L3 =>
  .seq (rA 1)
  (.seq (.cond (.leaf)
  (.leaf))
  (.seq (.block (.seq (rA 2)
  (.seq (rA 2)
  (.block (.loop [(1, .any), (4, .any), (6, .any), (7, .any), (8, .any), (9, .any), (11, .int .i64), (12, .int .i64), (49, .int .i64), (50, .int .i64), (53, .int .i64), (54, .int .i64), (57, .int .i64), (58, .int .i64)] (fun n l h => s23l4_R (s23l4 Ψ (fun y0 y1 y2 y3 y4 y5 y6 y7 h => L2 [y0, y1, y2, y3, y4, y5, (.int .i64 y6), (.int .i64 y7)] h) (fun y0 y1 y2 y3 y4 y5 y6 y7 y8 y9 y10 h => L3 [y0, y1, y2, y3, y4, y5, (.int .i64 y6), (.int .i64 y7), (.int .i64 y8), (.int .i64 y9), (.int .i64 y10)] h) n) l h) (fun L4 =>
  .seq (rA 1)
  (.seq (.cond (.leaf)
  (.leaf))
  (.seq (.block (.seq (rA 2)
  (.seq (.draw [(0, false), (1, false), (2, false), (3, false), (4, false), (5, false), (6, false), (7, false), (8, false), (9, false), (10, false), (11, false), (12, false), (13, false), (14, false), (15, false), (16, false), (17, false), (18, false), (19, false), (20, false), (21, false), (22, false), (23, false), (24, false), (25, false), (26, false), (27, false), (28, false), (29, false), (30, false), (31, false), (32, false)] [0, 0, 3, 7, 0, 0, 48, 112, 0, 496, 1008, 2047, 4095, 0, 0, 0, 49152, 114688, 0, 507904, 1032192, 2088960, 4186112, 0, 0, 25165824, 58720256, 0, 260046848, 528482304, 1073733632, 2147475456, 4294967295])
  (.cond (.seq (rA 3)
  (.leaf))
  (.leaf)))))
  (rA 2)))))))))
  (rA 2)))))))))
  (rA 2)))))))
  (.seq (.seq (rA 3)
  (.block (.loop [(4, .any), (6, .any), (7, .any), (98, .any), (99, .int .i64), (100, .int .i64)] (fun n l h => s23l5_R (s23l5 Ψ n) l h) (fun L5 =>
  .seq (rA 1)
  (.seq (.cond (.leaf)
  (.leaf))
  (.seq (.block (.seq (rA 3)
  (.cut [(4, .any), (6, .any), (7, .any), (98, .any), (99, .int .i64), (100, .int .i64), (110, .bool)] (fun l h => J.cons l fun x0 l => J.cons l fun x1 l => J.cons l fun x2 l => J.cons l fun x3 l => J.cons l fun v l => J.int .i64 v fun x4 => J.cons l fun v l => J.int .i64 v fun x5 => J.cons l fun v l => J.bool v fun x6 => J.nil l (s23c6 Ψ (fun y0 y1 y2 y3 y4 y5 h => L5 [y0, y1, y2, y3, (.int .i64 y4), (.int .i64 y5)] h) x0 x1 x2 x3 x4 x5 x6 h)) (.reg [⟨none, [(0, false), (1, false), (2, false)]⟩, ⟨some (106, false), [(3, false), (4, false), (5, false)]⟩, ⟨none, [(6, false)]⟩])
  (.cond (.seq (rA 3)
  (.leaf))
  (.leaf)))))
  (rA 2)))))))
  (.seq (rA 3)
  (.leaf)))))))))

theorem s23_ok {Ψ : AVal → Heap → Prop} {a_Leq : AVal} {elems : AVal} {h : Heap} (H : s23 Ψ a_Leq elems h) : ACalls prog 23 [(.agg [a_Leq]), elems] h Ψ :=
  calls_of_evF func23 (by kernel_rfl) (by kernel_rfl) (by kernel_rfl)
    (Eq.mpr (by as_aux_lemma => kernel_rfl : oblF prog f23 (s23_A Ψ) Ψ = (True ∧ True ∧ True ∧ ((True) ∧ (∀ (h : Heap) (x0 x1 x2 x3 : AVal) (x4 : Bool), OI (s23c1 Ψ x0 x1 x2 x3 x4 h)) ∧ ((True ∧ True) ∧ True)) ∧ True ∧ (True ∧ (True ∧ True) ∧ True) ∧ (True ∧ (∀ (h : Heap) (x0 x1 x2 x3 x4 x5 : AVal) (x6 x7 : Int), ON (s23l2 Ψ 0 x0 x1 x2 x3 x4 x5 x6 x7 h)) ∧ ∀ n2 : Nat, (∀ (h : Heap) (x0 x1 x2 x3 x4 x5 : AVal) (x6 x7 : Int), OI (s23l2 Ψ (n2 + 1) x0 x1 x2 x3 x4 x5 x6 x7 h)) ∧ (True ∧ (True ∧ True) ∧ (True ∧ True ∧ (∀ (h : Heap) (x0 x1 x2 x3 x4 x5 : AVal) (x6 x7 x8 x9 x10 : Int), ON (s23l3 Ψ (s23l2_G (s23l2 Ψ n2)) 0 x0 x1 x2 x3 x4 x5 x6 x7 x8 x9 x10 h)) ∧ ∀ n3 : Nat, (∀ (h : Heap) (x0 x1 x2 x3 x4 x5 : AVal) (x6 x7 x8 x9 x10 : Int), OI (s23l3 Ψ (s23l2_G (s23l2 Ψ n2)) (n3 + 1) x0 x1 x2 x3 x4 x5 x6 x7 x8 x9 x10 h)) ∧ (True ∧ (True ∧ True) ∧ (True ∧ True ∧ (∀ (h : Heap) (x0 x1 x2 x3 x4 x5 : AVal) (x6 x7 x8 x9 x10 x11 x12 x13 : Int), ON (s23l4 Ψ (s23l2_G (s23l2 Ψ n2)) (s23l3_G (s23l3 Ψ (s23l2_G (s23l2 Ψ n2)) n3)) 0 x0 x1 x2 x3 x4 x5 x6 x7 x8 x9 x10 x11 x12 x13 h)) ∧ ∀ n4 : Nat, (∀ (h : Heap) (x0 x1 x2 x3 x4 x5 : AVal) (x6 x7 x8 x9 x10 x11 x12 x13 : Int), OI (s23l4 Ψ (s23l2_G (s23l2 Ψ n2)) (s23l3_G (s23l3 Ψ (s23l2_G (s23l2 Ψ n2)) n3)) (n4 + 1) x0 x1 x2 x3 x4 x5 x6 x7 x8 x9 x10 x11 x12 x13 h)) ∧ (True ∧ (True ∧ True) ∧ (True ∧ True ∧ (True ∧ True) ∧ True) ∧ True)) ∧ True)) ∧ True)) ∧ (True ∧ (∀ (h : Heap) (x0 x1 x2 x3 : AVal) (x4 x5 : Int), ON (s23l5 Ψ 0 x0 x1 x2 x3 x4 x5 h)) ∧ ∀ n5 : Nat, (∀ (h : Heap) (x0 x1 x2 x3 : AVal) (x4 x5 : Int), OI (s23l5 Ψ (n5 + 1) x0 x1 x2 x3 x4 x5 h)) ∧ (True ∧ (True ∧ True) ∧ (True ∧ (True) ∧ (∀ (h : Heap) (x0 x1 x2 x3 : AVal) (x4 x5 : Int) (x6 : Bool), OI (s23c6 Ψ (s23l5_G (s23l5 Ψ n5)) x0 x1 x2 x3 x4 x5 x6 h)) ∧ ((True ∧ True) ∧ True)) ∧ True)) ∧ True ∧ True)) ⟨trivial, ⟨trivial, ⟨trivial, ⟨⟨trivial, fun _ _ _ _ _ _ H => H, ⟨⟨trivial, trivial⟩, trivial⟩⟩, ⟨trivial, ⟨⟨trivial, ⟨⟨trivial, trivial⟩, trivial⟩⟩, ⟨⟨trivial, ⟨fun _ _ _ _ _ _ _ _ _ H => H, fun _ => ⟨fun _ _ _ _ _ _ _ _ _ H => H, ⟨trivial, ⟨⟨trivial, trivial⟩, ⟨⟨trivial, ⟨trivial, ⟨fun _ _ _ _ _ _ _ _ _ _ _ _ H => H, fun _ => ⟨fun _ _ _ _ _ _ _ _ _ _ _ _ H => H, ⟨trivial, ⟨⟨trivial, trivial⟩, ⟨⟨trivial, ⟨trivial, ⟨fun _ _ _ _ _ _ _ _ _ _ _ _ _ _ _ H => H, fun _ => ⟨fun _ _ _ _ _ _ _ _ _ _ _ _ _ _ _ H => H, ⟨trivial, ⟨⟨trivial, trivial⟩, ⟨⟨trivial, ⟨trivial, ⟨⟨trivial, trivial⟩, trivial⟩⟩⟩, trivial⟩⟩⟩⟩⟩⟩⟩, trivial⟩⟩⟩⟩⟩⟩⟩, trivial⟩⟩⟩⟩⟩⟩, ⟨⟨trivial, ⟨fun _ _ _ _ _ _ _ H => H, fun _ => ⟨fun _ _ _ _ _ _ _ H => H, ⟨trivial, ⟨⟨trivial, trivial⟩, ⟨⟨trivial, ⟨trivial, fun _ _ _ _ _ _ _ _ H => H, ⟨⟨trivial, trivial⟩, trivial⟩⟩⟩, trivial⟩⟩⟩⟩⟩⟩, ⟨trivial, trivial⟩⟩⟩⟩⟩⟩⟩⟩⟩)
    (Eq.mpr (by as_aux_lemma => kernel_rfl : evF prog f23 (s23_A Ψ) Ψ [(.agg [a_Leq]), elems] h = s23 Ψ a_Leq elems h) H)

/- 25 (dictum/heyting.lattice).join -/
def s25 (Ψ : AVal → Heap → Prop) (l_n : Int) (l_leq : AVal) (x : Int) (y : Int) (h : Heap) : Prop :=
  callG prog 41 [(.int .i64 l_n), (.func (.func 44) [] [(.lptr [(.int .i64 l_n), l_leq]), (.lptr [(.int .i64 x)]), (.lptr [(.int .i64 y)])]), (.func (.func 42) [(.agg [(.int .i64 l_n), l_leq])] [])] h fun v h_ =>
  tTup v fun l_ =>
  tCons l_ fun v1 l_1 =>
  tInt .i64 v1 fun v2 =>
  tCons l_1 fun v3 l_2 =>
  tBool v3 fun v4 =>
  tNil l_2 (
    retG (.tuple [(.int .i64 v2), (.bool v4)]) h_ Ψ)

def s25_A (Ψ : AVal → Heap → Prop) : Ann :=
  .seq (.reg [⟨none, [(0, true), (1, true), (2, true), (3, false), (4, false)]⟩])
  (.seq (rA 10)
  (.leaf))

theorem s25_ok {Ψ : AVal → Heap → Prop} {l_n : Int} {l_leq : AVal} {x : Int} {y : Int} {h : Heap} (H : s25 Ψ l_n l_leq x y h) : ACalls prog 25 [(.agg [(.int .i64 l_n), l_leq]), (.int .i64 x), (.int .i64 y)] h Ψ :=
  calls_of_evF func25 (by kernel_rfl) (by kernel_rfl) (by kernel_rfl)
    (Eq.mpr (by as_aux_lemma => kernel_rfl : oblF prog f25 (s25_A Ψ) Ψ = (True ∧ True ∧ True)) ⟨trivial, ⟨trivial, trivial⟩⟩)
    (Eq.mpr (by as_aux_lemma => kernel_rfl : evF prog f25 (s25_A Ψ) Ψ [(.agg [(.int .i64 l_n), l_leq]), (.int .i64 x), (.int .i64 y)] h = s25 Ψ l_n l_leq x y h) H)

/- 27 dictum/heyting.Chain -/
abbrev s27l2_T := Int → AVal → AVal → Int → Int → Heap → Prop
def s27l2_R (F : s27l2_T) (l : List AVal) (h : Heap) : Prop := J.cons l fun v l => J.int .i64 v fun x0 => J.cons l fun x1 l => J.cons l fun x2 l => J.cons l fun v l => J.int .i64 v fun x3 => J.cons l fun v l => J.int .i64 v fun x4 => J.nil l (F x0 x1 x2 x3 x4 h)
def s27l2_G (F : s27l2_T) (x0 : Int) (x1 x2 : AVal) (x3 x4 : Int) (h : Heap) : Prop := gJ [.int .i64, .any, .any, .int .i64, .int .i64] [(.int .i64 x0), x1, x2, (.int .i64 x3), (.int .i64 x4)] h (s27l2_R F)
def s27l2_E (F : Nat → s27l2_T) (x0 : Int) (x1 x2 : AVal) (x3 x4 : Int) (h : Heap) : Prop := gJ [.int .i64, .any, .any, .int .i64, .int .i64] [(.int .i64 x0), x1, x2, (.int .i64 x3), (.int .i64 x4)] h (fun l h => ∃ n, s27l2_R (F n) l h)
theorem s27l2_go {F : s27l2_T} {x0 : Int} {x1 x2 : AVal} {x3 x4 : Int} {h : Heap} (H : F x0 x1 x2 x3 x4 h) : s27l2_G F x0 x1 x2 x3 x4 h := gJ_plain rfl H
theorem s27l2_in {F : Nat → s27l2_T} {x0 : Int} {x1 x2 : AVal} {x3 x4 : Int} {h : Heap} (n : Nat) (H : F n x0 x1 x2 x3 x4 h) : s27l2_E F x0 x1 x2 x3 x4 h := gJ_plain rfl ⟨n, H⟩

abbrev s27l3_T := Int → AVal → AVal → AVal → Int → Int → Int → Heap → Prop
def s27l3_R (F : s27l3_T) (l : List AVal) (h : Heap) : Prop := J.cons l fun v l => J.int .i64 v fun x0 => J.cons l fun x1 l => J.cons l fun x2 l => J.cons l fun x3 l => J.cons l fun v l => J.int .i64 v fun x4 => J.cons l fun v l => J.int .i64 v fun x5 => J.cons l fun v l => J.int .i64 v fun x6 => J.nil l (F x0 x1 x2 x3 x4 x5 x6 h)
def s27l3_G (F : s27l3_T) (x0 : Int) (x1 x2 x3 : AVal) (x4 x5 x6 : Int) (h : Heap) : Prop := gJ [.int .i64, .any, .any, .any, .int .i64, .int .i64, .int .i64] [(.int .i64 x0), x1, x2, x3, (.int .i64 x4), (.int .i64 x5), (.int .i64 x6)] h (s27l3_R F)
def s27l3_E (F : Nat → s27l3_T) (x0 : Int) (x1 x2 x3 : AVal) (x4 x5 x6 : Int) (h : Heap) : Prop := gJ [.int .i64, .any, .any, .any, .int .i64, .int .i64, .int .i64] [(.int .i64 x0), x1, x2, x3, (.int .i64 x4), (.int .i64 x5), (.int .i64 x6)] h (fun l h => ∃ n, s27l3_R (F n) l h)
theorem s27l3_go {F : s27l3_T} {x0 : Int} {x1 x2 x3 : AVal} {x4 x5 x6 : Int} {h : Heap} (H : F x0 x1 x2 x3 x4 x5 x6 h) : s27l3_G F x0 x1 x2 x3 x4 x5 x6 h := gJ_plain rfl H
theorem s27l3_in {F : Nat → s27l3_T} {x0 : Int} {x1 x2 x3 : AVal} {x4 x5 x6 : Int} {h : Heap} (n : Nat) (H : F n x0 x1 x2 x3 x4 x5 x6 h) : s27l3_E F x0 x1 x2 x3 x4 x5 x6 h := gJ_plain rfl ⟨n, H⟩

def s27l3 (Ψ : AVal → Heap → Prop) (L2 : s27l2_T) : Nat → s27l3_T
  | 0, _, _, _, _, _, _, _, _ => False
  | n5 + 1, n4, t2_2, a1, row, y, t15_1, t16_1, h =>
    ifT (decide (y < n4)) (
      ixS 1 row y fun p =>
      st true h p [(.bool true)] fun h_4 =>
      rg (y + 1) (
        s27l3_G (s27l3 Ψ L2 n5) n4 t2_2 a1 row (y + 1) t15_1 t16_1 h_4)) (
      addOff a1 0 fun p1 =>
      ld1 h p1 fun v2 =>
      chk (sc row) (
        appC 1 24 h v2 (.lsl 1 [row]) fun v3 h_5 =>
        addOff a1 0 fun p2 =>
        chk (sc v3) (
          st true h_5 p2 [v3] fun h_6 =>
          rg (t16_1 + 1) (
            L2 n4 t2_2 a1 t15_1 (t16_1 + 1) h_6))))

def s27l2 (Ψ : AVal → Heap → Prop) : Nat → s27l2_T
  | 0, _, _, _, _, _, _ => False
  | n3 + 1, n2, t2_1, a, t15, t16, h =>
    ifT (decide (t16 < t15)) (
      mkS false 1 1 (.bool false) h n2 n2 fun v1 h_3 =>
      s27l3_E (s27l3 Ψ (s27l2_G (s27l2 Ψ n3))) n2 t2_1 a v1 t16 t15 t16 h_3) (
      ldN 1 h a fun l_2 =>
      tCons l_2 fun v4 l_3 =>
      tNil l_3 (
        st false h t2_1 [v4] fun h_7 =>
        ldN 1 h_7 t2_1 fun l_4 =>
        tCons l_4 fun v5 l_5 =>
        tNil l_5 (
          retG (.tuple [(.agg [v5]), (.int .i64 0)]) h_7 Ψ)))

def s27c1 (Ψ : AVal → Heap → Prop) (n1 : Int) (t2 : AVal) (t13 : Bool) (h : Heap) : Prop :=
  ifT t13 (
    st false h t2 [.nilsl] fun h_1 =>
    ldN 1 h_1 t2 fun l_ =>
    tCons l_ fun v l_1 =>
    tNil l_1 (
      retG (.tuple [(.agg [v]), (.int .i64 2)]) h_1 Ψ)) (
    Sym.newRow 1 [(.agg [.nilsl])] h fun r1 h_2 =>
    s27l2_E (s27l2 Ψ) n1 t2 (.ptr r1 0 0) n1 0 h_2)

def s27 (Ψ : AVal → Heap → Prop) (n : Int) (h : Heap) : Prop :=
  Sym.newRow 1 [(.agg [.nilsl])] h fun r h_ =>
  ifT (decide (n < 1)) (
    s27c1 Ψ n (.ptr r 0 0) true h_) (
    s27c1 Ψ n (.ptr r 0 0) (decide (64 < n)) h_)

def s27_A (Ψ : AVal → Heap → Prop) : Ann :=
  .seq (rA 2)
  (.seq (.cut [(0, .int .i64), (2, .any), (13, .bool)] (fun l h => J.cons l fun v l => J.int .i64 v fun x0 => J.cons l fun x1 l => J.cons l fun v l => J.bool v fun x2 => J.nil l (s27c1 Ψ x0 x1 x2 h)) (.reg [⟨none, [(0, false), (1, false), (2, false)]⟩, ⟨some (10, false), [(3, false), (4, false)]⟩, ⟨none, [(5, false)]⟩])
  (.cond (.seq (rA 3)
  (.leaf))
  (.leaf)))
  (.seq (rA 1)
  (.seq (.seq (rA 2)
  (.block (.loop [(0, .int .i64), (2, .any), (4, .any), (15, .int .i64), (16, .int .i64)] (fun n l h => s27l2_R (s27l2 Ψ n) l h) (fun L2 =>
  .seq (rA 1)
  (.seq (.cond (.leaf)
  (.leaf))
  (.seq (.block (.seq (rA 2)
  (.seq (rA 3)
  (.seq (.seq (rA 2)
  (.block (.loop [(0, .int .i64), (2, .any), (4, .any), (6, .any), (7, .int .i64), (15, .int .i64), (16, .int .i64)] (fun n l h => s27l3_R (s27l3 Ψ (fun y0 y1 y2 y3 y4 h => L2 [(.int .i64 y0), y1, y2, (.int .i64 y3), (.int .i64 y4)] h) n) l h) (fun L3 =>
  .seq (.seq (rA 3)
  (.cond (.leaf)
  (.leaf)))
  (.seq (.block (rA 4))
  (rA 3))))))
  (.reg [⟨none, [(0, false), (1, false), (2, false), (3, true), (4, false), (5, false), (6, false)]⟩])))))
  (rA 2)))))))
  (.seq (rA 3)
  (.leaf)))))

theorem s27_ok {Ψ : AVal → Heap → Prop} {n : Int} {h : Heap} (H : s27 Ψ n h) : ACalls prog 27 [(.int .i64 n)] h Ψ :=
  calls_of_evF func27 (by kernel_rfl) (by kernel_rfl) (by kernel_rfl)
    (Eq.mpr (by as_aux_lemma => kernel_rfl : oblF prog f27 (s27_A Ψ) Ψ = (True ∧ ((True) ∧ (∀ (h : Heap) (x0 : Int) (x1 : AVal) (x2 : Bool), OI (s27c1 Ψ x0 x1 x2 h)) ∧ ((True ∧ True) ∧ True)) ∧ True ∧ (True ∧ (∀ (h : Heap) (x0 : Int) (x1 x2 : AVal) (x3 x4 : Int), ON (s27l2 Ψ 0 x0 x1 x2 x3 x4 h)) ∧ ∀ n2 : Nat, (∀ (h : Heap) (x0 : Int) (x1 x2 : AVal) (x3 x4 : Int), OI (s27l2 Ψ (n2 + 1) x0 x1 x2 x3 x4 h)) ∧ (True ∧ (True ∧ True) ∧ (True ∧ True ∧ (True ∧ (∀ (h : Heap) (x0 : Int) (x1 x2 x3 : AVal) (x4 x5 x6 : Int), ON (s27l3 Ψ (s27l2_G (s27l2 Ψ n2)) 0 x0 x1 x2 x3 x4 x5 x6 h)) ∧ ∀ n3 : Nat, (∀ (h : Heap) (x0 : Int) (x1 x2 x3 : AVal) (x4 x5 x6 : Int), OI (s27l3 Ψ (s27l2_G (s27l2 Ψ n2)) (n3 + 1) x0 x1 x2 x3 x4 x5 x6 h)) ∧ ((True ∧ True ∧ True) ∧ True ∧ True)) ∧ True) ∧ True)) ∧ True ∧ True)) ⟨trivial, ⟨⟨trivial, fun _ _ _ _ H => H, ⟨⟨trivial, trivial⟩, trivial⟩⟩, ⟨trivial, ⟨⟨trivial, ⟨fun _ _ _ _ _ _ H => H, fun _ => ⟨fun _ _ _ _ _ _ H => H, ⟨trivial, ⟨⟨trivial, trivial⟩, ⟨⟨trivial, ⟨trivial, ⟨⟨trivial, ⟨fun _ _ _ _ _ _ _ _ H => H, fun _ => ⟨fun _ _ _ _ _ _ _ _ H => H, ⟨⟨trivial, ⟨trivial, trivial⟩⟩, ⟨trivial, trivial⟩⟩⟩⟩⟩, trivial⟩⟩⟩, trivial⟩⟩⟩⟩⟩⟩, ⟨trivial, trivial⟩⟩⟩⟩⟩)
    (Eq.mpr (by as_aux_lemma => kernel_rfl : evF prog f27 (s27_A Ψ) Ψ [(.int .i64 n)] h = s27 Ψ n h) H)

/- 29 dictum/heyting.joined -/
abbrev s29l1_T := AVal → AVal → Int → Int → Heap → Prop
def s29l1_R (F : s29l1_T) (l : List AVal) (h : Heap) : Prop := J.cons l fun x0 l => J.cons l fun x1 l => J.cons l fun v l => J.int .i64 v fun x2 => J.cons l fun v l => J.int .i64 v fun x3 => J.nil l (F x0 x1 x2 x3 h)
def s29l1_G (F : s29l1_T) (x0 x1 : AVal) (x2 x3 : Int) (h : Heap) : Prop := gJ [.any, .any, .int .i64, .int .i64] [x0, x1, (.int .i64 x2), (.int .i64 x3)] h (s29l1_R F)
def s29l1_E (F : Nat → s29l1_T) (x0 x1 : AVal) (x2 x3 : Int) (h : Heap) : Prop := gJ [.any, .any, .int .i64, .int .i64] [x0, x1, (.int .i64 x2), (.int .i64 x3)] h (fun l h => ∃ n, s29l1_R (F n) l h)
theorem s29l1_go {F : s29l1_T} {x0 x1 : AVal} {x2 x3 : Int} {h : Heap} (H : F x0 x1 x2 x3 h) : s29l1_G F x0 x1 x2 x3 h := gJ_plain rfl H
theorem s29l1_in {F : Nat → s29l1_T} {x0 x1 : AVal} {x2 x3 : Int} {h : Heap} (n : Nat) (H : F n x0 x1 x2 x3 h) : s29l1_E F x0 x1 x2 x3 h := gJ_plain rfl ⟨n, H⟩

def s29l1 (Ψ : AVal → Heap → Prop) : Nat → s29l1_T
  | 0, _, _, _, _, _ => False
  | n1 + 1, out, t10, t11, t12, h =>
    ifT (decide (t12 < t11)) (
      ixS 1 t10 t12 fun p =>
      ld1 h p fun v1 =>
      tInt .i64 v1 fun v2 =>
      ixS 1 out v2 fun p1 =>
      st true h p1 [(.int .u8 1)] fun h_1 =>
      rg (t12 + 1) (
        s29l1_G (s29l1 Ψ n1) out t10 t11 (t12 + 1) h_1)) (
      bStr h out fun s =>
      retG (.str s) h Ψ)

def s29 (Ψ : AVal → Heap → Prop) (a : ByteArray) (b : AVal) (h : Heap) : Prop :=
  sBytes h (.str a) fun v h_ =>
  lenN b fun n =>
  s29l1_E (s29l1 Ψ) v b n 0 h_

def s29_A (Ψ : AVal → Heap → Prop) : Ann :=
  .seq (rA 1)
  (.seq (rA 3)
  (.seq (.seq (rA 3)
  (.block (.loop [(5, .any), (10, .any), (11, .int .i64), (12, .int .i64)] (fun n l h => s29l1_R (s29l1 Ψ n) l h) (fun L1 =>
  .seq (rA 1)
  (.seq (.cond (.leaf)
  (.leaf))
  (.seq (.block (.seq (rA 3)
  (rA 4)))
  (rA 2)))))))
  (.seq (rA 3)
  (.leaf))))

theorem s29_ok {Ψ : AVal → Heap → Prop} {a : ByteArray} {b : AVal} {h : Heap} (H : s29 Ψ a b h) : ACalls prog 29 [(.str a), b] h Ψ :=
  calls_of_evF func29 (by kernel_rfl) (by kernel_rfl) (by kernel_rfl)
    (Eq.mpr (by as_aux_lemma => kernel_rfl : oblF prog f29 (s29_A Ψ) Ψ = (True ∧ True ∧ (True ∧ (∀ (h : Heap) (x0 x1 : AVal) (x2 x3 : Int), ON (s29l1 Ψ 0 x0 x1 x2 x3 h)) ∧ ∀ n1 : Nat, (∀ (h : Heap) (x0 x1 : AVal) (x2 x3 : Int), OI (s29l1 Ψ (n1 + 1) x0 x1 x2 x3 h)) ∧ (True ∧ (True ∧ True) ∧ (True ∧ True) ∧ True)) ∧ True ∧ True)) ⟨trivial, ⟨trivial, ⟨⟨trivial, ⟨fun _ _ _ _ _ H => H, fun _ => ⟨fun _ _ _ _ _ H => H, ⟨trivial, ⟨⟨trivial, trivial⟩, ⟨⟨trivial, trivial⟩, trivial⟩⟩⟩⟩⟩⟩, ⟨trivial, trivial⟩⟩⟩⟩)
    (Eq.mpr (by as_aux_lemma => kernel_rfl : evF prog f29 (s29_A Ψ) Ψ [(.str a), b] h = s29 Ψ a b h) H)

/- 31 (dictum/heyting.lattice).imp -/
def s31 (Ψ : AVal → Heap → Prop) (l_n : Int) (l_leq : AVal) (x : Int) (y : Int) (h : Heap) : Prop :=
  callG prog 41 [(.int .i64 l_n), (.func (.func 57) [] [(.lptr [(.int .i64 l_n), l_leq]), (.lptr [(.int .i64 x)]), (.lptr [(.int .i64 y)])]), (.func (.func 43) [(.agg [(.int .i64 l_n), l_leq])] [])] h fun v h_ =>
  tTup v fun l_ =>
  tCons l_ fun v1 l_1 =>
  tInt .i64 v1 fun v2 =>
  tCons l_1 fun v3 l_2 =>
  tBool v3 fun v4 =>
  tNil l_2 (
    retG (.int .i64 v2) h_ Ψ)

def s31_A (Ψ : AVal → Heap → Prop) : Ann :=
  .seq (.reg [⟨none, [(0, true), (1, true), (2, true), (3, false)]⟩])
  (.seq (rA 11)
  (.seq (rA 2)
  (.leaf)))

theorem s31_ok {Ψ : AVal → Heap → Prop} {l_n : Int} {l_leq : AVal} {x : Int} {y : Int} {h : Heap} (H : s31 Ψ l_n l_leq x y h) : ACalls prog 31 [(.agg [(.int .i64 l_n), l_leq]), (.int .i64 x), (.int .i64 y)] h Ψ :=
  calls_of_evF func31 (by kernel_rfl) (by kernel_rfl) (by kernel_rfl)
    (Eq.mpr (by as_aux_lemma => kernel_rfl : oblF prog f31 (s31_A Ψ) Ψ = (True ∧ True ∧ True ∧ True)) ⟨trivial, ⟨trivial, ⟨trivial, trivial⟩⟩⟩)
    (Eq.mpr (by as_aux_lemma => kernel_rfl : evF prog f31 (s31_A Ψ) Ψ [(.agg [(.int .i64 l_n), l_leq]), (.int .i64 x), (.int .i64 y)] h = s31 Ψ l_n l_leq x y h) H)

/- 33 dictum/dictumref23.order -/
abbrev s33l2_T := AVal → Int → Int → Heap → Prop
def s33l2_R (F : s33l2_T) (l : List AVal) (h : Heap) : Prop := J.cons l fun x0 l => J.cons l fun v l => J.int .i64 v fun x1 => J.cons l fun v l => J.int .i64 v fun x2 => J.nil l (F x0 x1 x2 h)
def s33l2_G (F : s33l2_T) (x0 : AVal) (x1 x2 : Int) (h : Heap) : Prop := gJ [.any, .int .i64, .int .i64] [x0, (.int .i64 x1), (.int .i64 x2)] h (s33l2_R F)
def s33l2_E (F : Nat → s33l2_T) (x0 : AVal) (x1 x2 : Int) (h : Heap) : Prop := gJ [.any, .int .i64, .int .i64] [x0, (.int .i64 x1), (.int .i64 x2)] h (fun l h => ∃ n, s33l2_R (F n) l h)
theorem s33l2_go {F : s33l2_T} {x0 : AVal} {x1 x2 : Int} {h : Heap} (H : F x0 x1 x2 h) : s33l2_G F x0 x1 x2 h := gJ_plain rfl H
theorem s33l2_in {F : Nat → s33l2_T} {x0 : AVal} {x1 x2 : Int} {h : Heap} (n : Nat) (H : F n x0 x1 x2 h) : s33l2_E F x0 x1 x2 h := gJ_plain rfl ⟨n, H⟩

abbrev s33l3_T := AVal → Int → Int → Heap → Prop
def s33l3_R (F : s33l3_T) (l : List AVal) (h : Heap) : Prop := J.cons l fun x0 l => J.cons l fun v l => J.int .i64 v fun x1 => J.cons l fun v l => J.int .i64 v fun x2 => J.nil l (F x0 x1 x2 h)
def s33l3_G (F : s33l3_T) (x0 : AVal) (x1 x2 : Int) (h : Heap) : Prop := gJ [.any, .int .i64, .int .i64] [x0, (.int .i64 x1), (.int .i64 x2)] h (s33l3_R F)
def s33l3_E (F : Nat → s33l3_T) (x0 : AVal) (x1 x2 : Int) (h : Heap) : Prop := gJ [.any, .int .i64, .int .i64] [x0, (.int .i64 x1), (.int .i64 x2)] h (fun l h => ∃ n, s33l3_R (F n) l h)
theorem s33l3_go {F : s33l3_T} {x0 : AVal} {x1 x2 : Int} {h : Heap} (H : F x0 x1 x2 h) : s33l3_G F x0 x1 x2 h := gJ_plain rfl H
theorem s33l3_in {F : Nat → s33l3_T} {x0 : AVal} {x1 x2 : Int} {h : Heap} (n : Nat) (H : F n x0 x1 x2 h) : s33l3_E F x0 x1 x2 h := gJ_plain rfl ⟨n, H⟩

abbrev s33l4_T := AVal → Int → Int → Int → Heap → Prop
def s33l4_R (F : s33l4_T) (l : List AVal) (h : Heap) : Prop := J.cons l fun x0 l => J.cons l fun v l => J.int .i64 v fun x1 => J.cons l fun v l => J.int .i64 v fun x2 => J.cons l fun v l => J.int .i64 v fun x3 => J.nil l (F x0 x1 x2 x3 h)
def s33l4_G (F : s33l4_T) (x0 : AVal) (x1 x2 x3 : Int) (h : Heap) : Prop := gJ [.any, .int .i64, .int .i64, .int .i64] [x0, (.int .i64 x1), (.int .i64 x2), (.int .i64 x3)] h (s33l4_R F)
def s33l4_E (F : Nat → s33l4_T) (x0 : AVal) (x1 x2 x3 : Int) (h : Heap) : Prop := gJ [.any, .int .i64, .int .i64, .int .i64] [x0, (.int .i64 x1), (.int .i64 x2), (.int .i64 x3)] h (fun l h => ∃ n, s33l4_R (F n) l h)
theorem s33l4_go {F : s33l4_T} {x0 : AVal} {x1 x2 x3 : Int} {h : Heap} (H : F x0 x1 x2 x3 h) : s33l4_G F x0 x1 x2 x3 h := gJ_plain rfl H
theorem s33l4_in {F : Nat → s33l4_T} {x0 : AVal} {x1 x2 x3 : Int} {h : Heap} (n : Nat) (H : F n x0 x1 x2 x3 h) : s33l4_E F x0 x1 x2 x3 h := gJ_plain rfl ⟨n, H⟩

abbrev s33l6_T := AVal → Int → Int → Int → Int → Heap → Prop
def s33l6_R (F : s33l6_T) (l : List AVal) (h : Heap) : Prop := J.cons l fun x0 l => J.cons l fun v l => J.int .i64 v fun x1 => J.cons l fun v l => J.int .i64 v fun x2 => J.cons l fun v l => J.int .i64 v fun x3 => J.cons l fun v l => J.int .i64 v fun x4 => J.nil l (F x0 x1 x2 x3 x4 h)
def s33l6_G (F : s33l6_T) (x0 : AVal) (x1 x2 x3 x4 : Int) (h : Heap) : Prop := gJ [.any, .int .i64, .int .i64, .int .i64, .int .i64] [x0, (.int .i64 x1), (.int .i64 x2), (.int .i64 x3), (.int .i64 x4)] h (s33l6_R F)
def s33l6_E (F : Nat → s33l6_T) (x0 : AVal) (x1 x2 x3 x4 : Int) (h : Heap) : Prop := gJ [.any, .int .i64, .int .i64, .int .i64, .int .i64] [x0, (.int .i64 x1), (.int .i64 x2), (.int .i64 x3), (.int .i64 x4)] h (fun l h => ∃ n, s33l6_R (F n) l h)
theorem s33l6_go {F : s33l6_T} {x0 : AVal} {x1 x2 x3 x4 : Int} {h : Heap} (H : F x0 x1 x2 x3 x4 h) : s33l6_G F x0 x1 x2 x3 x4 h := gJ_plain rfl H
theorem s33l6_in {F : Nat → s33l6_T} {x0 : AVal} {x1 x2 x3 x4 : Int} {h : Heap} (n : Nat) (H : F n x0 x1 x2 x3 x4 h) : s33l6_E F x0 x1 x2 x3 x4 h := gJ_plain rfl ⟨n, H⟩

def s33c7 (Ψ : AVal → Heap → Prop) (L3 : s33l3_T) (L4 : s33l4_T) (L6 : s33l6_T) (l_7 : AVal) (n12 x5 y3 z1 : Int) (t104 : Bool) (h : Heap) : Prop :=
  ifT t104 (
    retG (.bool false) h Ψ) (
    rg (z1 + 1) (
      L6 l_7 n12 x5 y3 (z1 + 1) h))

def s33l6 (Ψ : AVal → Heap → Prop) (L3 : s33l3_T) (L4 : s33l4_T) : Nat → s33l6_T
  | 0, _, _, _, _, _, _ => False
  | n11 + 1, l_6, n10, x4, y2, z, h =>
    ifT (decide (z < n10)) (
      ixS 1 l_6 x4 fun p1 =>
      ld1 h p1 fun v1 =>
      ixS 1 v1 y2 fun p2 =>
      ld1 h p2 fun v2 =>
      tBool v2 fun v3 =>
      ifT v3 (
        ixS 1 l_6 y2 fun p3 =>
        ld1 h p3 fun v4 =>
        ixS 1 v4 z fun p4 =>
        ld1 h p4 fun v5 =>
        tBool v5 fun v6 =>
        ifT v6 (
          ixS 1 l_6 x4 fun p5 =>
          ld1 h p5 fun v7 =>
          ixS 1 v7 z fun p6 =>
          ld1 h p6 fun v8 =>
          tBool v8 fun v9 =>
          s33c7 Ψ L3 L4 (s33l6_G (s33l6 Ψ L3 L4 n11)) l_6 n10 x4 y2 z (!v9) h) (
          s33c7 Ψ L3 L4 (s33l6_G (s33l6 Ψ L3 L4 n11)) l_6 n10 x4 y2 z false h)) (
        s33c7 Ψ L3 L4 (s33l6_G (s33l6 Ψ L3 L4 n11)) l_6 n10 x4 y2 z false h)) (
      rg (y2 + 1) (
        L4 l_6 n10 x4 (y2 + 1) h))

def s33c5 (Ψ : AVal → Heap → Prop) (L3 : s33l3_T) (L4 : s33l4_T) (l_5 : AVal) (n9 x3 y1 : Int) (t73 : Bool) (h : Heap) : Prop :=
  ifT t73 (
    retG (.bool false) h Ψ) (
    s33l6_E (s33l6 Ψ L3 L4) l_5 n9 x3 y1 0 h)

def s33l4 (Ψ : AVal → Heap → Prop) (L3 : s33l3_T) : Nat → s33l4_T
  | 0, _, _, _, _, _ => False
  | n8 + 1, l_4, n7, x2, y, h =>
    ifT (decide (y < n7)) (
      ifT (x2 == y) (
        ixS 1 l_4 x2 fun p7 =>
        ld1 h p7 fun v10 =>
        ixS 1 v10 x2 fun p8 =>
        ld1 h p8 fun v11 =>
        tBool v11 fun v12 =>
        ifT (!v12) (
          s33c5 Ψ L3 (s33l4_G (s33l4 Ψ L3 n8)) l_4 n7 x2 y true h) (
          ifT (x2 != y) (
            ixS 1 l_4 x2 fun p9 =>
            ld1 h p9 fun v13 =>
            ixS 1 v13 y fun p10 =>
            ld1 h p10 fun v14 =>
            tBool v14 fun v15 =>
            ifT v15 (
              ixS 1 l_4 y fun p11 =>
              ld1 h p11 fun v16 =>
              ixS 1 v16 x2 fun p12 =>
              ld1 h p12 fun v17 =>
              tBool v17 fun v18 =>
              s33c5 Ψ L3 (s33l4_G (s33l4 Ψ L3 n8)) l_4 n7 x2 y v18 h) (
              s33c5 Ψ L3 (s33l4_G (s33l4 Ψ L3 n8)) l_4 n7 x2 y false h)) (
            s33c5 Ψ L3 (s33l4_G (s33l4 Ψ L3 n8)) l_4 n7 x2 y false h))) (
        ifT (x2 != y) (
          ixS 1 l_4 x2 fun p13 =>
          ld1 h p13 fun v19 =>
          ixS 1 v19 y fun p14 =>
          ld1 h p14 fun v20 =>
          tBool v20 fun v21 =>
          ifT v21 (
            ixS 1 l_4 y fun p15 =>
            ld1 h p15 fun v22 =>
            ixS 1 v22 x2 fun p16 =>
            ld1 h p16 fun v23 =>
            tBool v23 fun v24 =>
            s33c5 Ψ L3 (s33l4_G (s33l4 Ψ L3 n8)) l_4 n7 x2 y v24 h) (
            s33c5 Ψ L3 (s33l4_G (s33l4 Ψ L3 n8)) l_4 n7 x2 y false h)) (
          s33c5 Ψ L3 (s33l4_G (s33l4 Ψ L3 n8)) l_4 n7 x2 y false h))) (
      rg (x2 + 1) (
        L3 l_4 n7 (x2 + 1) h))

def s33l3 (Ψ : AVal → Heap → Prop) : Nat → s33l3_T
  | 0, _, _, _, _ => False
  | n6 + 1, l_3, n5, x1, h =>
    ifT (decide (x1 < n5)) (
      s33l4_E (s33l4 Ψ (s33l3_G (s33l3 Ψ n6))) l_3 n5 x1 0 h) (
      retG (.bool true) h Ψ)

def s33l2 (Ψ : AVal → Heap → Prop) : Nat → s33l2_T
  | 0, _, _, _, _ => False
  | n3 + 1, l_2, n2, x, h =>
    ifT (decide (x < n2)) (
      ixS 1 l_2 x fun p =>
      ld1 h p fun v =>
      lenN v fun n4 =>
      ifT (n4 != n2) (
        retG (.bool false) h Ψ) (
        rg (x + 1) (
          s33l2_G (s33l2 Ψ n3) l_2 n2 (x + 1) h))) (
      s33l3_E (s33l3 Ψ) l_2 n2 0 h)

def s33c1 (Ψ : AVal → Heap → Prop) (l_1 : AVal) (n1 : Int) (t15 : Bool) (h : Heap) : Prop :=
  ifT t15 (
    retG (.bool false) h Ψ) (
    s33l2_E (s33l2 Ψ) l_1 n1 0 h)

def s33 (Ψ : AVal → Heap → Prop) (l_ : AVal) (h : Heap) : Prop :=
  lenN l_ fun n =>
  ifT (decide (n < 1)) (
    s33c1 Ψ l_ n true h) (
    s33c1 Ψ l_ n (decide (64 < n)) h)

def s33_A (Ψ : AVal → Heap → Prop) : Ann :=
  .seq (rA 1)
  (.seq (rA 3)
  (.seq (.cut [(0, .any), (3, .int .i64), (15, .bool)] (fun l h => J.cons l fun x0 l => J.cons l fun v l => J.int .i64 v fun x1 => J.cons l fun v l => J.bool v fun x2 => J.nil l (s33c1 Ψ x0 x1 x2 h)) (.reg [⟨none, [(0, false), (1, false), (2, false)]⟩, ⟨some (12, false), [(3, false), (4, false)]⟩, ⟨none, [(5, false)]⟩])
  (.cond (.seq (rA 1)
  (.leaf))
  (.leaf)))
  (.seq (.seq (rA 1)
  (.block (.loop [(0, .any), (3, .int .i64), (4, .int .i64)] (fun n l h => s33l2_R (s33l2 Ψ n) l h) (fun L2 =>
  .seq (.seq (rA 3)
  (.cond (.leaf)
  (.leaf)))
  (.seq (.block (.seq (rA 7)
  (.cond (.seq (rA 1)
  (.leaf))
  (.leaf))))
  (rA 3))))))
  (.seq (.seq (rA 1)
  (.block (.loop [(0, .any), (3, .int .i64), (5, .int .i64)] (fun n l h => s33l3_R (s33l3 Ψ n) l h) (fun L3 =>
  .seq (.seq (rA 3)
  (.cond (.leaf)
  (.leaf)))
  (.seq (.block (.seq (rA 1)
  (.block (.loop [(0, .any), (3, .int .i64), (5, .int .i64), (6, .int .i64)] (fun n l h => s33l4_R (s33l4 Ψ (fun y0 y1 y2 h => L3 [y0, (.int .i64 y1), (.int .i64 y2)] h) n) l h) (fun L4 =>
  .seq (.seq (rA 3)
  (.cond (.leaf)
  (.leaf)))
  (.seq (.block (.seq (.cut [(0, .any), (3, .int .i64), (5, .int .i64), (6, .int .i64), (73, .bool)] (fun l h => J.cons l fun x0 l => J.cons l fun v l => J.int .i64 v fun x1 => J.cons l fun v l => J.int .i64 v fun x2 => J.cons l fun v l => J.int .i64 v fun x3 => J.cons l fun v l => J.bool v fun x4 => J.nil l (s33c5 Ψ (fun y0 y1 y2 h => L3 [y0, (.int .i64 y1), (.int .i64 y2)] h) (fun y0 y1 y2 y3 h => L4 [y0, (.int .i64 y1), (.int .i64 y2), (.int .i64 y3)] h) x0 x1 x2 x3 x4 h)) (.reg [⟨none, [(0, false), (1, false), (2, false), (3, false)]⟩, ⟨some (41, true), [(4, false), (5, false), (6, false), (7, false), (8, false), (9, false), (10, false), (11, false)]⟩, ⟨none, [(12, false), (13, false)]⟩, ⟨some (51, false), [(14, false), (15, false), (16, false), (17, false)]⟩, ⟨some (55, true), [(18, false), (19, false), (20, false), (21, false), (22, false), (23, false), (24, false)]⟩, ⟨some (51, false), [(25, false), (26, false)]⟩, ⟨some (64, true), [(27, false), (28, false), (29, false), (30, false), (31, false), (32, false), (33, false)]⟩, ⟨some (51, false), [(34, false)]⟩, ⟨none, [(35, false)]⟩])
  (.cond (.seq (rA 1)
  (.leaf))
  (.leaf)))
  (.seq (rA 1)
  (.block (.loop [(0, .any), (3, .int .i64), (5, .int .i64), (6, .int .i64), (7, .int .i64)] (fun n l h => s33l6_R (s33l6 Ψ (fun y0 y1 y2 h => L3 [y0, (.int .i64 y1), (.int .i64 y2)] h) (fun y0 y1 y2 y3 h => L4 [y0, (.int .i64 y1), (.int .i64 y2), (.int .i64 y3)] h) n) l h) (fun L6 =>
  .seq (.seq (rA 3)
  (.cond (.leaf)
  (.leaf)))
  (.seq (.block (.cut [(0, .any), (3, .int .i64), (5, .int .i64), (6, .int .i64), (7, .int .i64), (104, .bool)] (fun l h => J.cons l fun x0 l => J.cons l fun v l => J.int .i64 v fun x1 => J.cons l fun v l => J.int .i64 v fun x2 => J.cons l fun v l => J.int .i64 v fun x3 => J.cons l fun v l => J.int .i64 v fun x4 => J.cons l fun v l => J.bool v fun x5 => J.nil l (s33c7 Ψ (fun y0 y1 y2 h => L3 [y0, (.int .i64 y1), (.int .i64 y2)] h) (fun y0 y1 y2 y3 h => L4 [y0, (.int .i64 y1), (.int .i64 y2), (.int .i64 y3)] h) (fun y0 y1 y2 y3 y4 h => L6 [y0, (.int .i64 y1), (.int .i64 y2), (.int .i64 y3), (.int .i64 y4)] h) x0 x1 x2 x3 x4 x5 h)) (.reg [⟨none, [(0, false), (1, false), (2, false), (3, false), (4, false), (5, false), (6, false), (7, false)]⟩, ⟨some (86, true), [(8, false), (9, false), (10, false), (11, false), (12, false), (13, false), (14, false)]⟩, ⟨none, [(15, false), (16, false)]⟩, ⟨some (95, true), [(17, false), (18, false), (19, false), (20, false), (21, false), (22, false), (23, false), (24, false)]⟩, ⟨none, [(25, false)]⟩])
  (.cond (.seq (rA 1)
  (.leaf))
  (.leaf))))
  (rA 3))))))))
  (rA 3)))))))
  (rA 3))))))
  (.seq (rA 1)
  (.leaf))))))

theorem s33_ok {Ψ : AVal → Heap → Prop} {l_ : AVal} {h : Heap} (H : s33 Ψ l_ h) : ACalls prog 33 [l_] h Ψ :=
  calls_of_evF func33 (by kernel_rfl) (by kernel_rfl) (by kernel_rfl)
    (Eq.mpr (by as_aux_lemma => kernel_rfl : oblF prog f33 (s33_A Ψ) Ψ = (True ∧ True ∧ ((True) ∧ (∀ (h : Heap) (x0 : AVal) (x1 : Int) (x2 : Bool), OI (s33c1 Ψ x0 x1 x2 h)) ∧ ((True ∧ True) ∧ True)) ∧ (True ∧ (∀ (h : Heap) (x0 : AVal) (x1 x2 : Int), ON (s33l2 Ψ 0 x0 x1 x2 h)) ∧ ∀ n2 : Nat, (∀ (h : Heap) (x0 : AVal) (x1 x2 : Int), OI (s33l2 Ψ (n2 + 1) x0 x1 x2 h)) ∧ ((True ∧ True ∧ True) ∧ (True ∧ (True ∧ True) ∧ True) ∧ True)) ∧ (True ∧ (∀ (h : Heap) (x0 : AVal) (x1 x2 : Int), ON (s33l3 Ψ 0 x0 x1 x2 h)) ∧ ∀ n3 : Nat, (∀ (h : Heap) (x0 : AVal) (x1 x2 : Int), OI (s33l3 Ψ (n3 + 1) x0 x1 x2 h)) ∧ ((True ∧ True ∧ True) ∧ (True ∧ (∀ (h : Heap) (x0 : AVal) (x1 x2 x3 : Int), ON (s33l4 Ψ (s33l3_G (s33l3 Ψ n3)) 0 x0 x1 x2 x3 h)) ∧ ∀ n4 : Nat, (∀ (h : Heap) (x0 : AVal) (x1 x2 x3 : Int), OI (s33l4 Ψ (s33l3_G (s33l3 Ψ n3)) (n4 + 1) x0 x1 x2 x3 h)) ∧ ((True ∧ True ∧ True) ∧ (((True) ∧ (∀ (h : Heap) (x0 : AVal) (x1 x2 x3 : Int) (x4 : Bool), OI (s33c5 Ψ (s33l3_G (s33l3 Ψ n3)) (s33l4_G (s33l4 Ψ (s33l3_G (s33l3 Ψ n3)) n4)) x0 x1 x2 x3 x4 h)) ∧ ((True ∧ True) ∧ True)) ∧ True ∧ (∀ (h : Heap) (x0 : AVal) (x1 x2 x3 x4 : Int), ON (s33l6 Ψ (s33l3_G (s33l3 Ψ n3)) (s33l4_G (s33l4 Ψ (s33l3_G (s33l3 Ψ n3)) n4)) 0 x0 x1 x2 x3 x4 h)) ∧ ∀ n6 : Nat, (∀ (h : Heap) (x0 : AVal) (x1 x2 x3 x4 : Int), OI (s33l6 Ψ (s33l3_G (s33l3 Ψ n3)) (s33l4_G (s33l4 Ψ (s33l3_G (s33l3 Ψ n3)) n4)) (n6 + 1) x0 x1 x2 x3 x4 h)) ∧ ((True ∧ True ∧ True) ∧ ((True) ∧ (∀ (h : Heap) (x0 : AVal) (x1 x2 x3 x4 : Int) (x5 : Bool), OI (s33c7 Ψ (s33l3_G (s33l3 Ψ n3)) (s33l4_G (s33l4 Ψ (s33l3_G (s33l3 Ψ n3)) n4)) (s33l6_G (s33l6 Ψ (s33l3_G (s33l3 Ψ n3)) (s33l4_G (s33l4 Ψ (s33l3_G (s33l3 Ψ n3)) n4)) n6)) x0 x1 x2 x3 x4 x5 h)) ∧ ((True ∧ True) ∧ True)) ∧ True)) ∧ True)) ∧ True)) ∧ True ∧ True)) ⟨trivial, ⟨trivial, ⟨⟨trivial, fun _ _ _ _ H => H, ⟨⟨trivial, trivial⟩, trivial⟩⟩, ⟨⟨trivial, ⟨fun _ _ _ _ H => H, fun _ => ⟨fun _ _ _ _ H => H, ⟨⟨trivial, ⟨trivial, trivial⟩⟩, ⟨⟨trivial, ⟨⟨trivial, trivial⟩, trivial⟩⟩, trivial⟩⟩⟩⟩⟩, ⟨⟨trivial, ⟨fun _ _ _ _ H => H, fun _ => ⟨fun _ _ _ _ H => H, ⟨⟨trivial, ⟨trivial, trivial⟩⟩, ⟨⟨trivial, ⟨fun _ _ _ _ _ H => H, fun _ => ⟨fun _ _ _ _ _ H => H, ⟨⟨trivial, ⟨trivial, trivial⟩⟩, ⟨⟨⟨trivial, fun _ _ _ _ _ _ H => H, ⟨⟨trivial, trivial⟩, trivial⟩⟩, ⟨trivial, ⟨fun _ _ _ _ _ _ H => H, fun _ => ⟨fun _ _ _ _ _ _ H => H, ⟨⟨trivial, ⟨trivial, trivial⟩⟩, ⟨⟨trivial, fun _ _ _ _ _ _ _ H => H, ⟨⟨trivial, trivial⟩, trivial⟩⟩, trivial⟩⟩⟩⟩⟩⟩, trivial⟩⟩⟩⟩⟩, trivial⟩⟩⟩⟩⟩, ⟨trivial, trivial⟩⟩⟩⟩⟩⟩)
    (Eq.mpr (by as_aux_lemma => kernel_rfl : evF prog f33 (s33_A Ψ) Ψ [l_] h = s33 Ψ l_ h) H)

/- 35 dictum/heyting.look$1 -/
def s35 (Ψ : AVal → Heap → Prop) (x : Int) (y : Int) (c0 : AVal) (h : Heap) : Prop :=
  addOff c0 0 fun p =>
  ld1 h p fun v =>
  ixS 1 v x fun p1 =>
  ld1 h p1 fun v1 =>
  ixS 1 v1 y fun p2 =>
  ld1 h p2 fun v2 =>
  tBool v2 fun v3 =>
  retG (.bool v3) h Ψ

def s35_A (Ψ : AVal → Heap → Prop) : Ann :=
  .seq (rA 1)
  (.seq (rA 9)
  (.leaf))

theorem s35_ok {Ψ : AVal → Heap → Prop} {x : Int} {y : Int} {c0 : AVal} {h : Heap} (H : s35 Ψ x y c0 h) : ACalls prog 35 [(.int .i64 x), (.int .i64 y), c0] h Ψ :=
  calls_of_evF func35 (by kernel_rfl) (by kernel_rfl) (by kernel_rfl)
    (Eq.mpr (by as_aux_lemma => kernel_rfl : oblF prog f35 (s35_A Ψ) Ψ = (True ∧ True ∧ True)) ⟨trivial, ⟨trivial, trivial⟩⟩)
    (Eq.mpr (by as_aux_lemma => kernel_rfl : evF prog f35 (s35_A Ψ) Ψ [(.int .i64 x), (.int .i64 y), c0] h = s35 Ψ x y c0 h) H)

/- 37 dictum/heyting.look$2 -/
def s37 (Ψ : AVal → Heap → Prop) (row : AVal) (c0 : AVal) (h : Heap) : Prop :=
  lenN row fun n =>
  ld1 h c0 fun v =>
  tInt .i64 v fun v1 =>
  retG (.bool (n != v1)) h Ψ

def s37_A (Ψ : AVal → Heap → Prop) : Ann :=
  .seq (rA 1)
  (.seq (rA 5)
  (.leaf))

theorem s37_ok {Ψ : AVal → Heap → Prop} {row : AVal} {c0 : AVal} {h : Heap} (H : s37 Ψ row c0 h) : ACalls prog 37 [row, c0] h Ψ :=
  calls_of_evF func37 (by kernel_rfl) (by kernel_rfl) (by kernel_rfl)
    (Eq.mpr (by as_aux_lemma => kernel_rfl : oblF prog f37 (s37_A Ψ) Ψ = (True ∧ True ∧ True)) ⟨trivial, ⟨trivial, trivial⟩⟩)
    (Eq.mpr (by as_aux_lemma => kernel_rfl : evF prog f37 (s37_A Ψ) Ψ [row, c0] h = s37 Ψ row c0 h) H)

/- 39 (dictum/heyting.lattice).tables -/
abbrev s39l1_T := AVal → AVal → AVal → Int → Int → Heap → Prop
def s39l1_R (F : s39l1_T) (l : List AVal) (h : Heap) : Prop := J.cons l fun x0 l => J.cons l fun x1 l => J.cons l fun x2 l => J.cons l fun v l => J.int .i64 v fun x3 => J.cons l fun v l => J.int .i64 v fun x4 => J.nil l (F x0 x1 x2 x3 x4 h)
def s39l1_G (F : s39l1_T) (x0 x1 x2 : AVal) (x3 x4 : Int) (h : Heap) : Prop := gJ [.any, .any, .any, .int .i64, .int .i64] [x0, x1, x2, (.int .i64 x3), (.int .i64 x4)] h (s39l1_R F)
def s39l1_E (F : Nat → s39l1_T) (x0 x1 x2 : AVal) (x3 x4 : Int) (h : Heap) : Prop := gJ [.any, .any, .any, .int .i64, .int .i64] [x0, x1, x2, (.int .i64 x3), (.int .i64 x4)] h (fun l h => ∃ n, s39l1_R (F n) l h)
theorem s39l1_go {F : s39l1_T} {x0 x1 x2 : AVal} {x3 x4 : Int} {h : Heap} (H : F x0 x1 x2 x3 x4 h) : s39l1_G F x0 x1 x2 x3 x4 h := gJ_plain rfl H
theorem s39l1_in {F : Nat → s39l1_T} {x0 x1 x2 : AVal} {x3 x4 : Int} {h : Heap} (n : Nat) (H : F n x0 x1 x2 x3 x4 h) : s39l1_E F x0 x1 x2 x3 x4 h := gJ_plain rfl ⟨n, H⟩

abbrev s39l2_T := AVal → AVal → AVal → Int → Int → Int → Int → Int → Heap → Prop
def s39l2_R (F : s39l2_T) (l : List AVal) (h : Heap) : Prop := J.cons l fun x0 l => J.cons l fun x1 l => J.cons l fun x2 l => J.cons l fun v l => J.int .i64 v fun x3 => J.cons l fun v l => J.int .i64 v fun x4 => J.cons l fun v l => J.int .i64 v fun x5 => J.cons l fun v l => J.int .i64 v fun x6 => J.cons l fun v l => J.int .i64 v fun x7 => J.nil l (F x0 x1 x2 x3 x4 x5 x6 x7 h)
def s39l2_G (F : s39l2_T) (x0 x1 x2 : AVal) (x3 x4 x5 x6 x7 : Int) (h : Heap) : Prop := gJ [.any, .any, .any, .int .i64, .int .i64, .int .i64, .int .i64, .int .i64] [x0, x1, x2, (.int .i64 x3), (.int .i64 x4), (.int .i64 x5), (.int .i64 x6), (.int .i64 x7)] h (s39l2_R F)
def s39l2_E (F : Nat → s39l2_T) (x0 x1 x2 : AVal) (x3 x4 x5 x6 x7 : Int) (h : Heap) : Prop := gJ [.any, .any, .any, .int .i64, .int .i64, .int .i64, .int .i64, .int .i64] [x0, x1, x2, (.int .i64 x3), (.int .i64 x4), (.int .i64 x5), (.int .i64 x6), (.int .i64 x7)] h (fun l h => ∃ n, s39l2_R (F n) l h)
theorem s39l2_go {F : s39l2_T} {x0 x1 x2 : AVal} {x3 x4 x5 x6 x7 : Int} {h : Heap} (H : F x0 x1 x2 x3 x4 x5 x6 x7 h) : s39l2_G F x0 x1 x2 x3 x4 x5 x6 x7 h := gJ_plain rfl H
theorem s39l2_in {F : Nat → s39l2_T} {x0 x1 x2 : AVal} {x3 x4 x5 x6 x7 : Int} {h : Heap} (n : Nat) (H : F n x0 x1 x2 x3 x4 x5 x6 x7 h) : s39l2_E F x0 x1 x2 x3 x4 x5 x6 x7 h := gJ_plain rfl ⟨n, H⟩

def s39c3 (Ψ : AVal → Heap → Prop) (L1 : s39l1_T) (L2 : s39l2_T) (l_14 meets2 joins2 : AVal) (x1 m j t20_2 t21_2 t25_1 t26_1 : Int) (t48 : Bool) (h : Heap) : Prop :=
  ifT t48 (
    retG (.tuple [.nilsl, .nilsl, (.bool false)]) h Ψ) (
    ixS 1 meets2 x1 fun p1 =>
    ld1 h p1 fun v20 =>
    appC 1 8 h v20 (.lsl 1 [(.int .i64 m)]) fun v21 h_4 =>
    ixS 1 meets2 x1 fun p2 =>
    chk (sc v21) (
      st true h_4 p2 [v21] fun h_5 =>
      ixS 1 joins2 x1 fun p3 =>
      ld1 h_5 p3 fun v22 =>
      appC 1 8 h_5 v22 (.lsl 1 [(.int .i64 j)]) fun v23 h_6 =>
      ixS 1 joins2 x1 fun p4 =>
      chk (sc v23) (
        st true h_6 p4 [v23] fun h_7 =>
        rg (t26_1 + 1) (
          L2 l_14 meets2 joins2 x1 t20_2 t21_2 t25_1 (t26_1 + 1) h_7))))

def s39l2 (Ψ : AVal → Heap → Prop) (L1 : s39l1_T) : Nat → s39l2_T
  | 0, _, _, _, _, _, _, _, _, _ => False
  | n1 + 1, l_1, meets1, joins1, x, t20_1, t21_1, t25, t26, h =>
    ifT (decide (t26 < t25)) (
      ldN 2 h l_1 fun l_2 =>
      tCons l_2 fun v4 l_3 =>
      tInt .i64 v4 fun v5 =>
      tCons l_3 fun v6 l_4 =>
      tNil l_4 (
        callG prog 30 [(.agg [(.int .i64 v5), v6]), (.int .i64 x), (.int .i64 t26)] h fun v7 h_2 =>
        tTup v7 fun l_5 =>
        tCons l_5 fun v8 l_6 =>
        tInt .i64 v8 fun v9 =>
        tCons l_6 fun v10 l_7 =>
        tBool v10 fun v11 =>
        tNil l_7 (
          ldN 2 h_2 l_1 fun l_8 =>
          tCons l_8 fun v12 l_9 =>
          tInt .i64 v12 fun v13 =>
          tCons l_9 fun v14 l_10 =>
          tNil l_10 (
            callG prog 25 [(.agg [(.int .i64 v13), v14]), (.int .i64 x), (.int .i64 t26)] h_2 fun v15 h_3 =>
            tTup v15 fun l_11 =>
            tCons l_11 fun v16 l_12 =>
            tInt .i64 v16 fun v17 =>
            tCons l_12 fun v18 l_13 =>
            tBool v18 fun v19 =>
            tNil l_13 (
              ifT (!v11) (
                s39c3 Ψ L1 (s39l2_G (s39l2 Ψ L1 n1)) l_1 meets1 joins1 x v9 v17 t20_1 t21_1 t25 t26 true h_3) (
                s39c3 Ψ L1 (s39l2_G (s39l2 Ψ L1 n1)) l_1 meets1 joins1 x v9 v17 t20_1 t21_1 t25 t26 (!v19) h_3)))))) (
      rg (t21_1 + 1) (
        L1 l_1 meets1 joins1 t20_1 (t21_1 + 1) h))

def s39l1 (Ψ : AVal → Heap → Prop) : Nat → s39l1_T
  | 0, _, _, _, _, _, _ => False
  | n + 1, l_, meets, joins, t20, t21, h =>
    ifT (decide (t21 < t20)) (
      addOff l_ 0 fun p =>
      ld1 h p fun v2 =>
      tInt .i64 v2 fun v3 =>
      s39l2_E (s39l2 Ψ (s39l1_G (s39l1 Ψ n))) l_ meets joins t21 t20 t21 v3 0 h) (
      retG (.tuple [meets, joins, (.bool true)]) h Ψ)

def s39 (Ψ : AVal → Heap → Prop) (l_n : Int) (l_leq : AVal) (h : Heap) : Prop :=
  (mkS false 1 24 .nilsl h l_n l_n fun v h_ =>
  ((AVal.int .i64 l_n) = (.int .i64 l_n)) ∧
  mkS false 1 24 .nilsl h_ l_n l_n fun v1 h_1 =>
  s39l1_E (s39l1 Ψ) (.lptr [(.int .i64 l_n), l_leq]) v v1 l_n 0 h_1) ∧
  mkS false 1 24 .nilsl h l_n l_n fun v24 h_8 =>
  ((AVal.int .i64 l_n) = (.int .i64 l_n)) ∧
  mkS false 1 24 .nilsl h_8 l_n l_n fun v25 h_9 =>
  s39l1_E (s39l1 Ψ) (.lptr [(.int .i64 l_n), l_leq]) v25 v24 l_n 0 h_9

def s39_A (Ψ : AVal → Heap → Prop) : Ann :=
  .seq (.reg [⟨none, [(0, true), (1, false), (2, false), (3, false)]⟩])
  (.seq (.drawT (.split 2 5 (.leaf [(0, false), (1, false), (3, false), (4, false), (2, false), (6, false), (5, false), (7, false)]) (.leaf [(0, false), (1, false), (3, false), (4, false), (5, false), (2, false), (6, false), (7, false)])) [0, 1, 3, 0, 8, 24, 7, 127])
  (.seq (.seq (rA 3)
  (.block (.loop [(1, .any), (5, .any), (6, .any), (20, .int .i64), (21, .int .i64)] (fun n l h => s39l1_R (s39l1 Ψ n) l h) (fun L1 =>
  .seq (rA 1)
  (.seq (.cond (.leaf)
  (.leaf))
  (.seq (.block (.seq (rA 2)
  (.seq (rA 3)
  (.block (.loop [(1, .any), (5, .any), (6, .any), (7, .int .i64), (20, .int .i64), (21, .int .i64), (25, .int .i64), (26, .int .i64)] (fun n l h => s39l2_R (s39l2 Ψ (fun y0 y1 y2 y3 y4 h => L1 [y0, y1, y2, (.int .i64 y3), (.int .i64 y4)] h) n) l h) (fun L2 =>
  .seq (rA 1)
  (.seq (.cond (.leaf)
  (.leaf))
  (.seq (.block (.seq (rA 2)
  (.seq (rA 9)
  (.seq (rA 9)
  (.seq (.cut [(1, .any), (5, .any), (6, .any), (7, .int .i64), (9, .int .i64), (11, .int .i64), (20, .int .i64), (21, .int .i64), (25, .int .i64), (26, .int .i64), (48, .bool)] (fun l h => J.cons l fun x0 l => J.cons l fun x1 l => J.cons l fun x2 l => J.cons l fun v l => J.int .i64 v fun x3 => J.cons l fun v l => J.int .i64 v fun x4 => J.cons l fun v l => J.int .i64 v fun x5 => J.cons l fun v l => J.int .i64 v fun x6 => J.cons l fun v l => J.int .i64 v fun x7 => J.cons l fun v l => J.int .i64 v fun x8 => J.cons l fun v l => J.int .i64 v fun x9 => J.cons l fun v l => J.bool v fun x10 => J.nil l (s39c3 Ψ (fun y0 y1 y2 y3 y4 h => L1 [y0, y1, y2, (.int .i64 y3), (.int .i64 y4)] h) (fun y0 y1 y2 y3 y4 y5 y6 y7 h => L2 [y0, y1, y2, (.int .i64 y3), (.int .i64 y4), (.int .i64 y5), (.int .i64 y6), (.int .i64 y7)] h) x0 x1 x2 x3 x4 x5 x6 x7 x8 x9 x10 h)) (.reg [⟨none, [(0, false), (1, false), (2, false)]⟩, ⟨some (45, false), [(3, false), (4, false)]⟩, ⟨none, [(5, false)]⟩])
  (.cond (.seq (rA 3)
  (.leaf))
  (.leaf)))
  (.seq (.reg [⟨none, [(0, false), (1, false), (2, false), (3, false), (4, false), (5, false), (6, false), (7, true), (8, false), (9, false), (10, false)]⟩])
  (.reg [⟨none, [(0, false), (1, false), (2, false), (3, false), (4, false), (5, false), (6, false), (7, true), (8, false), (9, false), (10, false)]⟩])))))))
  (rA 2)))))))))
  (rA 2)))))))
  (.seq (rA 5)
  (.leaf))))

theorem s39_ok {Ψ : AVal → Heap → Prop} {l_n : Int} {l_leq : AVal} {h : Heap} (H : s39 Ψ l_n l_leq h) : ACalls prog 39 [(.agg [(.int .i64 l_n), l_leq])] h Ψ :=
  calls_of_evF func39 (by kernel_rfl) (by kernel_rfl) (by kernel_rfl)
    (Eq.mpr (by as_aux_lemma => kernel_rfl : oblF prog f39 (s39_A Ψ) Ψ = (True ∧ True ∧ (True ∧ (∀ (h : Heap) (x0 x1 x2 : AVal) (x3 x4 : Int), ON (s39l1 Ψ 0 x0 x1 x2 x3 x4 h)) ∧ ∀ n1 : Nat, (∀ (h : Heap) (x0 x1 x2 : AVal) (x3 x4 : Int), OI (s39l1 Ψ (n1 + 1) x0 x1 x2 x3 x4 h)) ∧ (True ∧ (True ∧ True) ∧ (True ∧ True ∧ (∀ (h : Heap) (x0 x1 x2 : AVal) (x3 x4 x5 x6 x7 : Int), ON (s39l2 Ψ (s39l1_G (s39l1 Ψ n1)) 0 x0 x1 x2 x3 x4 x5 x6 x7 h)) ∧ ∀ n2 : Nat, (∀ (h : Heap) (x0 x1 x2 : AVal) (x3 x4 x5 x6 x7 : Int), OI (s39l2 Ψ (s39l1_G (s39l1 Ψ n1)) (n2 + 1) x0 x1 x2 x3 x4 x5 x6 x7 h)) ∧ (True ∧ (True ∧ True) ∧ (True ∧ True ∧ True ∧ ((True) ∧ (∀ (h : Heap) (x0 x1 x2 : AVal) (x3 x4 x5 x6 x7 x8 x9 : Int) (x10 : Bool), OI (s39c3 Ψ (s39l1_G (s39l1 Ψ n1)) (s39l2_G (s39l2 Ψ (s39l1_G (s39l1 Ψ n1)) n2)) x0 x1 x2 x3 x4 x5 x6 x7 x8 x9 x10 h)) ∧ ((True ∧ True) ∧ True)) ∧ True ∧ True) ∧ True)) ∧ True)) ∧ True ∧ True)) ⟨trivial, ⟨trivial, ⟨⟨trivial, ⟨fun _ _ _ _ _ _ H => H, fun _ => ⟨fun _ _ _ _ _ _ H => H, ⟨trivial, ⟨⟨trivial, trivial⟩, ⟨⟨trivial, ⟨trivial, ⟨fun _ _ _ _ _ _ _ _ _ H => H, fun _ => ⟨fun _ _ _ _ _ _ _ _ _ H => H, ⟨trivial, ⟨⟨trivial, trivial⟩, ⟨⟨trivial, ⟨trivial, ⟨trivial, ⟨⟨trivial, fun _ _ _ _ _ _ _ _ _ _ _ _ H => H, ⟨⟨trivial, trivial⟩, trivial⟩⟩, ⟨trivial, trivial⟩⟩⟩⟩⟩, trivial⟩⟩⟩⟩⟩⟩⟩, trivial⟩⟩⟩⟩⟩⟩, ⟨trivial, trivial⟩⟩⟩⟩)
    (Eq.mpr (by as_aux_lemma => kernel_rfl : evF prog f39 (s39_A Ψ) Ψ [(.agg [(.int .i64 l_n), l_leq])] h = s39 Ψ l_n l_leq h) H)

/- 41 dictum/heyting.best -/
abbrev s41l1_T := Int → AVal → AVal → Int → Int → Heap → Prop
def s41l1_R (F : s41l1_T) (l : List AVal) (h : Heap) : Prop := J.cons l fun v l => J.int .i64 v fun x0 => J.cons l fun x1 l => J.cons l fun x2 l => J.cons l fun v l => J.int .i64 v fun x3 => J.cons l fun v l => J.int .i64 v fun x4 => J.nil l (F x0 x1 x2 x3 x4 h)
def s41l1_G (F : s41l1_T) (x0 : Int) (x1 x2 : AVal) (x3 x4 : Int) (h : Heap) : Prop := gJ [.int .i64, .any, .any, .int .i64, .int .i64] [(.int .i64 x0), x1, x2, (.int .i64 x3), (.int .i64 x4)] h (s41l1_R F)
def s41l1_E (F : Nat → s41l1_T) (x0 : Int) (x1 x2 : AVal) (x3 x4 : Int) (h : Heap) : Prop := gJ [.int .i64, .any, .any, .int .i64, .int .i64] [(.int .i64 x0), x1, x2, (.int .i64 x3), (.int .i64 x4)] h (fun l h => ∃ n, s41l1_R (F n) l h)
theorem s41l1_go {F : s41l1_T} {x0 : Int} {x1 x2 : AVal} {x3 x4 : Int} {h : Heap} (H : F x0 x1 x2 x3 x4 h) : s41l1_G F x0 x1 x2 x3 x4 h := gJ_plain rfl H
theorem s41l1_in {F : Nat → s41l1_T} {x0 : Int} {x1 x2 : AVal} {x3 x4 : Int} {h : Heap} (n : Nat) (H : F n x0 x1 x2 x3 x4 h) : s41l1_E F x0 x1 x2 x3 x4 h := gJ_plain rfl ⟨n, H⟩

def s41c2 (Ψ : AVal → Heap → Prop) (L1 : s41l1_T) (n3 : Int) (is2 over2 : AVal) (t11_1 t12_1 : Int) (h : Heap) : Prop :=
  rg (t12_1 + 1) (
    L1 n3 is2 over2 t11_1 (t12_1 + 1) h)

abbrev s41l3_T := Int → AVal → AVal → Int → Bool → Int → Int → Int → Int → Heap → Prop
def s41l3_R (F : s41l3_T) (l : List AVal) (h : Heap) : Prop := J.cons l fun v l => J.int .i64 v fun x0 => J.cons l fun x1 l => J.cons l fun x2 l => J.cons l fun v l => J.int .i64 v fun x3 => J.cons l fun v l => J.bool v fun x4 => J.cons l fun v l => J.int .i64 v fun x5 => J.cons l fun v l => J.int .i64 v fun x6 => J.cons l fun v l => J.int .i64 v fun x7 => J.cons l fun v l => J.int .i64 v fun x8 => J.nil l (F x0 x1 x2 x3 x4 x5 x6 x7 x8 h)
def s41l3_G (F : s41l3_T) (x0 : Int) (x1 x2 : AVal) (x3 : Int) (x4 : Bool) (x5 x6 x7 x8 : Int) (h : Heap) : Prop := gJ [.int .i64, .any, .any, .int .i64, .bool, .int .i64, .int .i64, .int .i64, .int .i64] [(.int .i64 x0), x1, x2, (.int .i64 x3), (.bool x4), (.int .i64 x5), (.int .i64 x6), (.int .i64 x7), (.int .i64 x8)] h (s41l3_R F)
def s41l3_E (F : Nat → s41l3_T) (x0 : Int) (x1 x2 : AVal) (x3 : Int) (x4 : Bool) (x5 x6 x7 x8 : Int) (h : Heap) : Prop := gJ [.int .i64, .any, .any, .int .i64, .bool, .int .i64, .int .i64, .int .i64, .int .i64] [(.int .i64 x0), x1, x2, (.int .i64 x3), (.bool x4), (.int .i64 x5), (.int .i64 x6), (.int .i64 x7), (.int .i64 x8)] h (fun l h => ∃ n, s41l3_R (F n) l h)
theorem s41l3_go {F : s41l3_T} {x0 : Int} {x1 x2 : AVal} {x3 : Int} {x4 : Bool} {x5 x6 x7 x8 : Int} {h : Heap} (H : F x0 x1 x2 x3 x4 x5 x6 x7 x8 h) : s41l3_G F x0 x1 x2 x3 x4 x5 x6 x7 x8 h := gJ_plain rfl H
theorem s41l3_in {F : Nat → s41l3_T} {x0 : Int} {x1 x2 : AVal} {x3 : Int} {x4 : Bool} {x5 x6 x7 x8 : Int} {h : Heap} (n : Nat) (H : F n x0 x1 x2 x3 x4 x5 x6 x7 x8 h) : s41l3_E F x0 x1 x2 x3 x4 x5 x6 x7 x8 h := gJ_plain rfl ⟨n, H⟩

def s41c4 (Ψ : AVal → Heap → Prop) (L1 : s41l1_T) (L3 : s41l3_T) (n6 : Int) (is4 over4 : AVal) (z1 : Int) (top1 : Bool) (t11_3 t12_3 t19_1 t20_1 : Int) (h : Heap) : Prop :=
  rg (t20_1 + 1) (
    L3 n6 is4 over4 z1 top1 t11_3 t12_3 t19_1 (t20_1 + 1) h)

def s41l3 (Ψ : AVal → Heap → Prop) (L1 : s41l1_T) : Nat → s41l3_T
  | 0, _, _, _, _, _, _, _, _, _, _ => False
  | n5 + 1, n4, is3, over3, z, top, t11_2, t12_2, t19, t20, h =>
    ifT (decide (t20 < t19)) (
      ifT top (
        callV prog is3 [(.int .i64 t20)] h fun v2 h_1 =>
        tBool v2 fun v3 =>
        ifT (!v3) (
          s41c4 Ψ L1 (s41l3_G (s41l3 Ψ L1 n5)) n4 is3 over3 z true t11_2 t12_2 t19 t20 h_1) (
          callV prog over3 [(.int .i64 z), (.int .i64 t20)] h_1 fun v4 h_2 =>
          tBool v4 fun v5 =>
          s41c4 Ψ L1 (s41l3_G (s41l3 Ψ L1 n5)) n4 is3 over3 z v5 t11_2 t12_2 t19 t20 h_2)) (
        s41c4 Ψ L1 (s41l3_G (s41l3 Ψ L1 n5)) n4 is3 over3 z false t11_2 t12_2 t19 t20 h)) (
      ifT top (
        retG (.tuple [(.int .i64 z), (.bool true)]) h Ψ) (
        s41c2 Ψ L1 n4 is3 over3 t11_2 t12_2 h))

def s41l1 (Ψ : AVal → Heap → Prop) : Nat → s41l1_T
  | 0, _, _, _, _, _, _ => False
  | n2 + 1, n1, is1, over1, t11, t12, h =>
    ifT (decide (t12 < t11)) (
      callV prog is1 [(.int .i64 t12)] h fun v h_ =>
      tBool v fun v1 =>
      ifT (!v1) (
        s41c2 Ψ (s41l1_G (s41l1 Ψ n2)) n1 is1 over1 t11 t12 h_) (
        s41l3_E (s41l3 Ψ (s41l1_G (s41l1 Ψ n2))) n1 is1 over1 t12 true t11 t12 n1 0 h_)) (
      retG (.tuple [(.int .i64 0), (.bool false)]) h Ψ)

def s41 (Ψ : AVal → Heap → Prop) (n : Int) (is : AVal) (over : AVal) (h : Heap) : Prop :=
  s41l1_E (s41l1 Ψ) n is over n 0 h

def s41_A (Ψ : AVal → Heap → Prop) : Ann :=
  .seq (rA 2)
  (.seq (.seq (rA 2)
  (.block (.loop [(0, .int .i64), (1, .any), (2, .any), (11, .int .i64), (12, .int .i64)] (fun n l h => s41l1_R (s41l1 Ψ n) l h) (fun L1 =>
  .seq (rA 1)
  (.seq (.cond (.leaf)
  (.leaf))
  (.cut [(0, .int .i64), (1, .any), (2, .any), (11, .int .i64), (12, .int .i64)] (fun l h => J.cons l fun v l => J.int .i64 v fun x0 => J.cons l fun x1 l => J.cons l fun x2 l => J.cons l fun v l => J.int .i64 v fun x3 => J.cons l fun v l => J.int .i64 v fun x4 => J.nil l (s41c2 Ψ (fun y0 y1 y2 y3 y4 h => L1 [(.int .i64 y0), y1, y2, (.int .i64 y3), (.int .i64 y4)] h) x0 x1 x2 x3 x4 h)) (.block (.seq (rA 2)
  (.seq (.seq (rA 4)
  (.cond (.leaf)
  (.leaf)))
  (.seq (rA 1)
  (.seq (.seq (rA 2)
  (.block (.loop [(0, .int .i64), (1, .any), (2, .any), (8, .int .i64), (9, .bool), (11, .int .i64), (12, .int .i64), (19, .int .i64), (20, .int .i64)] (fun n l h => s41l3_R (s41l3 Ψ (fun y0 y1 y2 y3 y4 h => L1 [(.int .i64 y0), y1, y2, (.int .i64 y3), (.int .i64 y4)] h) n) l h) (fun L3 =>
  .seq (rA 1)
  (.seq (.cond (.leaf)
  (.leaf))
  (.cut [(0, .int .i64), (1, .any), (2, .any), (8, .int .i64), (9, .bool), (11, .int .i64), (12, .int .i64), (19, .int .i64), (20, .int .i64)] (fun l h => J.cons l fun v l => J.int .i64 v fun x0 => J.cons l fun x1 l => J.cons l fun x2 l => J.cons l fun v l => J.int .i64 v fun x3 => J.cons l fun v l => J.bool v fun x4 => J.cons l fun v l => J.int .i64 v fun x5 => J.cons l fun v l => J.int .i64 v fun x6 => J.cons l fun v l => J.int .i64 v fun x7 => J.cons l fun v l => J.int .i64 v fun x8 => J.nil l (s41c4 Ψ (fun y0 y1 y2 y3 y4 h => L1 [(.int .i64 y0), y1, y2, (.int .i64 y3), (.int .i64 y4)] h) (fun y0 y1 y2 y3 y4 y5 y6 y7 y8 h => L3 [(.int .i64 y0), y1, y2, (.int .i64 y3), (.bool y4), (.int .i64 y5), (.int .i64 y6), (.int .i64 y7), (.int .i64 y8)] h) x0 x1 x2 x3 x4 x5 x6 x7 x8 h)) (.block (.seq (rA 2)
  (.reg [⟨none, [(0, false), (1, false)]⟩, ⟨some (24, true), [(2, false), (3, false), (4, false), (5, false), (6, false)]⟩, ⟨some (29, false), [(7, false), (8, false), (9, false), (10, false)]⟩, ⟨some (24, true), [(11, false)]⟩, ⟨none, [(12, false), (13, false)]⟩])))
  (rA 2)))))))
  (.seq (rA 1)
  (.cond (.seq (rA 3)
  (.leaf))
  (.leaf))))))))
  (rA 2)))))))
  (.seq (rA 2)
  (.leaf)))

theorem s41_ok {Ψ : AVal → Heap → Prop} {n : Int} {is : AVal} {over : AVal} {h : Heap} (H : s41 Ψ n is over h) : ACalls prog 41 [(.int .i64 n), is, over] h Ψ :=
  calls_of_evF func41 (by kernel_rfl) (by kernel_rfl) (by kernel_rfl)
    (Eq.mpr (by as_aux_lemma => kernel_rfl : oblF prog f41 (s41_A Ψ) Ψ = (True ∧ (True ∧ (∀ (h : Heap) (x0 : Int) (x1 x2 : AVal) (x3 x4 : Int), ON (s41l1 Ψ 0 x0 x1 x2 x3 x4 h)) ∧ ∀ n1 : Nat, (∀ (h : Heap) (x0 : Int) (x1 x2 : AVal) (x3 x4 : Int), OI (s41l1 Ψ (n1 + 1) x0 x1 x2 x3 x4 h)) ∧ (True ∧ (True ∧ True) ∧ (True ∧ (True ∧ True ∧ True) ∧ True ∧ (True ∧ (∀ (h : Heap) (x0 : Int) (x1 x2 : AVal) (x3 : Int) (x4 : Bool) (x5 x6 x7 x8 : Int), ON (s41l3 Ψ (s41l1_G (s41l1 Ψ n1)) 0 x0 x1 x2 x3 x4 x5 x6 x7 x8 h)) ∧ ∀ n3 : Nat, (∀ (h : Heap) (x0 : Int) (x1 x2 : AVal) (x3 : Int) (x4 : Bool) (x5 x6 x7 x8 : Int), OI (s41l3 Ψ (s41l1_G (s41l1 Ψ n1)) (n3 + 1) x0 x1 x2 x3 x4 x5 x6 x7 x8 h)) ∧ (True ∧ (True ∧ True) ∧ (True ∧ True) ∧ (∀ (h : Heap) (x0 : Int) (x1 x2 : AVal) (x3 : Int) (x4 : Bool) (x5 x6 x7 x8 : Int), OI (s41c4 Ψ (s41l1_G (s41l1 Ψ n1)) (s41l3_G (s41l3 Ψ (s41l1_G (s41l1 Ψ n1)) n3)) x0 x1 x2 x3 x4 x5 x6 x7 x8 h)) ∧ (True))) ∧ True ∧ (True ∧ True) ∧ True) ∧ (∀ (h : Heap) (x0 : Int) (x1 x2 : AVal) (x3 x4 : Int), OI (s41c2 Ψ (s41l1_G (s41l1 Ψ n1)) x0 x1 x2 x3 x4 h)) ∧ (True))) ∧ True ∧ True)) ⟨trivial, ⟨⟨trivial, ⟨fun _ _ _ _ _ _ H => H, fun _ => ⟨fun _ _ _ _ _ _ H => H, ⟨trivial, ⟨⟨trivial, trivial⟩, ⟨⟨trivial, ⟨⟨trivial, ⟨trivial, trivial⟩⟩, ⟨trivial, ⟨⟨trivial, ⟨fun _ _ _ _ _ _ _ _ _ _ H => H, fun _ => ⟨fun _ _ _ _ _ _ _ _ _ _ H => H, ⟨trivial, ⟨⟨trivial, trivial⟩, ⟨⟨trivial, trivial⟩, fun _ _ _ _ _ _ _ _ _ _ H => H, trivial⟩⟩⟩⟩⟩⟩, ⟨trivial, ⟨⟨trivial, trivial⟩, trivial⟩⟩⟩⟩⟩⟩, fun _ _ _ _ _ _ H => H, trivial⟩⟩⟩⟩⟩⟩, ⟨trivial, trivial⟩⟩⟩)
    (Eq.mpr (by as_aux_lemma => kernel_rfl : evF prog f41 (s41_A Ψ) Ψ [(.int .i64 n), is, over] h = s41 Ψ n is over h) H)

/- 43 (dictum/heyting.lattice).up -/
def s43 (Ψ : AVal → Heap → Prop) (l_n : Int) (l_leq : AVal) (z : Int) (w : Int) (h : Heap) : Prop :=
  callV prog l_leq [(.int .i64 w), (.int .i64 z)] h fun v h_ =>
  tBool v fun v1 =>
  retG (.bool v1) h_ Ψ

def s43_A (Ψ : AVal → Heap → Prop) : Ann :=
  .seq (.reg [⟨none, [(0, true), (1, false)]⟩])
  (.seq (rA 6)
  (.leaf))

theorem s43_ok {Ψ : AVal → Heap → Prop} {l_n : Int} {l_leq : AVal} {z : Int} {w : Int} {h : Heap} (H : s43 Ψ l_n l_leq z w h) : ACalls prog 43 [(.agg [(.int .i64 l_n), l_leq]), (.int .i64 z), (.int .i64 w)] h Ψ :=
  calls_of_evF func43 (by kernel_rfl) (by kernel_rfl) (by kernel_rfl)
    (Eq.mpr (by as_aux_lemma => kernel_rfl : oblF prog f43 (s43_A Ψ) Ψ = (True ∧ True ∧ True)) ⟨trivial, ⟨trivial, trivial⟩⟩)
    (Eq.mpr (by as_aux_lemma => kernel_rfl : evF prog f43 (s43_A Ψ) Ψ [(.agg [(.int .i64 l_n), l_leq]), (.int .i64 z), (.int .i64 w)] h = s43 Ψ l_n l_leq z w h) H)

/- 45 dictum/worlds.asked -/
abbrev s45l1_T := AVal → AVal → AVal → Int → Int → Heap → Prop
def s45l1_R (F : s45l1_T) (l : List AVal) (h : Heap) : Prop := J.cons l fun x0 l => J.cons l fun x1 l => J.cons l fun x2 l => J.cons l fun v l => J.int .i64 v fun x3 => J.cons l fun v l => J.int .i64 v fun x4 => J.nil l (F x0 x1 x2 x3 x4 h)
def s45l1_G (F : s45l1_T) (x0 x1 x2 : AVal) (x3 x4 : Int) (h : Heap) : Prop := gJ [.any, .any, .any, .int .i64, .int .i64] [x0, x1, x2, (.int .i64 x3), (.int .i64 x4)] h (s45l1_R F)
def s45l1_E (F : Nat → s45l1_T) (x0 x1 x2 : AVal) (x3 x4 : Int) (h : Heap) : Prop := gJ [.any, .any, .any, .int .i64, .int .i64] [x0, x1, x2, (.int .i64 x3), (.int .i64 x4)] h (fun l h => ∃ n, s45l1_R (F n) l h)
theorem s45l1_go {F : s45l1_T} {x0 x1 x2 : AVal} {x3 x4 : Int} {h : Heap} (H : F x0 x1 x2 x3 x4 h) : s45l1_G F x0 x1 x2 x3 x4 h := gJ_plain rfl H
theorem s45l1_in {F : Nat → s45l1_T} {x0 x1 x2 : AVal} {x3 x4 : Int} {h : Heap} (n : Nat) (H : F n x0 x1 x2 x3 x4 h) : s45l1_E F x0 x1 x2 x3 x4 h := gJ_plain rfl ⟨n, H⟩

def s45c2 (Ψ : AVal → Heap → Prop) (L1 : s45l1_T) (m1 leq1 t17_1 : AVal) (t18_1 t19_1 : Int) (t31 : Bool) (h : Heap) : Prop :=
  ifT t31 (
    retG (.tuple [.nilfunc, (.int .i64 2)]) h Ψ) (
    rg (t19_1 + 1) (
      L1 m1 leq1 t17_1 t18_1 (t19_1 + 1) h))

def s45l1 (Ψ : AVal → Heap → Prop) : Nat → s45l1_T
  | 0, _, _, _, _, _, _ => False
  | n1 + 1, m, leq, t17, t18, t19, h =>
    ifT (decide (t19 < t18)) (
      ixS 1 t17 t19 fun p =>
      ld1 h p fun v4 =>
      tInt .i64 v4 fun v5 =>
      ifT (decide (v5 < 0)) (
        s45c2 Ψ (s45l1_G (s45l1 Ψ n1)) m leq t17 t18 t19 true h) (
        addOff m 0 fun p1 =>
        ld1 h p1 fun v6 =>
        lenN v6 fun n2 =>
        s45c2 Ψ (s45l1_G (s45l1 Ψ n1)) m leq t17 t18 t19 (decide (n2 ≤ v5)) h)) (
      retG (.tuple [leq, (.int .i64 0)]) h Ψ)

def s45 (Ψ : AVal → Heap → Prop) (m_Up : AVal) (m_Val : AVal) (worlds : AVal) (h : Heap) : Prop :=
  callG prog 60 [(.agg [m_Up, m_Val])] h fun v h_ =>
  tTup v fun l_ =>
  tCons l_ fun v1 l_1 =>
  tCons l_1 fun v2 l_2 =>
  tBool v2 fun v3 =>
  tNil l_2 (
    ifT (!v3) (
      retG (.tuple [.nilfunc, (.int .i64 170)]) h_ Ψ) (
      lenN worlds fun n =>
      s45l1_E (s45l1 Ψ) (.lptr [m_Up, m_Val]) v1 worlds n 0 h_))

def s45_A (Ψ : AVal → Heap → Prop) : Ann :=
  .seq (.reg [⟨none, [(0, true), (1, false), (2, false)]⟩])
  (.seq (rA 7)
  (.seq (.seq (rA 2)
  (.cond (.seq (rA 2)
  (.leaf))
  (.leaf)))
  (.seq (.seq (rA 3)
  (.block (.loop [(2, .any), (6, .any), (17, .any), (18, .int .i64), (19, .int .i64)] (fun n l h => s45l1_R (s45l1 Ψ n) l h) (fun L1 =>
  .seq (rA 1)
  (.seq (.cond (.leaf)
  (.leaf))
  (.seq (.block (.seq (rA 3)
  (.cut [(2, .any), (6, .any), (17, .any), (18, .int .i64), (19, .int .i64), (31, .bool)] (fun l h => J.cons l fun x0 l => J.cons l fun x1 l => J.cons l fun x2 l => J.cons l fun v l => J.int .i64 v fun x3 => J.cons l fun v l => J.int .i64 v fun x4 => J.cons l fun v l => J.bool v fun x5 => J.nil l (s45c2 Ψ (fun y0 y1 y2 y3 y4 h => L1 [y0, y1, y2, (.int .i64 y3), (.int .i64 y4)] h) x0 x1 x2 x3 x4 x5 h)) (.reg [⟨none, [(0, false), (1, false), (2, false)]⟩, ⟨some (25, false), [(3, false), (4, false), (5, false), (6, false), (7, false)]⟩, ⟨none, [(8, false)]⟩])
  (.cond (.seq (rA 2)
  (.leaf))
  (.leaf)))))
  (rA 2)))))))
  (.seq (rA 3)
  (.leaf)))))

theorem s45_ok {Ψ : AVal → Heap → Prop} {m_Up : AVal} {m_Val : AVal} {worlds : AVal} {h : Heap} (H : s45 Ψ m_Up m_Val worlds h) : ACalls prog 45 [(.agg [m_Up, m_Val]), worlds] h Ψ :=
  calls_of_evF func45 (by kernel_rfl) (by kernel_rfl) (by kernel_rfl)
    (Eq.mpr (by as_aux_lemma => kernel_rfl : oblF prog f45 (s45_A Ψ) Ψ = (True ∧ True ∧ (True ∧ (True ∧ True) ∧ True) ∧ (True ∧ (∀ (h : Heap) (x0 x1 x2 : AVal) (x3 x4 : Int), ON (s45l1 Ψ 0 x0 x1 x2 x3 x4 h)) ∧ ∀ n1 : Nat, (∀ (h : Heap) (x0 x1 x2 : AVal) (x3 x4 : Int), OI (s45l1 Ψ (n1 + 1) x0 x1 x2 x3 x4 h)) ∧ (True ∧ (True ∧ True) ∧ (True ∧ (True) ∧ (∀ (h : Heap) (x0 x1 x2 : AVal) (x3 x4 : Int) (x5 : Bool), OI (s45c2 Ψ (s45l1_G (s45l1 Ψ n1)) x0 x1 x2 x3 x4 x5 h)) ∧ ((True ∧ True) ∧ True)) ∧ True)) ∧ True ∧ True)) ⟨trivial, ⟨trivial, ⟨⟨trivial, ⟨⟨trivial, trivial⟩, trivial⟩⟩, ⟨⟨trivial, ⟨fun _ _ _ _ _ _ H => H, fun _ => ⟨fun _ _ _ _ _ _ H => H, ⟨trivial, ⟨⟨trivial, trivial⟩, ⟨⟨trivial, ⟨trivial, fun _ _ _ _ _ _ _ H => H, ⟨⟨trivial, trivial⟩, trivial⟩⟩⟩, trivial⟩⟩⟩⟩⟩⟩, ⟨trivial, trivial⟩⟩⟩⟩⟩)
    (Eq.mpr (by as_aux_lemma => kernel_rfl : evF prog f45 (s45_A Ψ) Ψ [(.agg [m_Up, m_Val]), worlds] h = s45 Ψ m_Up m_Val worlds h) H)

/- 47 dictum/worlds.Tidy$1 -/
def s47 (Ψ : AVal → Heap → Prop) (b : Int) (c0 : AVal) (c1 : AVal) (h : Heap) : Prop :=
  ld1 h c0 fun v =>
  tInt .i64 v fun v1 =>
  ifT (v1 != b) (
    ld1 h c1 fun v2 =>
    ld1 h c0 fun v3 =>
    tInt .i64 v3 fun v4 =>
    callV prog v2 [(.int .i64 v4), (.int .i64 b)] h fun v5 h_ =>
    tBool v5 fun v6 =>
    retG (.bool v6) h_ Ψ) (
    retG (.bool false) h Ψ)

def s47_A (Ψ : AVal → Heap → Prop) : Ann :=
  .seq (rA 1)
  (.seq (.reg [⟨none, [(0, false), (1, false), (2, false), (3, false)]⟩, ⟨some (8, true), [(4, false), (5, false), (6, false), (7, false)]⟩, ⟨none, [(8, false), (9, false)]⟩])
  (.leaf))

theorem s47_ok {Ψ : AVal → Heap → Prop} {b : Int} {c0 : AVal} {c1 : AVal} {h : Heap} (H : s47 Ψ b c0 c1 h) : ACalls prog 47 [(.int .i64 b), c0, c1] h Ψ :=
  calls_of_evF func47 (by kernel_rfl) (by kernel_rfl) (by kernel_rfl)
    (Eq.mpr (by as_aux_lemma => kernel_rfl : oblF prog f47 (s47_A Ψ) Ψ = (True ∧ True ∧ True)) ⟨trivial, ⟨trivial, trivial⟩⟩)
    (Eq.mpr (by as_aux_lemma => kernel_rfl : evF prog f47 (s47_A Ψ) Ψ [(.int .i64 b), c0, c1] h = s47 Ψ b c0 c1 h) H)

/- 49 slices.ContainsFunc[[]int,int] -/
def s49 (Ψ : AVal → Heap → Prop) (s : AVal) (f : AVal) (h : Heap) : Prop :=
  callG prog 61 [s, f] h fun v h_ =>
  tInt .i64 v fun v1 =>
  retG (.bool (decide (0 ≤ v1))) h_ Ψ

def s49_A (Ψ : AVal → Heap → Prop) : Ann :=
  .seq (rA 1)
  (.seq (rA 5)
  (.leaf))

theorem s49_ok {Ψ : AVal → Heap → Prop} {s : AVal} {f : AVal} {h : Heap} (H : s49 Ψ s f h) : ACalls prog 49 [s, f] h Ψ :=
  calls_of_evF func49 (by kernel_rfl) (by kernel_rfl) (by kernel_rfl)
    (Eq.mpr (by as_aux_lemma => kernel_rfl : oblF prog f49 (s49_A Ψ) Ψ = (True ∧ True ∧ True)) ⟨trivial, ⟨trivial, trivial⟩⟩)
    (Eq.mpr (by as_aux_lemma => kernel_rfl : evF prog f49 (s49_A Ψ) Ψ [s, f] h = s49 Ψ s f h) H)

/- 51 slices.Clone[[]string,string] -/
def s51 (Ψ : AVal → Heap → Prop) (s : AVal) (h : Heap) : Prop :=
  nilS s fun b =>
  ifT b (
    retG .nilsl h Ψ) (
    Sym.newRow 1 [] h fun r h_ =>
    appC 1 16 h_ (.sl r 1 0 0) s fun v h_1 =>
    retG v h_1 Ψ)

def s51_A (Ψ : AVal → Heap → Prop) : Ann :=
  .seq (rA 1)
  (.seq (.seq (rA 2)
  (.cond (.seq (rA 1)
  (.leaf))
  (.leaf)))
  (.seq (rA 4)
  (.leaf)))

theorem s51_ok {Ψ : AVal → Heap → Prop} {s : AVal} {h : Heap} (H : s51 Ψ s h) : ACalls prog 51 [s] h Ψ :=
  calls_of_evF func51 (by kernel_rfl) (by kernel_rfl) (by kernel_rfl)
    (Eq.mpr (by as_aux_lemma => kernel_rfl : oblF prog f51 (s51_A Ψ) Ψ = (True ∧ (True ∧ (True ∧ True) ∧ True) ∧ True ∧ True)) ⟨trivial, ⟨⟨trivial, ⟨⟨trivial, trivial⟩, trivial⟩⟩, ⟨trivial, trivial⟩⟩⟩)
    (Eq.mpr (by as_aux_lemma => kernel_rfl : evF prog f51 (s51_A Ψ) Ψ [s] h = s51 Ψ s h) H)

/- 53 dictum/worlds.Above -/
def s53 (Ψ : AVal → Heap → Prop) (m_Up : AVal) (m_Val : AVal) (w : Int) (h : Heap) : Prop :=
  callG prog 45 [(.agg [m_Up, m_Val]), (.lsl 1 [(.int .i64 w)])] h fun v h_ =>
  tTup v fun l_ =>
  tCons l_ fun v1 l_1 =>
  tCons l_1 fun v2 l_2 =>
  tInt .i64 v2 fun v3 =>
  tNil l_2 (
    Sym.newRow 1 [.nilfunc] h_ fun r h_1 =>
    chk (sc v1) (
      st true h_1 (.ptr r 0 0) [v1] fun h_2 =>
      ifT (v3 != 0) (
        retG (.tuple [.nilsl, (.int .i64 v3)]) h_2 Ψ) (
        callG prog 46 [(.agg [m_Up, m_Val]), (.func (.func 62) [] [(.ptr r 0 0), (.lptr [(.int .i64 w)])])] h_2 fun v4 h_3 =>
        retG (.tuple [v4, (.int .i64 0)]) h_3 Ψ)))

def s53_A (Ψ : AVal → Heap → Prop) : Ann :=
  .seq (.reg [⟨none, [(0, true), (1, true), (2, false), (3, false)]⟩])
  (.seq (.reg [⟨none, [(0, false), (1, false), (2, true), (3, false), (4, false), (5, false), (6, false), (7, false), (8, false), (9, false)]⟩])
  (.seq (.seq (rA 2)
  (.cond (.seq (rA 3)
  (.leaf))
  (.leaf)))
  (.seq (rA 5)
  (.leaf))))

theorem s53_ok {Ψ : AVal → Heap → Prop} {m_Up : AVal} {m_Val : AVal} {w : Int} {h : Heap} (H : s53 Ψ m_Up m_Val w h) : ACalls prog 53 [(.agg [m_Up, m_Val]), (.int .i64 w)] h Ψ :=
  calls_of_evF func53 (by kernel_rfl) (by kernel_rfl) (by kernel_rfl)
    (Eq.mpr (by as_aux_lemma => kernel_rfl : oblF prog f53 (s53_A Ψ) Ψ = (True ∧ True ∧ (True ∧ (True ∧ True) ∧ True) ∧ True ∧ True)) ⟨trivial, ⟨trivial, ⟨⟨trivial, ⟨⟨trivial, trivial⟩, trivial⟩⟩, ⟨trivial, trivial⟩⟩⟩⟩)
    (Eq.mpr (by as_aux_lemma => kernel_rfl : evF prog f53 (s53_A Ψ) Ψ [(.agg [m_Up, m_Val]), (.int .i64 w)] h = s53 Ψ m_Up m_Val w h) H)

/- 56 (dictum/heyting.lattice).meet$1 -/
def s56 (Ψ : AVal → Heap → Prop) (z : Int) (c0 : AVal) (c1 : AVal) (c2 : AVal) (h : Heap) : Prop :=
  addOff c0 1 fun p =>
  ld1 h p fun v =>
  ld1 h c1 fun v1 =>
  tInt .i64 v1 fun v2 =>
  callV prog v [(.int .i64 z), (.int .i64 v2)] h fun v3 h_ =>
  tBool v3 fun v4 =>
  ifT v4 (
    addOff c0 1 fun p1 =>
    ld1 h_ p1 fun v5 =>
    ld1 h_ c2 fun v6 =>
    tInt .i64 v6 fun v7 =>
    callV prog v5 [(.int .i64 z), (.int .i64 v7)] h_ fun v8 h_1 =>
    tBool v8 fun v9 =>
    retG (.bool v9) h_1 Ψ) (
    retG (.bool false) h_ Ψ)

def s56_A (Ψ : AVal → Heap → Prop) : Ann :=
  .seq (rA 1)
  (.seq (.reg [⟨none, [(0, false), (1, false), (2, false), (3, false), (4, false), (5, false)]⟩, ⟨some (11, true), [(6, false), (7, false), (8, false), (9, false), (10, false)]⟩, ⟨none, [(11, false), (12, false)]⟩])
  (.leaf))

theorem s56_ok {Ψ : AVal → Heap → Prop} {z : Int} {c0 : AVal} {c1 : AVal} {c2 : AVal} {h : Heap} (H : s56 Ψ z c0 c1 c2 h) : ACalls prog 56 [(.int .i64 z), c0, c1, c2] h Ψ :=
  calls_of_evF func56 (by kernel_rfl) (by kernel_rfl) (by kernel_rfl)
    (Eq.mpr (by as_aux_lemma => kernel_rfl : oblF prog f56 (s56_A Ψ) Ψ = (True ∧ True ∧ True)) ⟨trivial, ⟨trivial, trivial⟩⟩)
    (Eq.mpr (by as_aux_lemma => kernel_rfl : evF prog f56 (s56_A Ψ) Ψ [(.int .i64 z), c0, c1, c2] h = s56 Ψ z c0 c1 c2 h) H)

/- 58 dictum/dictumref23.within -/
def s58 (Ψ : AVal → Heap → Prop) (l_ : AVal) (z : Int) (x : Int) (y : Int) (down : Bool) (h : Heap) : Prop :=
  ifT down (
    ixS 1 l_ z fun p =>
    ld1 h p fun v =>
    ixS 1 v x fun p1 =>
    ld1 h p1 fun v1 =>
    tBool v1 fun v2 =>
    ifT v2 (
      ixS 1 l_ z fun p2 =>
      ld1 h p2 fun v3 =>
      ixS 1 v3 y fun p3 =>
      ld1 h p3 fun v4 =>
      tBool v4 fun v5 =>
      retG (.bool v5) h Ψ) (
      retG (.bool false) h Ψ)) (
    ixS 1 l_ x fun p4 =>
    ld1 h p4 fun v6 =>
    ixS 1 v6 z fun p5 =>
    ld1 h p5 fun v7 =>
    tBool v7 fun v8 =>
    ifT v8 (
      ixS 1 l_ y fun p6 =>
      ld1 h p6 fun v9 =>
      ixS 1 v9 z fun p7 =>
      ld1 h p7 fun v10 =>
      tBool v10 fun v11 =>
      retG (.bool v11) h Ψ) (
      retG (.bool false) h Ψ))

def s58_A (Ψ : AVal → Heap → Prop) : Ann :=
  .seq (rA 1)
  (.seq (.seq (rA 1)
  (.cond (.seq (.reg [⟨none, [(0, false), (1, false), (2, false), (3, false), (4, false), (5, false), (6, false), (7, false)]⟩, ⟨some (19, true), [(8, false), (9, false), (10, false), (11, false), (12, false), (13, false), (14, false)]⟩, ⟨none, [(15, false), (16, false)]⟩])
  (.leaf))
  (.leaf)))
  (.seq (.reg [⟨none, [(0, false), (1, false), (2, false), (3, false), (4, false), (5, false), (6, false), (7, false)]⟩, ⟨some (35, true), [(8, false), (9, false), (10, false), (11, false), (12, false), (13, false), (14, false)]⟩, ⟨none, [(15, false), (16, false)]⟩])
  (.leaf)))

theorem s58_ok {Ψ : AVal → Heap → Prop} {l_ : AVal} {z : Int} {x : Int} {y : Int} {down : Bool} {h : Heap} (H : s58 Ψ l_ z x y down h) : ACalls prog 58 [l_, (.int .i64 z), (.int .i64 x), (.int .i64 y), (.bool down)] h Ψ :=
  calls_of_evF func58 (by kernel_rfl) (by kernel_rfl) (by kernel_rfl)
    (Eq.mpr (by as_aux_lemma => kernel_rfl : oblF prog f58 (s58_A Ψ) Ψ = (True ∧ (True ∧ (True ∧ True) ∧ True) ∧ True ∧ True)) ⟨trivial, ⟨⟨trivial, ⟨⟨trivial, trivial⟩, trivial⟩⟩, ⟨trivial, trivial⟩⟩⟩)
    (Eq.mpr (by as_aux_lemma => kernel_rfl : evF prog f58 (s58_A Ψ) Ψ [l_, (.int .i64 z), (.int .i64 x), (.int .i64 y), (.bool down)] h = s58 Ψ l_ z x y down h) H)

/- 60 dictum/worlds.looked -/
abbrev s60l2_T := AVal → Int → AVal → AVal → Int → Int → Heap → Prop
def s60l2_R (F : s60l2_T) (l : List AVal) (h : Heap) : Prop := J.cons l fun x0 l => J.cons l fun v l => J.int .i64 v fun x1 => J.cons l fun x2 l => J.cons l fun x3 l => J.cons l fun v l => J.int .i64 v fun x4 => J.cons l fun v l => J.int .i64 v fun x5 => J.nil l (F x0 x1 x2 x3 x4 x5 h)
def s60l2_G (F : s60l2_T) (x0 : AVal) (x1 : Int) (x2 x3 : AVal) (x4 x5 : Int) (h : Heap) : Prop := gJ [.any, .int .i64, .any, .any, .int .i64, .int .i64] [x0, (.int .i64 x1), x2, x3, (.int .i64 x4), (.int .i64 x5)] h (s60l2_R F)
def s60l2_E (F : Nat → s60l2_T) (x0 : AVal) (x1 : Int) (x2 x3 : AVal) (x4 x5 : Int) (h : Heap) : Prop := gJ [.any, .int .i64, .any, .any, .int .i64, .int .i64] [x0, (.int .i64 x1), x2, x3, (.int .i64 x4), (.int .i64 x5)] h (fun l h => ∃ n, s60l2_R (F n) l h)
theorem s60l2_go {F : s60l2_T} {x0 : AVal} {x1 : Int} {x2 x3 : AVal} {x4 x5 : Int} {h : Heap} (H : F x0 x1 x2 x3 x4 x5 h) : s60l2_G F x0 x1 x2 x3 x4 x5 h := gJ_plain rfl H
theorem s60l2_in {F : Nat → s60l2_T} {x0 : AVal} {x1 : Int} {x2 x3 : AVal} {x4 x5 : Int} {h : Heap} (n : Nat) (H : F n x0 x1 x2 x3 x4 x5 h) : s60l2_E F x0 x1 x2 x3 x4 x5 h := gJ_plain rfl ⟨n, H⟩

abbrev s60l3_T := AVal → Int → AVal → Int → AVal → AVal → Int → Int → Int → Int → Heap → Prop
def s60l3_R (F : s60l3_T) (l : List AVal) (h : Heap) : Prop := J.cons l fun x0 l => J.cons l fun v l => J.int .i64 v fun x1 => J.cons l fun x2 l => J.cons l fun v l => J.int .i64 v fun x3 => J.cons l fun x4 l => J.cons l fun x5 l => J.cons l fun v l => J.int .i64 v fun x6 => J.cons l fun v l => J.int .i64 v fun x7 => J.cons l fun v l => J.int .i64 v fun x8 => J.cons l fun v l => J.int .i64 v fun x9 => J.nil l (F x0 x1 x2 x3 x4 x5 x6 x7 x8 x9 h)
def s60l3_G (F : s60l3_T) (x0 : AVal) (x1 : Int) (x2 : AVal) (x3 : Int) (x4 x5 : AVal) (x6 x7 x8 x9 : Int) (h : Heap) : Prop := gJ [.any, .int .i64, .any, .int .i64, .any, .any, .int .i64, .int .i64, .int .i64, .int .i64] [x0, (.int .i64 x1), x2, (.int .i64 x3), x4, x5, (.int .i64 x6), (.int .i64 x7), (.int .i64 x8), (.int .i64 x9)] h (s60l3_R F)
def s60l3_E (F : Nat → s60l3_T) (x0 : AVal) (x1 : Int) (x2 : AVal) (x3 : Int) (x4 x5 : AVal) (x6 x7 x8 x9 : Int) (h : Heap) : Prop := gJ [.any, .int .i64, .any, .int .i64, .any, .any, .int .i64, .int .i64, .int .i64, .int .i64] [x0, (.int .i64 x1), x2, (.int .i64 x3), x4, x5, (.int .i64 x6), (.int .i64 x7), (.int .i64 x8), (.int .i64 x9)] h (fun l h => ∃ n, s60l3_R (F n) l h)
theorem s60l3_go {F : s60l3_T} {x0 : AVal} {x1 : Int} {x2 : AVal} {x3 : Int} {x4 x5 : AVal} {x6 x7 x8 x9 : Int} {h : Heap} (H : F x0 x1 x2 x3 x4 x5 x6 x7 x8 x9 h) : s60l3_G F x0 x1 x2 x3 x4 x5 x6 x7 x8 x9 h := gJ_plain rfl H
theorem s60l3_in {F : Nat → s60l3_T} {x0 : AVal} {x1 : Int} {x2 : AVal} {x3 : Int} {x4 x5 : AVal} {x6 x7 x8 x9 : Int} {h : Heap} (n : Nat) (H : F n x0 x1 x2 x3 x4 x5 x6 x7 x8 x9 h) : s60l3_E F x0 x1 x2 x3 x4 x5 x6 x7 x8 x9 h := gJ_plain rfl ⟨n, H⟩

def s60c4 (Ψ : AVal → Heap → Prop) (L2 : s60l2_T) (L3 : s60l3_T) (m3 : AVal) (n7 : Int) (leq2 : AVal) (a1 : Int) (l_7 t34_2 : AVal) (t35_2 t36_2 t44_1 t45_1 : Int) (h : Heap) : Prop :=
  rg (t45_1 + 1) (
    L3 m3 n7 leq2 a1 l_7 t34_2 t35_2 t36_2 t44_1 (t45_1 + 1) h)

def s60c6 (Ψ : AVal → Heap → Prop) (L2 : s60l2_T) (L3 : s60l3_T) (m5 : AVal) (n9 : Int) (leq4 : AVal) (a3 : Int) (l_9 t34_4 : AVal) (t35_4 t36_4 t44_3 t45_3 : Int) (t66 : Bool) (h : Heap) : Prop :=
  ifT t66 (
    retG (.tuple [.nilfunc, (.bool false)]) h Ψ) (
    s60c4 Ψ L2 L3 m5 n9 leq4 a3 l_9 t34_4 t35_4 t36_4 t44_3 t45_3 h)

def s60c5 (Ψ : AVal → Heap → Prop) (L2 : s60l2_T) (L3 : s60l3_T) (m4 : AVal) (n8 : Int) (leq3 : AVal) (a2 : Int) (l_8 b t34_3 : AVal) (t35_3 t36_3 t44_2 t45_2 : Int) (t57 : Bool) (h : Heap) : Prop :=
  ifT t57 (
    s60c4 Ψ L2 L3 m4 n8 leq3 a2 l_8 t34_3 t35_3 t36_3 t44_2 t45_2 h) (
    ld1 h b fun v10 =>
    tInt .i64 v10 fun v11 =>
    callV prog leq3 [(.int .i64 v11), (.int .i64 a2)] h fun v12 h_4 =>
    tBool v12 fun v13 =>
    ifT v13 (
      s60c6 Ψ L2 L3 m4 n8 leq3 a2 l_8 t34_3 t35_3 t36_3 t44_2 t45_2 true h_4) (
      callG prog 67 [l_8, (.func (.func 68) [] [m4, b])] h_4 fun v14 h_5 =>
      tBool v14 fun v15 =>
      s60c6 Ψ L2 L3 m4 n8 leq3 a2 l_8 t34_3 t35_3 t36_3 t44_2 t45_2 v15 h_5))

def s60l3 (Ψ : AVal → Heap → Prop) (L2 : s60l2_T) : Nat → s60l3_T
  | 0, _, _, _, _, _, _, _, _, _, _, _ => False
  | n6 + 1, m2, n5, leq1, a, l_6, t34_1, t35_1, t36_1, t44, t45, h =>
    ifT (decide (t45 < t44)) (
      Sym.newRow 1 [(.int .i64 0)] h fun r h_2 =>
      st true h_2 (.ptr r 0 0) [(.int .i64 t45)] fun h_3 =>
      ld1 h_3 (.ptr r 0 0) fun v16 =>
      tInt .i64 v16 fun v17 =>
      ifT (a == v17) (
        s60c5 Ψ L2 (s60l3_G (s60l3 Ψ L2 n6)) m2 n5 leq1 a l_6 (.ptr r 0 0) t34_1 t35_1 t36_1 t44 t45 true h_3) (
        ld1 h_3 (.ptr r 0 0) fun v18 =>
        tInt .i64 v18 fun v19 =>
        callV prog leq1 [(.int .i64 a), (.int .i64 v19)] h_3 fun v20 h_6 =>
        tBool v20 fun v21 =>
        s60c5 Ψ L2 (s60l3_G (s60l3 Ψ L2 n6)) m2 n5 leq1 a l_6 (.ptr r 0 0) t34_1 t35_1 t36_1 t44 t45 (!v21) h_6)) (
      rg (t36_1 + 1) (
        L2 m2 n5 leq1 t34_1 t35_1 (t36_1 + 1) h))

def s60l2 (Ψ : AVal → Heap → Prop) : Nat → s60l2_T
  | 0, _, _, _, _, _, _, _ => False
  | n4 + 1, m1, n3, leq, t34, t35, t36, h =>
    ifT (decide (t36 < t35)) (
      ixS 1 t34 t36 fun p1 =>
      ld1 h p1 fun v7 =>
      callG prog 66 [v7] h fun v8 h_1 =>
      tBool v8 fun v9 =>
      ifT (!v9) (
        retG (.tuple [.nilfunc, (.bool false)]) h_1 Ψ) (
        s60l3_E (s60l3 Ψ (s60l2_G (s60l2 Ψ n4))) m1 n3 leq t36 v7 t34 t35 t36 n3 0 h_1)) (
      retG (.tuple [leq, (.bool true)]) h Ψ)

def s60c1 (Ψ : AVal → Heap → Prop) (m : AVal) (n1 : Int) (t25 : Bool) (h : Heap) : Prop :=
  ifT t25 (
    retG (.tuple [.nilfunc, (.bool false)]) h Ψ) (
    ldN 2 h m fun l_ =>
    tCons l_ fun v l_1 =>
    tCons l_1 fun v1 l_2 =>
    tNil l_2 (
      callG prog 65 [(.agg [v, v1])] h fun v2 h_ =>
      tTup v2 fun l_3 =>
      tCons l_3 fun v3 l_4 =>
      tCons l_4 fun v4 l_5 =>
      tBool v4 fun v5 =>
      tNil l_5 (
        ifT (!v5) (
          retG (.tuple [.nilfunc, (.bool false)]) h_ Ψ) (
          addOff m 1 fun p =>
          ld1 h_ p fun v6 =>
          lenN v6 fun n2 =>
          s60l2_E (s60l2 Ψ) m n1 v3 v6 n2 0 h_))))

def s60 (Ψ : AVal → Heap → Prop) (m_Up : AVal) (m_Val : AVal) (h : Heap) : Prop :=
  lenN m_Up fun n =>
  ifT (decide (n < 1)) (
    s60c1 Ψ (.lptr [m_Up, m_Val]) n true h) (
    ifT (decide (512 < n)) (
      s60c1 Ψ (.lptr [m_Up, m_Val]) n true h) (
      lenN m_Val fun n12 =>
      s60c1 Ψ (.lptr [m_Up, m_Val]) n (n12 != n) h))

def s60_A (Ψ : AVal → Heap → Prop) : Ann :=
  .seq (.reg [⟨none, [(0, true), (1, false), (2, false)]⟩])
  (.seq (rA 4)
  (.seq (.cut [(1, .any), (4, .int .i64), (25, .bool)] (fun l h => J.cons l fun x0 l => J.cons l fun v l => J.int .i64 v fun x1 => J.cons l fun v l => J.bool v fun x2 => J.nil l (s60c1 Ψ x0 x1 x2 h)) (.reg [⟨none, [(0, false), (1, false), (2, false)]⟩, ⟨some (15, false), [(3, false), (4, false)]⟩, ⟨none, [(5, false), (6, false)]⟩, ⟨some (19, false), [(7, false), (8, false), (9, false), (10, false), (11, false)]⟩, ⟨none, [(12, false)]⟩])
  (.cond (.seq (rA 2)
  (.leaf))
  (.leaf)))
  (.seq (rA 7)
  (.seq (.seq (rA 2)
  (.cond (.seq (rA 2)
  (.leaf))
  (.leaf)))
  (.seq (.seq (rA 4)
  (.block (.loop [(1, .any), (4, .int .i64), (5, .any), (34, .any), (35, .int .i64), (36, .int .i64)] (fun n l h => s60l2_R (s60l2 Ψ n) l h) (fun L2 =>
  .seq (rA 1)
  (.seq (.cond (.leaf)
  (.leaf))
  (.seq (.block (.seq (rA 5)
  (.seq (.seq (rA 3)
  (.cond (.seq (rA 2)
  (.leaf))
  (.leaf)))
  (.seq (rA 2)
  (.block (.loop [(1, .any), (4, .int .i64), (5, .any), (7, .int .i64), (8, .any), (34, .any), (35, .int .i64), (36, .int .i64), (44, .int .i64), (45, .int .i64)] (fun n l h => s60l3_R (s60l3 Ψ (fun y0 y1 y2 y3 y4 y5 h => L2 [y0, (.int .i64 y1), y2, y3, (.int .i64 y4), (.int .i64 y5)] h) n) l h) (fun L3 =>
  .seq (rA 1)
  (.seq (.cond (.leaf)
  (.leaf))
  (.cut [(1, .any), (4, .int .i64), (5, .any), (7, .int .i64), (8, .any), (34, .any), (35, .int .i64), (36, .int .i64), (44, .int .i64), (45, .int .i64)] (fun l h => J.cons l fun x0 l => J.cons l fun v l => J.int .i64 v fun x1 => J.cons l fun x2 l => J.cons l fun v l => J.int .i64 v fun x3 => J.cons l fun x4 l => J.cons l fun x5 l => J.cons l fun v l => J.int .i64 v fun x6 => J.cons l fun v l => J.int .i64 v fun x7 => J.cons l fun v l => J.int .i64 v fun x8 => J.cons l fun v l => J.int .i64 v fun x9 => J.nil l (s60c4 Ψ (fun y0 y1 y2 y3 y4 y5 h => L2 [y0, (.int .i64 y1), y2, y3, (.int .i64 y4), (.int .i64 y5)] h) (fun y0 y1 y2 y3 y4 y5 y6 y7 y8 y9 h => L3 [y0, (.int .i64 y1), y2, (.int .i64 y3), y4, y5, (.int .i64 y6), (.int .i64 y7), (.int .i64 y8), (.int .i64 y9)] h) x0 x1 x2 x3 x4 x5 x6 x7 x8 x9 h)) (.block (.seq (rA 3)
  (.seq (.cut [(1, .any), (4, .int .i64), (5, .any), (7, .int .i64), (8, .any), (9, .any), (34, .any), (35, .int .i64), (36, .int .i64), (44, .int .i64), (45, .int .i64), (57, .bool)] (fun l h => J.cons l fun x0 l => J.cons l fun v l => J.int .i64 v fun x1 => J.cons l fun x2 l => J.cons l fun v l => J.int .i64 v fun x3 => J.cons l fun x4 l => J.cons l fun x5 l => J.cons l fun x6 l => J.cons l fun v l => J.int .i64 v fun x7 => J.cons l fun v l => J.int .i64 v fun x8 => J.cons l fun v l => J.int .i64 v fun x9 => J.cons l fun v l => J.int .i64 v fun x10 => J.cons l fun v l => J.bool v fun x11 => J.nil l (s60c5 Ψ (fun y0 y1 y2 y3 y4 y5 h => L2 [y0, (.int .i64 y1), y2, y3, (.int .i64 y4), (.int .i64 y5)] h) (fun y0 y1 y2 y3 y4 y5 y6 y7 y8 y9 h => L3 [y0, (.int .i64 y1), y2, (.int .i64 y3), y4, y5, (.int .i64 y6), (.int .i64 y7), (.int .i64 y8), (.int .i64 y9)] h) x0 x1 x2 x3 x4 x5 x6 x7 x8 x9 x10 x11 h)) (.reg [⟨none, [(0, false), (1, false), (2, false), (3, false)]⟩, ⟨some (51, false), [(4, false), (5, false), (6, false), (7, false), (8, false)]⟩, ⟨none, [(9, false)]⟩])
  (.cond (.leaf)
  (.leaf)))
  (.cut [(1, .any), (4, .int .i64), (5, .any), (7, .int .i64), (8, .any), (34, .any), (35, .int .i64), (36, .int .i64), (44, .int .i64), (45, .int .i64), (66, .bool)] (fun l h => J.cons l fun x0 l => J.cons l fun v l => J.int .i64 v fun x1 => J.cons l fun x2 l => J.cons l fun v l => J.int .i64 v fun x3 => J.cons l fun x4 l => J.cons l fun x5 l => J.cons l fun v l => J.int .i64 v fun x6 => J.cons l fun v l => J.int .i64 v fun x7 => J.cons l fun v l => J.int .i64 v fun x8 => J.cons l fun v l => J.int .i64 v fun x9 => J.cons l fun v l => J.bool v fun x10 => J.nil l (s60c6 Ψ (fun y0 y1 y2 y3 y4 y5 h => L2 [y0, (.int .i64 y1), y2, y3, (.int .i64 y4), (.int .i64 y5)] h) (fun y0 y1 y2 y3 y4 y5 y6 y7 y8 y9 h => L3 [y0, (.int .i64 y1), y2, (.int .i64 y3), y4, y5, (.int .i64 y6), (.int .i64 y7), (.int .i64 y8), (.int .i64 y9)] h) x0 x1 x2 x3 x4 x5 x6 x7 x8 x9 x10 h)) (.reg [⟨none, [(0, false), (1, false), (2, false), (3, false), (4, false)]⟩, ⟨some (62, false), [(5, false), (6, false), (7, false)]⟩, ⟨none, [(8, false)]⟩])
  (.cond (.seq (rA 2)
  (.leaf))
  (.leaf))))))
  (rA 2))))))))))
  (rA 2)))))))
  (.seq (rA 3)
  (.leaf)))))))

theorem s60_ok {Ψ : AVal → Heap → Prop} {m_Up : AVal} {m_Val : AVal} {h : Heap} (H : s60 Ψ m_Up m_Val h) : ACalls prog 60 [(.agg [m_Up, m_Val])] h Ψ :=
  calls_of_evF func60 (by kernel_rfl) (by kernel_rfl) (by kernel_rfl)
    (Eq.mpr (by as_aux_lemma => kernel_rfl : oblF prog f60 (s60_A Ψ) Ψ = (True ∧ True ∧ ((True) ∧ (∀ (h : Heap) (x0 : AVal) (x1 : Int) (x2 : Bool), OI (s60c1 Ψ x0 x1 x2 h)) ∧ ((True ∧ True) ∧ True)) ∧ True ∧ (True ∧ (True ∧ True) ∧ True) ∧ (True ∧ (∀ (h : Heap) (x0 : AVal) (x1 : Int) (x2 x3 : AVal) (x4 x5 : Int), ON (s60l2 Ψ 0 x0 x1 x2 x3 x4 x5 h)) ∧ ∀ n2 : Nat, (∀ (h : Heap) (x0 : AVal) (x1 : Int) (x2 x3 : AVal) (x4 x5 : Int), OI (s60l2 Ψ (n2 + 1) x0 x1 x2 x3 x4 x5 h)) ∧ (True ∧ (True ∧ True) ∧ (True ∧ (True ∧ (True ∧ True) ∧ True) ∧ True ∧ (∀ (h : Heap) (x0 : AVal) (x1 : Int) (x2 : AVal) (x3 : Int) (x4 x5 : AVal) (x6 x7 x8 x9 : Int), ON (s60l3 Ψ (s60l2_G (s60l2 Ψ n2)) 0 x0 x1 x2 x3 x4 x5 x6 x7 x8 x9 h)) ∧ ∀ n3 : Nat, (∀ (h : Heap) (x0 : AVal) (x1 : Int) (x2 : AVal) (x3 : Int) (x4 x5 : AVal) (x6 x7 x8 x9 : Int), OI (s60l3 Ψ (s60l2_G (s60l2 Ψ n2)) (n3 + 1) x0 x1 x2 x3 x4 x5 x6 x7 x8 x9 h)) ∧ (True ∧ (True ∧ True) ∧ (True ∧ ((True) ∧ (∀ (h : Heap) (x0 : AVal) (x1 : Int) (x2 : AVal) (x3 : Int) (x4 x5 x6 : AVal) (x7 x8 x9 x10 : Int) (x11 : Bool), OI (s60c5 Ψ (s60l2_G (s60l2 Ψ n2)) (s60l3_G (s60l3 Ψ (s60l2_G (s60l2 Ψ n2)) n3)) x0 x1 x2 x3 x4 x5 x6 x7 x8 x9 x10 x11 h)) ∧ (True ∧ True)) ∧ (True) ∧ (∀ (h : Heap) (x0 : AVal) (x1 : Int) (x2 : AVal) (x3 : Int) (x4 x5 : AVal) (x6 x7 x8 x9 : Int) (x10 : Bool), OI (s60c6 Ψ (s60l2_G (s60l2 Ψ n2)) (s60l3_G (s60l3 Ψ (s60l2_G (s60l2 Ψ n2)) n3)) x0 x1 x2 x3 x4 x5 x6 x7 x8 x9 x10 h)) ∧ ((True ∧ True) ∧ True)) ∧ (∀ (h : Heap) (x0 : AVal) (x1 : Int) (x2 : AVal) (x3 : Int) (x4 x5 : AVal) (x6 x7 x8 x9 : Int), OI (s60c4 Ψ (s60l2_G (s60l2 Ψ n2)) (s60l3_G (s60l3 Ψ (s60l2_G (s60l2 Ψ n2)) n3)) x0 x1 x2 x3 x4 x5 x6 x7 x8 x9 h)) ∧ (True))) ∧ True)) ∧ True ∧ True)) ⟨trivial, ⟨trivial, ⟨⟨trivial, fun _ _ _ _ H => H, ⟨⟨trivial, trivial⟩, trivial⟩⟩, ⟨trivial, ⟨⟨trivial, ⟨⟨trivial, trivial⟩, trivial⟩⟩, ⟨⟨trivial, ⟨fun _ _ _ _ _ _ _ H => H, fun _ => ⟨fun _ _ _ _ _ _ _ H => H, ⟨trivial, ⟨⟨trivial, trivial⟩, ⟨⟨trivial, ⟨⟨trivial, ⟨⟨trivial, trivial⟩, trivial⟩⟩, ⟨trivial, ⟨fun _ _ _ _ _ _ _ _ _ _ _ H => H, fun _ => ⟨fun _ _ _ _ _ _ _ _ _ _ _ H => H, ⟨trivial, ⟨⟨trivial, trivial⟩, ⟨⟨trivial, ⟨⟨trivial, fun _ _ _ _ _ _ _ _ _ _ _ _ _ H => H, ⟨trivial, trivial⟩⟩, ⟨trivial, fun _ _ _ _ _ _ _ _ _ _ _ _ H => H, ⟨⟨trivial, trivial⟩, trivial⟩⟩⟩⟩, fun _ _ _ _ _ _ _ _ _ _ _ H => H, trivial⟩⟩⟩⟩⟩⟩⟩⟩, trivial⟩⟩⟩⟩⟩⟩, ⟨trivial, trivial⟩⟩⟩⟩⟩⟩⟩)
    (Eq.mpr (by as_aux_lemma => kernel_rfl : evF prog f60 (s60_A Ψ) Ψ [(.agg [m_Up, m_Val])] h = s60 Ψ m_Up m_Val h) H)

/- 62 dictum/worlds.Above$1 -/
def s62 (Ψ : AVal → Heap → Prop) (b : Int) (c0 : AVal) (c1 : AVal) (h : Heap) : Prop :=
  ld1 h c0 fun v =>
  ld1 h c1 fun v1 =>
  tInt .i64 v1 fun v2 =>
  callV prog v [(.int .i64 v2), (.int .i64 b)] h fun v3 h_ =>
  tBool v3 fun v4 =>
  retG (.bool v4) h_ Ψ

def s62_A (Ψ : AVal → Heap → Prop) : Ann :=
  .seq (rA 1)
  (.seq (rA 5)
  (.leaf))

theorem s62_ok {Ψ : AVal → Heap → Prop} {b : Int} {c0 : AVal} {c1 : AVal} {h : Heap} (H : s62 Ψ b c0 c1 h) : ACalls prog 62 [(.int .i64 b), c0, c1] h Ψ :=
  calls_of_evF func62 (by kernel_rfl) (by kernel_rfl) (by kernel_rfl)
    (Eq.mpr (by as_aux_lemma => kernel_rfl : oblF prog f62 (s62_A Ψ) Ψ = (True ∧ True ∧ True)) ⟨trivial, ⟨trivial, trivial⟩⟩)
    (Eq.mpr (by as_aux_lemma => kernel_rfl : evF prog f62 (s62_A Ψ) Ψ [(.int .i64 b), c0, c1] h = s62 Ψ b c0 c1 h) H)

/- 66 dictum/worlds.rising -/
abbrev s66l1_T := AVal → AVal → Int → Int → Heap → Prop
def s66l1_R (F : s66l1_T) (l : List AVal) (h : Heap) : Prop := J.cons l fun x0 l => J.cons l fun x1 l => J.cons l fun v l => J.int .i64 v fun x2 => J.cons l fun v l => J.int .i64 v fun x3 => J.nil l (F x0 x1 x2 x3 h)
def s66l1_G (F : s66l1_T) (x0 x1 : AVal) (x2 x3 : Int) (h : Heap) : Prop := gJ [.any, .any, .int .i64, .int .i64] [x0, x1, (.int .i64 x2), (.int .i64 x3)] h (s66l1_R F)
def s66l1_E (F : Nat → s66l1_T) (x0 x1 : AVal) (x2 x3 : Int) (h : Heap) : Prop := gJ [.any, .any, .int .i64, .int .i64] [x0, x1, (.int .i64 x2), (.int .i64 x3)] h (fun l h => ∃ n, s66l1_R (F n) l h)
theorem s66l1_go {F : s66l1_T} {x0 x1 : AVal} {x2 x3 : Int} {h : Heap} (H : F x0 x1 x2 x3 h) : s66l1_G F x0 x1 x2 x3 h := gJ_plain rfl H
theorem s66l1_in {F : Nat → s66l1_T} {x0 x1 : AVal} {x2 x3 : Int} {h : Heap} (n : Nat) (H : F n x0 x1 x2 x3 h) : s66l1_E F x0 x1 x2 x3 h := gJ_plain rfl ⟨n, H⟩

def s66c2 (Ψ : AVal → Heap → Prop) (L1 : s66l1_T) (l_2 t5_1 : AVal) (t6_1 t7_1 : Int) (t27 : Bool) (h : Heap) : Prop :=
  ifT t27 (
    retG (.bool false) h Ψ) (
    rg (t7_1 + 1) (
      L1 l_2 t5_1 t6_1 (t7_1 + 1) h))

def s66l1 (Ψ : AVal → Heap → Prop) : Nat → s66l1_T
  | 0, _, _, _, _, _ => False
  | n1 + 1, l_1, t5, t6, t7, h =>
    ifT (decide (t7 < t6)) (
      ixS 1 t5 t7 fun p =>
      ld1 h p fun v =>
      tStr v fun v1 =>
      callG prog 81 [(.str v1)] h fun v2 h_ =>
      tBool v2 fun v3 =>
      ifT (!v3) (
        s66c2 Ψ (s66l1_G (s66l1 Ψ n1)) l_1 t5 t6 t7 true h_) (
        ifT (decide (0 < t7)) (
          rg (t7 - 1) (
            ixS 1 l_1 (t7 - 1) fun p1 =>
            ld1 h_ p1 fun v4 =>
            tStr v4 fun v5 =>
            s66c2 Ψ (s66l1_G (s66l1 Ψ n1)) l_1 t5 t6 t7 (!strLt v5 v1) h_)) (
          s66c2 Ψ (s66l1_G (s66l1 Ψ n1)) l_1 t5 t6 t7 false h_))) (
      retG (.bool true) h Ψ)

def s66 (Ψ : AVal → Heap → Prop) (l_ : AVal) (h : Heap) : Prop :=
  lenN l_ fun n =>
  s66l1_E (s66l1 Ψ) l_ l_ n 0 h

def s66_A (Ψ : AVal → Heap → Prop) : Ann :=
  .seq (rA 1)
  (.seq (.seq (rA 3)
  (.block (.loop [(0, .any), (5, .any), (6, .int .i64), (7, .int .i64)] (fun n l h => s66l1_R (s66l1 Ψ n) l h) (fun L1 =>
  .seq (rA 1)
  (.seq (.cond (.leaf)
  (.leaf))
  (.seq (.block (.seq (rA 5)
  (.cut [(0, .any), (5, .any), (6, .int .i64), (7, .int .i64), (27, .bool)] (fun l h => J.cons l fun x0 l => J.cons l fun x1 l => J.cons l fun v l => J.int .i64 v fun x2 => J.cons l fun v l => J.int .i64 v fun x3 => J.cons l fun v l => J.bool v fun x4 => J.nil l (s66c2 Ψ (fun y0 y1 y2 y3 h => L1 [y0, y1, (.int .i64 y2), (.int .i64 y3)] h) x0 x1 x2 x3 x4 h)) (.reg [⟨none, [(0, false), (1, false), (2, false), (3, false)]⟩, ⟨some (15, false), [(4, false), (5, false), (6, false)]⟩, ⟨some (18, true), [(7, false), (8, false), (9, false), (10, false), (11, false), (12, false), (13, false)]⟩, ⟨some (15, false), [(14, false)]⟩, ⟨none, [(15, false)]⟩])
  (.cond (.seq (rA 1)
  (.leaf))
  (.leaf)))))
  (rA 2)))))))
  (.seq (rA 1)
  (.leaf)))

theorem s66_ok {Ψ : AVal → Heap → Prop} {l_ : AVal} {h : Heap} (H : s66 Ψ l_ h) : ACalls prog 66 [l_] h Ψ :=
  calls_of_evF func66 (by kernel_rfl) (by kernel_rfl) (by kernel_rfl)
    (Eq.mpr (by as_aux_lemma => kernel_rfl : oblF prog f66 (s66_A Ψ) Ψ = (True ∧ (True ∧ (∀ (h : Heap) (x0 x1 : AVal) (x2 x3 : Int), ON (s66l1 Ψ 0 x0 x1 x2 x3 h)) ∧ ∀ n1 : Nat, (∀ (h : Heap) (x0 x1 : AVal) (x2 x3 : Int), OI (s66l1 Ψ (n1 + 1) x0 x1 x2 x3 h)) ∧ (True ∧ (True ∧ True) ∧ (True ∧ (True) ∧ (∀ (h : Heap) (x0 x1 : AVal) (x2 x3 : Int) (x4 : Bool), OI (s66c2 Ψ (s66l1_G (s66l1 Ψ n1)) x0 x1 x2 x3 x4 h)) ∧ ((True ∧ True) ∧ True)) ∧ True)) ∧ True ∧ True)) ⟨trivial, ⟨⟨trivial, ⟨fun _ _ _ _ _ H => H, fun _ => ⟨fun _ _ _ _ _ H => H, ⟨trivial, ⟨⟨trivial, trivial⟩, ⟨⟨trivial, ⟨trivial, fun _ _ _ _ _ _ H => H, ⟨⟨trivial, trivial⟩, trivial⟩⟩⟩, trivial⟩⟩⟩⟩⟩⟩, ⟨trivial, trivial⟩⟩⟩)
    (Eq.mpr (by as_aux_lemma => kernel_rfl : evF prog f66 (s66_A Ψ) Ψ [l_] h = s66 Ψ l_ h) H)

/- 68 dictum/worlds.looked$1 -/
def s68 (Ψ : AVal → Heap → Prop) (s : ByteArray) (c0 : AVal) (c1 : AVal) (h : Heap) : Prop :=
  addOff c0 1 fun p =>
  ld1 h p fun v =>
  ld1 h c1 fun v1 =>
  tInt .i64 v1 fun v2 =>
  ixS 1 v v2 fun p1 =>
  ld1 h p1 fun v3 =>
  callG prog 69 [v3, (.str s)] h fun v4 h_ =>
  tBool v4 fun v5 =>
  retG (.bool (!v5)) h_ Ψ

def s68_A (Ψ : AVal → Heap → Prop) : Ann :=
  .seq (rA 1)
  (.seq (rA 9)
  (.leaf))

theorem s68_ok {Ψ : AVal → Heap → Prop} {s : ByteArray} {c0 : AVal} {c1 : AVal} {h : Heap} (H : s68 Ψ s c0 c1 h) : ACalls prog 68 [(.str s), c0, c1] h Ψ :=
  calls_of_evF func68 (by kernel_rfl) (by kernel_rfl) (by kernel_rfl)
    (Eq.mpr (by as_aux_lemma => kernel_rfl : oblF prog f68 (s68_A Ψ) Ψ = (True ∧ True ∧ True)) ⟨trivial, ⟨trivial, trivial⟩⟩)
    (Eq.mpr (by as_aux_lemma => kernel_rfl : evF prog f68 (s68_A Ψ) Ψ [(.str s), c0, c1] h = s68 Ψ s c0 c1 h) H)

/- 80 dictum/worlds.reckon$1 -/
def s80 (Ψ : AVal → Heap → Prop) (a : Int) (b : Int) (c0 : AVal) (h : Heap) : Prop :=
  ld1 h c0 fun v =>
  ixS 1 v a fun p =>
  ld1 h p fun v1 =>
  ixS 1 v1 b fun p1 =>
  ld1 h p1 fun v2 =>
  tBool v2 fun v3 =>
  retG (.bool v3) h Ψ

def s80_A (Ψ : AVal → Heap → Prop) : Ann :=
  .seq (rA 1)
  (.seq (rA 8)
  (.leaf))

theorem s80_ok {Ψ : AVal → Heap → Prop} {a : Int} {b : Int} {c0 : AVal} {h : Heap} (H : s80 Ψ a b c0 h) : ACalls prog 80 [(.int .i64 a), (.int .i64 b), c0] h Ψ :=
  calls_of_evF func80 (by kernel_rfl) (by kernel_rfl) (by kernel_rfl)
    (Eq.mpr (by as_aux_lemma => kernel_rfl : oblF prog f80 (s80_A Ψ) Ψ = (True ∧ True ∧ True)) ⟨trivial, ⟨trivial, trivial⟩⟩)
    (Eq.mpr (by as_aux_lemma => kernel_rfl : evF prog f80 (s80_A Ψ) Ψ [(.int .i64 a), (.int .i64 b), c0] h = s80 Ψ a b c0 h) H)

/- 82 slices.IndexFunc[[]string,string] -/
abbrev s82l1_T := AVal → AVal → Int → Int → Heap → Prop
def s82l1_R (F : s82l1_T) (l : List AVal) (h : Heap) : Prop := J.cons l fun x0 l => J.cons l fun x1 l => J.cons l fun v l => J.int .i64 v fun x2 => J.cons l fun v l => J.int .i64 v fun x3 => J.nil l (F x0 x1 x2 x3 h)
def s82l1_G (F : s82l1_T) (x0 x1 : AVal) (x2 x3 : Int) (h : Heap) : Prop := gJ [.any, .any, .int .i64, .int .i64] [x0, x1, (.int .i64 x2), (.int .i64 x3)] h (s82l1_R F)
def s82l1_E (F : Nat → s82l1_T) (x0 x1 : AVal) (x2 x3 : Int) (h : Heap) : Prop := gJ [.any, .any, .int .i64, .int .i64] [x0, x1, (.int .i64 x2), (.int .i64 x3)] h (fun l h => ∃ n, s82l1_R (F n) l h)
theorem s82l1_go {F : s82l1_T} {x0 x1 : AVal} {x2 x3 : Int} {h : Heap} (H : F x0 x1 x2 x3 h) : s82l1_G F x0 x1 x2 x3 h := gJ_plain rfl H
theorem s82l1_in {F : Nat → s82l1_T} {x0 x1 : AVal} {x2 x3 : Int} {h : Heap} (n : Nat) (H : F n x0 x1 x2 x3 h) : s82l1_E F x0 x1 x2 x3 h := gJ_plain rfl ⟨n, H⟩

def s82l1 (Ψ : AVal → Heap → Prop) : Nat → s82l1_T
  | 0, _, _, _, _, _ => False
  | n1 + 1, s1, f1, t7, t8, h =>
    ifT (decide (t8 < t7)) (
      ixS 1 s1 t8 fun p =>
      ld1 h p fun v =>
      tStr v fun v1 =>
      callV prog f1 [(.str v1)] h fun v2 h_ =>
      tBool v2 fun v3 =>
      ifT v3 (
        retG (.int .i64 t8) h_ Ψ) (
        rg (t8 + 1) (
          s82l1_G (s82l1 Ψ n1) s1 f1 t7 (t8 + 1) h_))) (
      retG (.int .i64 (-1)) h Ψ)

def s82 (Ψ : AVal → Heap → Prop) (s : AVal) (f : AVal) (h : Heap) : Prop :=
  lenN s fun n =>
  s82l1_E (s82l1 Ψ) s f n 0 h

def s82_A (Ψ : AVal → Heap → Prop) : Ann :=
  .seq (rA 1)
  (.seq (.seq (rA 3)
  (.block (.loop [(0, .any), (1, .any), (7, .int .i64), (8, .int .i64)] (fun n l h => s82l1_R (s82l1 Ψ n) l h) (fun L1 =>
  .seq (rA 1)
  (.seq (.cond (.leaf)
  (.leaf))
  (.seq (.block (.seq (rA 2)
  (.seq (rA 6)
  (.cond (.seq (rA 2)
  (.leaf))
  (.leaf)))))
  (rA 2)))))))
  (.seq (rA 1)
  (.leaf)))

theorem s82_ok {Ψ : AVal → Heap → Prop} {s : AVal} {f : AVal} {h : Heap} (H : s82 Ψ s f h) : ACalls prog 82 [s, f] h Ψ :=
  calls_of_evF func82 (by kernel_rfl) (by kernel_rfl) (by kernel_rfl)
    (Eq.mpr (by as_aux_lemma => kernel_rfl : oblF prog f82 (s82_A Ψ) Ψ = (True ∧ (True ∧ (∀ (h : Heap) (x0 x1 : AVal) (x2 x3 : Int), ON (s82l1 Ψ 0 x0 x1 x2 x3 h)) ∧ ∀ n1 : Nat, (∀ (h : Heap) (x0 x1 : AVal) (x2 x3 : Int), OI (s82l1 Ψ (n1 + 1) x0 x1 x2 x3 h)) ∧ (True ∧ (True ∧ True) ∧ (True ∧ True ∧ (True ∧ True) ∧ True) ∧ True)) ∧ True ∧ True)) ⟨trivial, ⟨⟨trivial, ⟨fun _ _ _ _ _ H => H, fun _ => ⟨fun _ _ _ _ _ H => H, ⟨trivial, ⟨⟨trivial, trivial⟩, ⟨⟨trivial, ⟨trivial, ⟨⟨trivial, trivial⟩, trivial⟩⟩⟩, trivial⟩⟩⟩⟩⟩⟩, ⟨trivial, trivial⟩⟩⟩)
    (Eq.mpr (by as_aux_lemma => kernel_rfl : evF prog f82 (s82_A Ψ) Ψ [s, f] h = s82 Ψ s f h) H)

/- 89 dictum/formula.reserved -/
def s89c1 (Ψ : AVal → Heap → Prop) (t4 : Bool) (h : Heap) : Prop :=
  ifT t4 (
    retG (.bool true) h Ψ) (
    retG (.bool false) h Ψ)

def s89 (Ψ : AVal → Heap → Prop) (s : ByteArray) (h : Heap) : Prop :=
  ifT (strEq s (ByteArray.mk #[97, 98, 111, 114, 116])) (
    s89c1 Ψ (strEq s (ByteArray.mk #[97, 98, 111, 114, 116])) h) (
    ifT (strEq s (ByteArray.mk #[99, 97, 115, 101])) (
      s89c1 Ψ (strEq s (ByteArray.mk #[99, 97, 115, 101])) h) (
      ifT (strEq s (ByteArray.mk #[102, 97, 108, 115, 101])) (
        s89c1 Ψ (strEq s (ByteArray.mk #[102, 97, 108, 115, 101])) h) (
        ifT (strEq s (ByteArray.mk #[102, 115, 116])) (
          s89c1 Ψ (strEq s (ByteArray.mk #[102, 115, 116])) h) (
          ifT (strEq s (ByteArray.mk #[102, 117, 110])) (
            s89c1 Ψ (strEq s (ByteArray.mk #[102, 117, 110])) h) (
            ifT (strEq s (ByteArray.mk #[105, 110])) (
              s89c1 Ψ (strEq s (ByteArray.mk #[105, 110])) h) (
              ifT (strEq s (ByteArray.mk #[105, 110, 108])) (
                s89c1 Ψ (strEq s (ByteArray.mk #[105, 110, 108])) h) (
                ifT (strEq s (ByteArray.mk #[105, 110, 114])) (
                  s89c1 Ψ (strEq s (ByteArray.mk #[105, 110, 114])) h) (
                  ifT (strEq s (ByteArray.mk #[108, 101, 116])) (
                    s89c1 Ψ (strEq s (ByteArray.mk #[108, 101, 116])) h) (
                    ifT (strEq s (ByteArray.mk #[111, 102])) (
                      s89c1 Ψ (strEq s (ByteArray.mk #[111, 102])) h) (
                      ifT (strEq s (ByteArray.mk #[115, 110, 100])) (
                        s89c1 Ψ (strEq s (ByteArray.mk #[115, 110, 100])) h) (
                        s89c1 Ψ (strEq s (ByteArray.mk #[116, 114, 117, 101])) h)))))))))))

def s89_A (Ψ : AVal → Heap → Prop) : Ann :=
  .seq (rA 1)
  (.seq (.seq (rA 1)
  (.block (.cut [(4, .bool)] (fun l h => J.cons l fun v l => J.bool v fun x0 => J.nil l (s89c1 Ψ x0 h)) (.seq (rA 2)
  (.cond (.leaf)
  (.seq (rA 2)
  (.cond (.leaf)
  (.seq (rA 2)
  (.cond (.leaf)
  (.seq (rA 2)
  (.cond (.leaf)
  (.seq (rA 2)
  (.cond (.leaf)
  (.seq (rA 2)
  (.cond (.leaf)
  (.seq (rA 2)
  (.cond (.leaf)
  (.seq (rA 2)
  (.cond (.leaf)
  (.seq (rA 2)
  (.cond (.leaf)
  (.seq (rA 2)
  (.cond (.leaf)
  (.seq (rA 2)
  (.cond (.leaf)
  (rA 2)))))))))))))))))))))))
  (.cond (.seq (rA 1)
  (.leaf))
  (.leaf)))))
  (.seq (rA 1)
  (.leaf)))

theorem s89_ok {Ψ : AVal → Heap → Prop} {s : ByteArray} {h : Heap} (H : s89 Ψ s h) : ACalls prog 89 [(.str s)] h Ψ :=
  calls_of_evF func89 (by kernel_rfl) (by kernel_rfl) (by kernel_rfl)
    (Eq.mpr (by as_aux_lemma => kernel_rfl : oblF prog f89 (s89_A Ψ) Ψ = (True ∧ (True ∧ (True ∧ True ∧ True ∧ True ∧ True ∧ True ∧ True ∧ True ∧ True ∧ True ∧ True ∧ True ∧ True ∧ True ∧ True ∧ True ∧ True ∧ True ∧ True ∧ True ∧ True ∧ True ∧ True) ∧ (∀ (h : Heap) (x0 : Bool), OI (s89c1 Ψ x0 h)) ∧ ((True ∧ True) ∧ True)) ∧ True ∧ True)) ⟨trivial, ⟨⟨trivial, ⟨⟨trivial, ⟨trivial, ⟨trivial, ⟨trivial, ⟨trivial, ⟨trivial, ⟨trivial, ⟨trivial, ⟨trivial, ⟨trivial, ⟨trivial, ⟨trivial, ⟨trivial, ⟨trivial, ⟨trivial, ⟨trivial, ⟨trivial, ⟨trivial, ⟨trivial, ⟨trivial, ⟨trivial, ⟨trivial, trivial⟩⟩⟩⟩⟩⟩⟩⟩⟩⟩⟩⟩⟩⟩⟩⟩⟩⟩⟩⟩⟩⟩, fun _ _ H => H, ⟨⟨trivial, trivial⟩, trivial⟩⟩⟩, ⟨trivial, trivial⟩⟩⟩)
    (Eq.mpr (by as_aux_lemma => kernel_rfl : evF prog f89 (s89_A Ψ) Ψ [(.str s)] h = s89 Ψ s h) H)

end Go.Proofs.Ytljglglbfcgjpaa

/- The functions that the proof meets, each as a text that Lean has checked against the program. No condition. -/
import Derived.Test.YtobpfhmjdoekfaaGreatM3
import Derived.Test.YtobpfhmjdoekfaaGreatChecked
namespace Go.Proofs.YtobpfhmjdoekfaaGreat
open Go Go.Sym Go.Proofs.Tryz
set_option maxRecDepth 100000
set_option linter.unusedVariables false

/- 5 dictum/dictumlaw26.NishimuraForces -/
abbrev s5l2_T := Int → Int → AVal → AVal → Int → AVal → AVal → Int → Heap → Prop
def s5l2_R (F : s5l2_T) (l : List AVal) (h : Heap) : Prop := J.cons l fun v l => J.int .i64 v fun x0 => J.cons l fun v l => J.int .i64 v fun x1 => J.cons l fun x2 l => J.cons l fun x3 l => J.cons l fun v l => J.int .i64 v fun x4 => J.cons l fun x5 l => J.cons l fun x6 l => J.cons l fun v l => J.int .i64 v fun x7 => J.nil l (F x0 x1 x2 x3 x4 x5 x6 x7 h)
def s5l2_G (F : s5l2_T) (x0 x1 : Int) (x2 x3 : AVal) (x4 : Int) (x5 x6 : AVal) (x7 : Int) (h : Heap) : Prop := gJ [.int .i64, .int .i64, .any, .any, .int .i64, .any, .any, .int .i64] [(.int .i64 x0), (.int .i64 x1), x2, x3, (.int .i64 x4), x5, x6, (.int .i64 x7)] h (s5l2_R F)
def s5l2_E (F : Nat → s5l2_T) (x0 x1 : Int) (x2 x3 : AVal) (x4 : Int) (x5 x6 : AVal) (x7 : Int) (h : Heap) : Prop := gJ [.int .i64, .int .i64, .any, .any, .int .i64, .any, .any, .int .i64] [(.int .i64 x0), (.int .i64 x1), x2, x3, (.int .i64 x4), x5, x6, (.int .i64 x7)] h (fun l h => ∃ n, s5l2_R (F n) l h)
theorem s5l2_go {F : s5l2_T} {x0 x1 : Int} {x2 x3 : AVal} {x4 : Int} {x5 x6 : AVal} {x7 : Int} {h : Heap} (H : F x0 x1 x2 x3 x4 x5 x6 x7 h) : s5l2_G F x0 x1 x2 x3 x4 x5 x6 x7 h := gJ_plain rfl H
theorem s5l2_in {F : Nat → s5l2_T} {x0 x1 : Int} {x2 x3 : AVal} {x4 : Int} {x5 x6 : AVal} {x7 : Int} {h : Heap} (n : Nat) (H : F n x0 x1 x2 x3 x4 x5 x6 x7 h) : s5l2_E F x0 x1 x2 x3 x4 x5 x6 x7 h := gJ_plain rfl ⟨n, H⟩

def s5c3 (Ψ : AVal → Heap → Prop) (L2 : s5l2_T) (id_3 n5 : Int) (t2 r3 : AVal) (k2 : Int) (m2 l_16 : AVal) (i1 : Int) (t82 : Bool) (h : Heap) : Prop :=
  ifT t82 (
    callG prog 11 [] h fun v20 h_7 =>
    tBool v20 fun v21 =>
    retG (.bool v21) h_7 Ψ) (
    rg (i1 + 1) (
      L2 id_3 n5 t2 r3 k2 m2 l_16 (i1 + 1) h))

abbrev s5l4_T := Int → Int → AVal → Int → Int → Int → Heap → Prop
def s5l4_R (F : s5l4_T) (l : List AVal) (h : Heap) : Prop := J.cons l fun v l => J.int .i64 v fun x0 => J.cons l fun v l => J.int .i64 v fun x1 => J.cons l fun x2 l => J.cons l fun v l => J.int .i64 v fun x3 => J.cons l fun v l => J.int .i64 v fun x4 => J.cons l fun v l => J.int .i64 v fun x5 => J.nil l (F x0 x1 x2 x3 x4 x5 h)
def s5l4_G (F : s5l4_T) (x0 x1 : Int) (x2 : AVal) (x3 x4 x5 : Int) (h : Heap) : Prop := gJ [.int .i64, .int .i64, .any, .int .i64, .int .i64, .int .i64] [(.int .i64 x0), (.int .i64 x1), x2, (.int .i64 x3), (.int .i64 x4), (.int .i64 x5)] h (s5l4_R F)
def s5l4_E (F : Nat → s5l4_T) (x0 x1 : Int) (x2 : AVal) (x3 x4 x5 : Int) (h : Heap) : Prop := gJ [.int .i64, .int .i64, .any, .int .i64, .int .i64, .int .i64] [(.int .i64 x0), (.int .i64 x1), x2, (.int .i64 x3), (.int .i64 x4), (.int .i64 x5)] h (fun l h => ∃ n, s5l4_R (F n) l h)
theorem s5l4_go {F : s5l4_T} {x0 x1 : Int} {x2 : AVal} {x3 x4 x5 : Int} {h : Heap} (H : F x0 x1 x2 x3 x4 x5 h) : s5l4_G F x0 x1 x2 x3 x4 x5 h := gJ_plain rfl H
theorem s5l4_in {F : Nat → s5l4_T} {x0 x1 : Int} {x2 : AVal} {x3 x4 x5 : Int} {h : Heap} (n : Nat) (H : F n x0 x1 x2 x3 x4 x5 h) : s5l4_E F x0 x1 x2 x3 x4 x5 h := gJ_plain rfl ⟨n, H⟩

def s5c5 (Ψ : AVal → Heap → Prop) (L4 : s5l4_T) (n8 k4 : Int) (on1 : AVal) (g1 at_1 w1 : Int) (h : Heap) : Prop :=
  rg (w1 + 1) (
    L4 n8 k4 on1 g1 at_1 (w1 + 1) h)

def s5c6 (Ψ : AVal → Heap → Prop) (L4 : s5l4_T) (n9 k5 : Int) (on2 : AVal) (g2 at_2 w2 : Int) (t112 : Bool) (h : Heap) : Prop :=
  ifT t112 (
    retG (.bool false) h Ψ) (
    rg (at_2 + 1) (
      s5c5 Ψ L4 n9 k5 on2 g2 (at_2 + 1) w2 h))

def s5l4 (Ψ : AVal → Heap → Prop) : Nat → s5l4_T
  | 0, _, _, _, _, _, _, _ => False
  | n7 + 1, n6, k3, on, g, at_, w, h =>
    ifT (decide (w < n6)) (
      callG prog 20 [(.int .i64 k3), (.int .i64 w)] h fun v41 h_10 =>
      tBool v41 fun v42 =>
      ifT (!v42) (
        s5c5 Ψ (s5l4_G (s5l4 Ψ n7)) n6 k3 on g at_ w h_10) (
        lenN on fun n10 =>
        ifT (decide (n10 ≤ at_)) (
          s5c6 Ψ (s5l4_G (s5l4 Ψ n7)) n6 k3 on g at_ w true h_10) (
          ixS 1 on at_ fun p10 =>
          ld1 h_10 p10 fun v43 =>
          tInt .i64 v43 fun v44 =>
          s5c6 Ψ (s5l4_G (s5l4 Ψ n7)) n6 k3 on g at_ w (v44 != w) h_10))) (
      callG prog 9 [(.int .i64 g)] h fun v45 h_11 =>
      tInt .i64 v45 fun v46 =>
      ifT (v46 == 0) (
        lenN on fun n11 =>
        ifT (at_ == n11) (
          callG prog 11 [] h_11 fun v47 h_12 =>
          tBool v47 fun v48 =>
          retG (.bool v48) h_12 Ψ) (
          retG (.bool false) h_11 Ψ)) (
        retG (.bool false) h_11 Ψ))

def s5l2 (Ψ : AVal → Heap → Prop) : Nat → s5l2_T
  | 0, _, _, _, _, _, _, _, _, _ => False
  | n3 + 1, id_2, n2, t1, r2, k1, m1, l_15, i, h =>
    lenN l_15 fun n4 =>
    ifT (decide (i < n4)) (
      nilCheckA r2 fun p =>
      addOff p 0 fun p1 =>
      ld1 h p1 fun v22 =>
      ixS 1 l_15 i fun p2 =>
      ld1 h p2 fun v23 =>
      tInt .i64 v23 fun v24 =>
      ixS 4 v22 v24 fun p3 =>
      addOff p3 0 fun p4 =>
      ld1 h p4 fun v25 =>
      tInt .i64 v25 fun v26 =>
      ifT (v26 == 1) (
        nilCheckA r2 fun p5 =>
        addOff p5 0 fun p6 =>
        ld1 h p6 fun v27 =>
        ixS 1 l_15 i fun p7 =>
        ld1 h p7 fun v28 =>
        tInt .i64 v28 fun v29 =>
        ixS 4 v27 v29 fun p8 =>
        addOff p8 1 fun p9 =>
        ld1 h p9 fun v30 =>
        tStr v30 fun v31 =>
        s5c3 Ψ (s5l2_G (s5l2 Ψ n3)) id_2 n2 t1 r2 k1 m1 l_15 i (!strEq v31 (ByteArray.mk #[112])) h) (
        s5c3 Ψ (s5l2_G (s5l2 Ψ n3)) id_2 n2 t1 r2 k1 m1 l_15 i false h)) (
      ldN 2 h m1 fun l_17 =>
      tCons l_17 fun v32 l_18 =>
      tCons l_18 fun v33 l_19 =>
      tNil l_19 (
        callG prog 19 [(.agg [v32, v33])] h fun v34 h_8 =>
        tAgg v34 fun l_20 =>
        tCons l_20 fun v35 l_21 =>
        tCons l_21 fun v36 l_22 =>
        tNil l_22 (
          callG prog 18 [t1, (.agg [v35, v36]), (.int .i64 id_2)] h_8 fun v37 h_9 =>
          tTup v37 fun l_23 =>
          tCons l_23 fun v38 l_24 =>
          tCons l_24 fun v39 l_25 =>
          tInt .i64 v39 fun v40 =>
          tNil l_25 (
            s5l4_E (s5l4 Ψ) n2 k1 v38 v40 0 0 h_9))))

def s5c1 (Ψ : AVal → Heap → Prop) (id_1 n1 : Int) (t r1 : AVal) (k : Int) (m : AVal) (t43 : Bool) (h : Heap) : Prop :=
  ifT t43 (
    callG prog 11 [] h fun v14 h_5 =>
    tBool v14 fun v15 =>
    retG (.bool v15) h_5 Ψ) (
    callG prog 17 [r1, (.int .i64 id_1)] h fun v16 h_6 =>
    tTup v16 fun l_12 =>
    tCons l_12 fun v17 l_13 =>
    tCons l_13 fun v18 l_14 =>
    tInt .i64 v18 fun v19 =>
    tNil l_14 (
      s5l2_E (s5l2 Ψ) id_1 n1 t r1 k m v17 0 h_6))

def s5 (Ψ : AVal → Heap → Prop) (rows : AVal) (id_ : Int) (n : Int) (h : Heap) : Prop :=
  callG prog 6 [rows] h fun v h_ =>
  tTup v fun l_ =>
  tCons l_ fun v1 l_1 =>
  tCons l_1 fun v2 l_2 =>
  tNil l_2 (
    callG prog 12 [v1, (.int .i64 id_)] h_ fun v3 h_1 =>
    tTup v3 fun l_3 =>
    tCons l_3 fun v4 l_4 =>
    tInt .i64 v4 fun v5 =>
    tCons l_4 fun v6 l_5 =>
    tInt .i64 v6 fun v7 =>
    tNil l_5 (
      callG prog 16 [(.int .i64 n), (.str (ByteArray.mk #[112]))] h_1 fun v8 h_2 =>
      tTup v8 fun l_6 =>
      tCons l_6 fun v9 l_7 =>
      tCons l_7 fun v10 l_8 =>
      tInt .i64 v10 fun v11 =>
      tNil l_8 (
        tAgg v9 fun l_9 =>
        tCons l_9 fun v12 l_10 =>
        tCons l_10 fun v13 l_11 =>
        tNil l_11 (
          Sym.newRow 2 [(.agg [.nilsl, .nilsl])] h_2 fun r h_3 =>
          st false h_3 (.ptr r 0 0) [v12, v13] fun h_4 =>
          callG prog 9 [(.int .i64 v7)] h_4 fun v49 h_13 =>
          tInt .i64 v49 fun v50 =>
          ifT (v50 != 0) (
            s5c1 Ψ id_ n v1 v2 v5 (.ptr r 0 0) true h_13) (
            callG prog 9 [(.int .i64 v11)] h_13 fun v51 h_14 =>
            tInt .i64 v51 fun v52 =>
            s5c1 Ψ id_ n v1 v2 v5 (.ptr r 0 0) (v52 != 0) h_14)))))

def s5_A (Ψ : AVal → Heap → Prop) : Ann :=
  .seq (rA 1)
  (.seq (rA 7)
  (.seq (rA 8)
  (.seq (rA 8)
  (.seq (.cut [(1, .int .i64), (2, .int .i64), (7, .any), (8, .any), (9, .int .i64), (11, .any), (43, .bool)] (fun l h => J.cons l fun v l => J.int .i64 v fun x0 => J.cons l fun v l => J.int .i64 v fun x1 => J.cons l fun x2 l => J.cons l fun x3 l => J.cons l fun v l => J.int .i64 v fun x4 => J.cons l fun x5 l => J.cons l fun v l => J.bool v fun x6 => J.nil l (s5c1 Ψ x0 x1 x2 x3 x4 x5 x6 h)) (.reg [⟨none, [(0, false), (1, false), (2, false), (3, false)]⟩, ⟨some (39, false), [(4, false), (5, false), (6, false)]⟩, ⟨none, [(7, false)]⟩])
  (.cond (.seq (rA 2)
  (.leaf))
  (.leaf)))
  (.seq (rA 8)
  (.seq (.seq (rA 1)
  (.block (.loop [(1, .int .i64), (2, .int .i64), (7, .any), (8, .any), (9, .int .i64), (11, .any), (13, .any), (15, .int .i64)] (fun n l h => s5l2_R (s5l2 Ψ n) l h) (fun L2 =>
  .seq (.seq (rA 4)
  (.cond (.leaf)
  (.leaf)))
  (.seq (.block (.cut [(1, .int .i64), (2, .int .i64), (7, .any), (8, .any), (9, .int .i64), (11, .any), (13, .any), (15, .int .i64), (82, .bool)] (fun l h => J.cons l fun v l => J.int .i64 v fun x0 => J.cons l fun v l => J.int .i64 v fun x1 => J.cons l fun x2 l => J.cons l fun x3 l => J.cons l fun v l => J.int .i64 v fun x4 => J.cons l fun x5 l => J.cons l fun x6 l => J.cons l fun v l => J.int .i64 v fun x7 => J.cons l fun v l => J.bool v fun x8 => J.nil l (s5c3 Ψ (fun y0 y1 y2 y3 y4 y5 y6 y7 h => L2 [(.int .i64 y0), (.int .i64 y1), y2, y3, (.int .i64 y4), y5, y6, (.int .i64 y7)] h) x0 x1 x2 x3 x4 x5 x6 x7 x8 h)) (.draw [(0, false), (1, false), (2, false), (3, false), (4, false), (5, false), (6, false), (7, false), (8, false), (9, false), (10, false), (11, false), (12, false), (13, false), (14, false), (15, false), (16, false), (17, false), (18, false), (19, false), (20, false), (21, false), (22, false), (23, false), (24, false), (25, false)] [0, 1, 3, 7, 0, 0, 48, 112, 255, 511, 1023, 2047, 4095, 8191, 16383, 32767, 65535, 8191, 8191, 401407, 925695, 2097151, 4194303, 8388607, 16777215, 33554431])
  (.cond (.seq (rA 2)
  (.leaf))
  (.leaf))))
  (rA 3))))))
  (.seq (rA 10)
  (.seq (rA 1)
  (.seq (.seq (rA 1)
  (.block (.loop [(2, .int .i64), (9, .int .i64), (16, .any), (17, .int .i64), (18, .int .i64), (19, .int .i64)] (fun n l h => s5l4_R (s5l4 Ψ n) l h) (fun L4 =>
  .seq (.seq (rA 3)
  (.cond (.leaf)
  (.leaf)))
  (.cut [(2, .int .i64), (9, .int .i64), (16, .any), (17, .int .i64), (18, .int .i64), (19, .int .i64)] (fun l h => J.cons l fun v l => J.int .i64 v fun x0 => J.cons l fun v l => J.int .i64 v fun x1 => J.cons l fun x2 l => J.cons l fun v l => J.int .i64 v fun x3 => J.cons l fun v l => J.int .i64 v fun x4 => J.cons l fun v l => J.int .i64 v fun x5 => J.nil l (s5c5 Ψ (fun y0 y1 y2 y3 y4 y5 h => L4 [(.int .i64 y0), (.int .i64 y1), y2, (.int .i64 y3), (.int .i64 y4), (.int .i64 y5)] h) x0 x1 x2 x3 x4 x5 h)) (.block (.seq (.seq (rA 4)
  (.cond (.leaf)
  (.leaf)))
  (.seq (.cut [(2, .int .i64), (9, .int .i64), (16, .any), (17, .int .i64), (18, .int .i64), (19, .int .i64), (112, .bool)] (fun l h => J.cons l fun v l => J.int .i64 v fun x0 => J.cons l fun v l => J.int .i64 v fun x1 => J.cons l fun x2 l => J.cons l fun v l => J.int .i64 v fun x3 => J.cons l fun v l => J.int .i64 v fun x4 => J.cons l fun v l => J.int .i64 v fun x5 => J.cons l fun v l => J.bool v fun x6 => J.nil l (s5c6 Ψ (fun y0 y1 y2 y3 y4 y5 h => L4 [(.int .i64 y0), (.int .i64 y1), y2, (.int .i64 y3), (.int .i64 y4), (.int .i64 y5)] h) x0 x1 x2 x3 x4 x5 x6 h)) (.reg [⟨none, [(0, false), (1, false), (2, false), (3, false), (4, false)]⟩, ⟨some (105, false), [(5, false), (6, false), (7, false), (8, false), (9, false), (10, false)]⟩, ⟨none, [(11, false)]⟩])
  (.cond (.seq (rA 1)
  (.leaf))
  (.leaf)))
  (rA 3))))
  (rA 3))))))
  (.seq (.reg [⟨none, [(0, false), (1, false), (2, false), (3, false)]⟩, ⟨some (118, true), [(4, false), (5, false), (6, false), (7, false)]⟩, ⟨none, [(8, false), (9, false)]⟩, ⟨some (124, true), [(10, false)]⟩, ⟨none, [(11, false), (12, false)]⟩])
  (.leaf)))))))))))

theorem s5_ok {Ψ : AVal → Heap → Prop} {rows : AVal} {id_ : Int} {n : Int} {h : Heap} (H : s5 Ψ rows id_ n h) : ACalls prog 5 [rows, (.int .i64 id_), (.int .i64 n)] h Ψ :=
  calls_of_evF func5 (by kernel_rfl) (by kernel_rfl) (by kernel_rfl)
    (Eq.mpr (by as_aux_lemma => kernel_rfl : oblF prog f5 (s5_A Ψ) Ψ = (True ∧ True ∧ True ∧ True ∧ ((True) ∧ (∀ (h : Heap) (x0 x1 : Int) (x2 x3 : AVal) (x4 : Int) (x5 : AVal) (x6 : Bool), OI (s5c1 Ψ x0 x1 x2 x3 x4 x5 x6 h)) ∧ ((True ∧ True) ∧ True)) ∧ True ∧ (True ∧ (∀ (h : Heap) (x0 x1 : Int) (x2 x3 : AVal) (x4 : Int) (x5 x6 : AVal) (x7 : Int), ON (s5l2 Ψ 0 x0 x1 x2 x3 x4 x5 x6 x7 h)) ∧ ∀ n2 : Nat, (∀ (h : Heap) (x0 x1 : Int) (x2 x3 : AVal) (x4 : Int) (x5 x6 : AVal) (x7 : Int), OI (s5l2 Ψ (n2 + 1) x0 x1 x2 x3 x4 x5 x6 x7 h)) ∧ ((True ∧ True ∧ True) ∧ ((True) ∧ (∀ (h : Heap) (x0 x1 : Int) (x2 x3 : AVal) (x4 : Int) (x5 x6 : AVal) (x7 : Int) (x8 : Bool), OI (s5c3 Ψ (s5l2_G (s5l2 Ψ n2)) x0 x1 x2 x3 x4 x5 x6 x7 x8 h)) ∧ ((True ∧ True) ∧ True)) ∧ True)) ∧ True ∧ True ∧ (True ∧ (∀ (h : Heap) (x0 x1 : Int) (x2 : AVal) (x3 x4 x5 : Int), ON (s5l4 Ψ 0 x0 x1 x2 x3 x4 x5 h)) ∧ ∀ n4 : Nat, (∀ (h : Heap) (x0 x1 : Int) (x2 : AVal) (x3 x4 x5 : Int), OI (s5l4 Ψ (n4 + 1) x0 x1 x2 x3 x4 x5 h)) ∧ ((True ∧ True ∧ True) ∧ ((True ∧ True ∧ True) ∧ ((True) ∧ (∀ (h : Heap) (x0 x1 : Int) (x2 : AVal) (x3 x4 x5 : Int) (x6 : Bool), OI (s5c6 Ψ (s5l4_G (s5l4 Ψ n4)) x0 x1 x2 x3 x4 x5 x6 h)) ∧ ((True ∧ True) ∧ True)) ∧ True) ∧ (∀ (h : Heap) (x0 x1 : Int) (x2 : AVal) (x3 x4 x5 : Int), OI (s5c5 Ψ (s5l4_G (s5l4 Ψ n4)) x0 x1 x2 x3 x4 x5 h)) ∧ (True))) ∧ True ∧ True)) ⟨trivial, ⟨trivial, ⟨trivial, ⟨trivial, ⟨⟨trivial, fun _ _ _ _ _ _ _ _ H => H, ⟨⟨trivial, trivial⟩, trivial⟩⟩, ⟨trivial, ⟨⟨trivial, ⟨fun _ _ _ _ _ _ _ _ _ H => H, fun _ => ⟨fun _ _ _ _ _ _ _ _ _ H => H, ⟨⟨trivial, ⟨trivial, trivial⟩⟩, ⟨⟨trivial, fun _ _ _ _ _ _ _ _ _ _ H => H, ⟨⟨trivial, trivial⟩, trivial⟩⟩, trivial⟩⟩⟩⟩⟩, ⟨trivial, ⟨trivial, ⟨⟨trivial, ⟨fun _ _ _ _ _ _ _ H => H, fun _ => ⟨fun _ _ _ _ _ _ _ H => H, ⟨⟨trivial, ⟨trivial, trivial⟩⟩, ⟨⟨⟨trivial, ⟨trivial, trivial⟩⟩, ⟨⟨trivial, fun _ _ _ _ _ _ _ _ H => H, ⟨⟨trivial, trivial⟩, trivial⟩⟩, trivial⟩⟩, fun _ _ _ _ _ _ _ H => H, trivial⟩⟩⟩⟩⟩, ⟨trivial, trivial⟩⟩⟩⟩⟩⟩⟩⟩⟩⟩⟩)
    (Eq.mpr (by as_aux_lemma => kernel_rfl : evF prog f5 (s5_A Ψ) Ψ [rows, (.int .i64 id_), (.int .i64 n)] h = s5 Ψ rows id_ n h) H)

/- 7 dictum/nishimura.Ladder -/
def s7c1 (Ψ : AVal → Heap → Prop) (t1 : AVal) (atom1 : ByteArray) (k1 : Int) (t19 : Bool) (h : Heap) : Prop :=
  ifT t19 (
    retG (.tuple [(.int .i64 0), (.int .i64 2)]) h Ψ) (
    callG prog 25 [t1] h fun v3 h_2 =>
    tInt .i64 v3 fun v4 =>
    callG prog 26 [t1, (.str atom1), (.int .i64 k1)] h_2 fun v5 h_3 =>
    tTup v5 fun l_ =>
    tCons l_ fun v6 l_1 =>
    tInt .i64 v6 fun v7 =>
    tCons l_1 fun v8 l_2 =>
    tInt .i64 v8 fun v9 =>
    tNil l_2 (
      ifT (v9 != 0) (
        callG prog 27 [t1, (.int .i64 v4)] h_3 fun v10 h_4 =>
        tInt .i64 v10 fun v11 =>
        retG (.tuple [(.int .i64 0), (.int .i64 v9)]) h_4 Ψ) (
        retG (.tuple [(.int .i64 v7), (.int .i64 0)]) h_3 Ψ)))

def s7 (Ψ : AVal → Heap → Prop) (t : AVal) (atom : ByteArray) (k : Int) (h : Heap) : Prop :=
  callG prog 23 [t] h fun v h_ =>
  nilP v fun b =>
  ifT b (
    retG (.tuple [(.int .i64 0), (.int .i64 1)]) h_ Ψ) (
    callG prog 24 [(.str atom)] h_ fun v1 h_1 =>
    tBool v1 fun v2 =>
    ifT (!v2) (
      retG (.tuple [(.int .i64 0), (.int .i64 32)]) h_1 Ψ) (
      ifT (decide (k < (-1))) (
        s7c1 Ψ t atom k true h_1) (
        s7c1 Ψ t atom k (decide (4096 < k)) h_1)))

def s7_A (Ψ : AVal → Heap → Prop) : Ann :=
  .seq (rA 2)
  (.seq (.block (.seq (rA 4)
  (.cond (.seq (rA 2)
  (.leaf))
  (.seq (rA 4)
  (.cond (.seq (rA 2)
  (.leaf))
  (.cut [(0, .any), (1, .str), (2, .int .i64), (19, .bool)] (fun l h => J.cons l fun x0 l => J.cons l fun v l => J.str v fun x1 => J.cons l fun v l => J.int .i64 v fun x2 => J.cons l fun v l => J.bool v fun x3 => J.nil l (s7c1 Ψ x0 x1 x2 x3 h)) (.reg [⟨none, [(0, false), (1, false), (2, false)]⟩, ⟨some (22, false), [(3, false), (4, false)]⟩, ⟨none, [(5, false), (6, false)]⟩])
  (.cond (.seq (rA 2)
  (.leaf))
  (.leaf))))))))
  (.seq (rA 3)
  (.seq (rA 9)
  (.seq (.seq (rA 2)
  (.cond (.seq (rA 3)
  (.seq (rA 3)
  (.leaf)))
  (.leaf)))
  (.seq (rA 3)
  (.leaf))))))

theorem s7_ok {Ψ : AVal → Heap → Prop} {t : AVal} {atom : ByteArray} {k : Int} {h : Heap} (H : s7 Ψ t atom k h) : ACalls prog 7 [t, (.str atom), (.int .i64 k)] h Ψ :=
  calls_of_evF func7 (by kernel_rfl) (by kernel_rfl) (by kernel_rfl)
    (Eq.mpr (by as_aux_lemma => kernel_rfl : oblF prog f7 (s7_A Ψ) Ψ = (True ∧ (True ∧ (True ∧ True) ∧ True ∧ (True ∧ True) ∧ (True) ∧ (∀ (h : Heap) (x0 : AVal) (x1 : ByteArray) (x2 : Int) (x3 : Bool), OI (s7c1 Ψ x0 x1 x2 x3 h)) ∧ ((True ∧ True) ∧ True)) ∧ True ∧ True ∧ (True ∧ (True ∧ True ∧ True) ∧ True) ∧ True ∧ True)) ⟨trivial, ⟨⟨trivial, ⟨⟨trivial, trivial⟩, ⟨trivial, ⟨⟨trivial, trivial⟩, ⟨trivial, fun _ _ _ _ _ H => H, ⟨⟨trivial, trivial⟩, trivial⟩⟩⟩⟩⟩⟩, ⟨trivial, ⟨trivial, ⟨⟨trivial, ⟨⟨trivial, ⟨trivial, trivial⟩⟩, trivial⟩⟩, ⟨trivial, trivial⟩⟩⟩⟩⟩⟩)
    (Eq.mpr (by as_aux_lemma => kernel_rfl : evF prog f7 (s7_A Ψ) Ψ [t, (.str atom), (.int .i64 k)] h = s7 Ψ t atom k h) H)

/- 9 dictum/dictumlaw26.num -/
def s9 (Ψ : AVal → Heap → Prop) (e : Int) (h : Heap) : Prop :=
  retG (.int .i64 e) h Ψ

def s9_A (Ψ : AVal → Heap → Prop) : Ann :=
  .seq (rA 1)
  (.seq (rA 2)
  (.leaf))

theorem s9_ok {Ψ : AVal → Heap → Prop} {e : Int} {h : Heap} (H : s9 Ψ e h) : ACalls prog 9 [(.int .i64 e)] h Ψ :=
  calls_of_evF func9 (by kernel_rfl) (by kernel_rfl) (by kernel_rfl)
    (Eq.mpr (by as_aux_lemma => kernel_rfl : oblF prog f9 (s9_A Ψ) Ψ = (True ∧ True ∧ True)) ⟨trivial, ⟨trivial, trivial⟩⟩)
    (Eq.mpr (by as_aux_lemma => kernel_rfl : evF prog f9 (s9_A Ψ) Ψ [(.int .i64 e)] h = s9 Ψ e h) H)

/- 12 dictum/nishimura.Rung -/
abbrev s12l1_T := AVal → Int → AVal → AVal → Int → Int → Heap → Prop
def s12l1_R (F : s12l1_T) (l : List AVal) (h : Heap) : Prop := J.cons l fun x0 l => J.cons l fun v l => J.int .i64 v fun x1 => J.cons l fun x2 l => J.cons l fun x3 l => J.cons l fun v l => J.int .i64 v fun x4 => J.cons l fun v l => J.int .i64 v fun x5 => J.nil l (F x0 x1 x2 x3 x4 x5 h)
def s12l1_G (F : s12l1_T) (x0 : AVal) (x1 : Int) (x2 x3 : AVal) (x4 x5 : Int) (h : Heap) : Prop := gJ [.any, .int .i64, .any, .any, .int .i64, .int .i64] [x0, (.int .i64 x1), x2, x3, (.int .i64 x4), (.int .i64 x5)] h (s12l1_R F)
def s12l1_E (F : Nat → s12l1_T) (x0 : AVal) (x1 : Int) (x2 x3 : AVal) (x4 x5 : Int) (h : Heap) : Prop := gJ [.any, .int .i64, .any, .any, .int .i64, .int .i64] [x0, (.int .i64 x1), x2, x3, (.int .i64 x4), (.int .i64 x5)] h (fun l h => ∃ n, s12l1_R (F n) l h)
theorem s12l1_go {F : s12l1_T} {x0 : AVal} {x1 : Int} {x2 x3 : AVal} {x4 x5 : Int} {h : Heap} (H : F x0 x1 x2 x3 x4 x5 h) : s12l1_G F x0 x1 x2 x3 x4 x5 h := gJ_plain rfl H
theorem s12l1_in {F : Nat → s12l1_T} {x0 : AVal} {x1 : Int} {x2 x3 : AVal} {x4 x5 : Int} {h : Heap} (n : Nat) (H : F n x0 x1 x2 x3 x4 x5 h) : s12l1_E F x0 x1 x2 x3 x4 x5 h := gJ_plain rfl ⟨n, H⟩

def s12c2 (Ψ : AVal → Heap → Prop) (L1 : s12l1_T) (t2 : AVal) (id_2 : Int) (known1 t34_1 : AVal) (t35_1 t36_1 : Int) (h : Heap) : Prop :=
  rg (t36_1 + 1) (
    L1 t2 id_2 known1 t34_1 t35_1 (t36_1 + 1) h)

def s12l1 (Ψ : AVal → Heap → Prop) : Nat → s12l1_T
  | 0, _, _, _, _, _, _, _ => False
  | n2 + 1, t1, id_1, known, t34, t35, t36, h =>
    ifT (decide (t36 < t35)) (
      ixS 1 t34 t36 fun p =>
      ld1 h p fun v8 =>
      tInt .i64 v8 fun v9 =>
      callG prog 37 [t1, (.int .i64 v9)] h fun v10 h_3 =>
      tTup v10 fun l_6 =>
      tCons l_6 fun v11 l_7 =>
      tCons l_7 fun v12 l_8 =>
      tBool v12 fun v13 =>
      tNil l_8 (
        tAgg v11 fun l_9 =>
        tCons l_9 fun v14 l_10 =>
        tInt .i64 v14 fun v15 =>
        tCons l_10 fun v16 l_11 =>
        tStr v16 fun v17 =>
        tCons l_11 fun v18 l_12 =>
        tInt .i64 v18 fun v19 =>
        tCons l_12 fun v20 l_13 =>
        tInt .i64 v20 fun v21 =>
        tNil l_13 (
          Sym.newRow 4 [(.agg [(.int .i64 0), (.str (ByteArray.mk #[])), (.int .i64 0), (.int .i64 0)])] h_3 fun r1 h_4 =>
          st false h_4 (.ptr r1 0 0) [(.int .i64 v15), (.str v17), (.int .i64 v19), (.int .i64 v21)] fun h_5 =>
          ld1 h_5 (.ptr r1 0 0) fun v22 =>
          tInt .i64 v22 fun v23 =>
          ifT (v23 == 1) (
            mapPut h_5 known (.int .i64 v9) (.agg [(.bool false), (.int .i64 1), (.bool false)]) fun h_6 =>
            s12c2 Ψ (s12l1_G (s12l1 Ψ n2)) t1 id_1 known t34 t35 t36 h_6) (
            ifT (v23 == 3) (
              ld1 h_5 (.ptr r1 0 2) fun v24 =>
              tInt .i64 v24 fun v25 =>
              mapGet (.agg [(.bool false), (.int .i64 0), (.bool false)]) h_5 known (.int .i64 v25) fun v26 b =>
              tAgg v26 fun l_14 =>
              tCons l_14 fun v27 l_15 =>
              tBool v27 fun v28 =>
              tCons l_15 fun v29 l_16 =>
              tInt .i64 v29 fun v30 =>
              tCons l_16 fun v31 l_17 =>
              tBool v31 fun v32 =>
              tNil l_17 (
                ld1 h_5 (.ptr r1 0 3) fun v33 =>
                tInt .i64 v33 fun v34 =>
                mapGet (.agg [(.bool false), (.int .i64 0), (.bool false)]) h_5 known (.int .i64 v34) fun v35 b1 =>
                tAgg v35 fun l_18 =>
                tCons l_18 fun v36 l_19 =>
                tBool v36 fun v37 =>
                tCons l_19 fun v38 l_20 =>
                tInt .i64 v38 fun v39 =>
                tCons l_20 fun v40 l_21 =>
                tBool v40 fun v41 =>
                tNil l_21 (
                  callG prog 41 [(.agg [(.bool v28), (.int .i64 v30), (.bool v32)]), (.agg [(.bool v37), (.int .i64 v39), (.bool v41)])] h_5 fun v42 h_7 =>
                  tAgg v42 fun l_22 =>
                  tCons l_22 fun v43 l_23 =>
                  tBool v43 fun v44 =>
                  tCons l_23 fun v45 l_24 =>
                  tInt .i64 v45 fun v46 =>
                  tCons l_24 fun v47 l_25 =>
                  tBool v47 fun v48 =>
                  tNil l_25 (
                    mapPut h_7 known (.int .i64 v9) (.agg [(.bool v44), (.int .i64 v46), (.bool v48)]) fun h_8 =>
                    s12c2 Ψ (s12l1_G (s12l1 Ψ n2)) t1 id_1 known t34 t35 t36 h_8)))) (
              ifT (v23 == 4) (
                ld1 h_5 (.ptr r1 0 2) fun v49 =>
                tInt .i64 v49 fun v50 =>
                mapGet (.agg [(.bool false), (.int .i64 0), (.bool false)]) h_5 known (.int .i64 v50) fun v51 b2 =>
                tAgg v51 fun l_26 =>
                tCons l_26 fun v52 l_27 =>
                tBool v52 fun v53 =>
                tCons l_27 fun v54 l_28 =>
                tInt .i64 v54 fun v55 =>
                tCons l_28 fun v56 l_29 =>
                tBool v56 fun v57 =>
                tNil l_29 (
                  ld1 h_5 (.ptr r1 0 3) fun v58 =>
                  tInt .i64 v58 fun v59 =>
                  mapGet (.agg [(.bool false), (.int .i64 0), (.bool false)]) h_5 known (.int .i64 v59) fun v60 b3 =>
                  tAgg v60 fun l_30 =>
                  tCons l_30 fun v61 l_31 =>
                  tBool v61 fun v62 =>
                  tCons l_31 fun v63 l_32 =>
                  tInt .i64 v63 fun v64 =>
                  tCons l_32 fun v65 l_33 =>
                  tBool v65 fun v66 =>
                  tNil l_33 (
                    callG prog 42 [(.agg [(.bool v53), (.int .i64 v55), (.bool v57)]), (.agg [(.bool v62), (.int .i64 v64), (.bool v66)])] h_5 fun v67 h_9 =>
                    tAgg v67 fun l_34 =>
                    tCons l_34 fun v68 l_35 =>
                    tBool v68 fun v69 =>
                    tCons l_35 fun v70 l_36 =>
                    tInt .i64 v70 fun v71 =>
                    tCons l_36 fun v72 l_37 =>
                    tBool v72 fun v73 =>
                    tNil l_37 (
                      mapPut h_9 known (.int .i64 v9) (.agg [(.bool v69), (.int .i64 v71), (.bool v73)]) fun h_10 =>
                      s12c2 Ψ (s12l1_G (s12l1 Ψ n2)) t1 id_1 known t34 t35 t36 h_10)))) (
                ifT (v23 == 5) (
                  ld1 h_5 (.ptr r1 0 2) fun v74 =>
                  tInt .i64 v74 fun v75 =>
                  mapGet (.agg [(.bool false), (.int .i64 0), (.bool false)]) h_5 known (.int .i64 v75) fun v76 b4 =>
                  tAgg v76 fun l_38 =>
                  tCons l_38 fun v77 l_39 =>
                  tBool v77 fun v78 =>
                  tCons l_39 fun v79 l_40 =>
                  tInt .i64 v79 fun v80 =>
                  tCons l_40 fun v81 l_41 =>
                  tBool v81 fun v82 =>
                  tNil l_41 (
                    ld1 h_5 (.ptr r1 0 3) fun v83 =>
                    tInt .i64 v83 fun v84 =>
                    mapGet (.agg [(.bool false), (.int .i64 0), (.bool false)]) h_5 known (.int .i64 v84) fun v85 b5 =>
                    tAgg v85 fun l_42 =>
                    tCons l_42 fun v86 l_43 =>
                    tBool v86 fun v87 =>
                    tCons l_43 fun v88 l_44 =>
                    tInt .i64 v88 fun v89 =>
                    tCons l_44 fun v90 l_45 =>
                    tBool v90 fun v91 =>
                    tNil l_45 (
                      callG prog 43 [(.agg [(.bool v78), (.int .i64 v80), (.bool v82)]), (.agg [(.bool v87), (.int .i64 v89), (.bool v91)])] h_5 fun v92 h_11 =>
                      tAgg v92 fun l_46 =>
                      tCons l_46 fun v93 l_47 =>
                      tBool v93 fun v94 =>
                      tCons l_47 fun v95 l_48 =>
                      tInt .i64 v95 fun v96 =>
                      tCons l_48 fun v97 l_49 =>
                      tBool v97 fun v98 =>
                      tNil l_49 (
                        mapPut h_11 known (.int .i64 v9) (.agg [(.bool v94), (.int .i64 v96), (.bool v98)]) fun h_12 =>
                        s12c2 Ψ (s12l1_G (s12l1 Ψ n2)) t1 id_1 known t34 t35 t36 h_12)))) (
                  s12c2 Ψ (s12l1_G (s12l1 Ψ n2)) t1 id_1 known t34 t35 t36 h_5))))))) (
      mapGet (.agg [(.bool false), (.int .i64 0), (.bool false)]) h known (.int .i64 id_1) fun v99 b6 =>
      tAgg v99 fun l_50 =>
      tCons l_50 fun v100 l_51 =>
      tBool v100 fun v101 =>
      tCons l_51 fun v102 l_52 =>
      tInt .i64 v102 fun v103 =>
      tCons l_52 fun v104 l_53 =>
      tBool v104 fun v105 =>
      tNil l_53 (
        callG prog 44 [(.agg [(.bool v101), (.int .i64 v103), (.bool v105)])] h fun v106 h_13 =>
        tInt .i64 v106 fun v107 =>
        retG (.tuple [(.int .i64 v107), (.int .i64 0)]) h_13 Ψ))

def s12 (Ψ : AVal → Heap → Prop) (t : AVal) (id_ : Int) (h : Heap) : Prop :=
  callG prog 39 [t, (.int .i64 id_)] h fun v h_ =>
  tTup v fun l_ =>
  tCons l_ fun v1 l_1 =>
  tCons l_1 fun v2 l_2 =>
  tInt .i64 v2 fun v3 =>
  tNil l_2 (
    ifT (v3 != 0) (
      retG (.tuple [(.int .i64 0), (.int .i64 v3)]) h_ Ψ) (
      lenN v1 fun n =>
      ifT (decide (1 < n)) (
        retG (.tuple [(.int .i64 0), (.int .i64 220)]) h_ Ψ) (
        newMap h_ fun r h_1 =>
        callG prog 40 [t, (.int .i64 id_)] h_1 fun v4 h_2 =>
        tTup v4 fun l_3 =>
        tCons l_3 fun v5 l_4 =>
        tCons l_4 fun v6 l_5 =>
        tInt .i64 v6 fun v7 =>
        tNil l_5 (
          lenN v5 fun n1 =>
          s12l1_E (s12l1 Ψ) t id_ (.mapr r) v5 n1 0 h_2))))

def s12_A (Ψ : AVal → Heap → Prop) : Ann :=
  .seq (rA 2)
  (.seq (rA 8)
  (.seq (.seq (rA 2)
  (.cond (.seq (rA 3)
  (.leaf))
  (.leaf)))
  (.seq (.seq (rA 3)
  (.cond (.seq (rA 2)
  (.leaf))
  (.leaf)))
  (.seq (rA 2)
  (.seq (rA 8)
  (.seq (.seq (rA 3)
  (.block (.loop [(0, .any), (1, .int .i64), (8, .any), (34, .any), (35, .int .i64), (36, .int .i64)] (fun n l h => s12l1_R (s12l1 Ψ n) l h) (fun L1 =>
  .seq (rA 1)
  (.seq (.cond (.leaf)
  (.leaf))
  (.cut [(0, .any), (1, .int .i64), (8, .any), (34, .any), (35, .int .i64), (36, .int .i64)] (fun l h => J.cons l fun x0 l => J.cons l fun v l => J.int .i64 v fun x1 => J.cons l fun x2 l => J.cons l fun x3 l => J.cons l fun v l => J.int .i64 v fun x4 => J.cons l fun v l => J.int .i64 v fun x5 => J.nil l (s12c2 Ψ (fun y0 y1 y2 y3 y4 y5 h => L1 [y0, (.int .i64 y1), y2, y3, (.int .i64 y4), (.int .i64 y5)] h) x0 x1 x2 x3 x4 x5 h)) (.block (.seq (rA 3)
  (.seq (rA 9)
  (.seq (rA 2)
  (.block (.seq (rA 2)
  (.cond (rA 4)
  (.seq (rA 2)
  (.cond (rA 12)
  (.seq (rA 2)
  (.cond (rA 12)
  (.seq (rA 2)
  (.cond (rA 12)
  (.leaf))))))))))))))
  (rA 2)))))))
  (.seq (rA 6)
  (.leaf))))))))

theorem s12_ok {Ψ : AVal → Heap → Prop} {t : AVal} {id_ : Int} {h : Heap} (H : s12 Ψ t id_ h) : ACalls prog 12 [t, (.int .i64 id_)] h Ψ :=
  calls_of_evF func12 (by kernel_rfl) (by kernel_rfl) (by kernel_rfl)
    (Eq.mpr (by as_aux_lemma => kernel_rfl : oblF prog f12 (s12_A Ψ) Ψ = (True ∧ True ∧ (True ∧ (True ∧ True) ∧ True) ∧ (True ∧ (True ∧ True) ∧ True) ∧ True ∧ True ∧ (True ∧ (∀ (h : Heap) (x0 : AVal) (x1 : Int) (x2 x3 : AVal) (x4 x5 : Int), ON (s12l1 Ψ 0 x0 x1 x2 x3 x4 x5 h)) ∧ ∀ n1 : Nat, (∀ (h : Heap) (x0 : AVal) (x1 : Int) (x2 x3 : AVal) (x4 x5 : Int), OI (s12l1 Ψ (n1 + 1) x0 x1 x2 x3 x4 x5 h)) ∧ (True ∧ (True ∧ True) ∧ (True ∧ True ∧ True ∧ True ∧ True ∧ True ∧ True ∧ True ∧ True ∧ True ∧ True ∧ True) ∧ (∀ (h : Heap) (x0 : AVal) (x1 : Int) (x2 x3 : AVal) (x4 x5 : Int), OI (s12c2 Ψ (s12l1_G (s12l1 Ψ n1)) x0 x1 x2 x3 x4 x5 h)) ∧ (True))) ∧ True ∧ True)) ⟨trivial, ⟨trivial, ⟨⟨trivial, ⟨⟨trivial, trivial⟩, trivial⟩⟩, ⟨⟨trivial, ⟨⟨trivial, trivial⟩, trivial⟩⟩, ⟨trivial, ⟨trivial, ⟨⟨trivial, ⟨fun _ _ _ _ _ _ _ H => H, fun _ => ⟨fun _ _ _ _ _ _ _ H => H, ⟨trivial, ⟨⟨trivial, trivial⟩, ⟨⟨trivial, ⟨trivial, ⟨trivial, ⟨trivial, ⟨trivial, ⟨trivial, ⟨trivial, ⟨trivial, ⟨trivial, ⟨trivial, ⟨trivial, trivial⟩⟩⟩⟩⟩⟩⟩⟩⟩⟩⟩, fun _ _ _ _ _ _ _ H => H, trivial⟩⟩⟩⟩⟩⟩, ⟨trivial, trivial⟩⟩⟩⟩⟩⟩⟩⟩)
    (Eq.mpr (by as_aux_lemma => kernel_rfl : evF prog f12 (s12_A Ψ) Ψ [t, (.int .i64 id_)] h = s12 Ψ t id_ h) H)

/- 16 dictum/nishimura.Model -/
abbrev s16l2_T := AVal → AVal → Int → Int → Heap → Prop
def s16l2_R (F : s16l2_T) (l : List AVal) (h : Heap) : Prop := J.cons l fun x0 l => J.cons l fun x1 l => J.cons l fun v l => J.int .i64 v fun x2 => J.cons l fun v l => J.int .i64 v fun x3 => J.nil l (F x0 x1 x2 x3 h)
def s16l2_G (F : s16l2_T) (x0 x1 : AVal) (x2 x3 : Int) (h : Heap) : Prop := gJ [.any, .any, .int .i64, .int .i64] [x0, x1, (.int .i64 x2), (.int .i64 x3)] h (s16l2_R F)
def s16l2_E (F : Nat → s16l2_T) (x0 x1 : AVal) (x2 x3 : Int) (h : Heap) : Prop := gJ [.any, .any, .int .i64, .int .i64] [x0, x1, (.int .i64 x2), (.int .i64 x3)] h (fun l h => ∃ n, s16l2_R (F n) l h)
theorem s16l2_go {F : s16l2_T} {x0 x1 : AVal} {x2 x3 : Int} {h : Heap} (H : F x0 x1 x2 x3 h) : s16l2_G F x0 x1 x2 x3 h := gJ_plain rfl H
theorem s16l2_in {F : Nat → s16l2_T} {x0 x1 : AVal} {x2 x3 : Int} {h : Heap} (n : Nat) (H : F n x0 x1 x2 x3 h) : s16l2_E F x0 x1 x2 x3 h := gJ_plain rfl ⟨n, H⟩

abbrev s16l3_T := AVal → AVal → Int → Int → Int → Int → Heap → Prop
def s16l3_R (F : s16l3_T) (l : List AVal) (h : Heap) : Prop := J.cons l fun x0 l => J.cons l fun x1 l => J.cons l fun v l => J.int .i64 v fun x2 => J.cons l fun v l => J.int .i64 v fun x3 => J.cons l fun v l => J.int .i64 v fun x4 => J.cons l fun v l => J.int .i64 v fun x5 => J.nil l (F x0 x1 x2 x3 x4 x5 h)
def s16l3_G (F : s16l3_T) (x0 x1 : AVal) (x2 x3 x4 x5 : Int) (h : Heap) : Prop := gJ [.any, .any, .int .i64, .int .i64, .int .i64, .int .i64] [x0, x1, (.int .i64 x2), (.int .i64 x3), (.int .i64 x4), (.int .i64 x5)] h (s16l3_R F)
def s16l3_E (F : Nat → s16l3_T) (x0 x1 : AVal) (x2 x3 x4 x5 : Int) (h : Heap) : Prop := gJ [.any, .any, .int .i64, .int .i64, .int .i64, .int .i64] [x0, x1, (.int .i64 x2), (.int .i64 x3), (.int .i64 x4), (.int .i64 x5)] h (fun l h => ∃ n, s16l3_R (F n) l h)
theorem s16l3_go {F : s16l3_T} {x0 x1 : AVal} {x2 x3 x4 x5 : Int} {h : Heap} (H : F x0 x1 x2 x3 x4 x5 h) : s16l3_G F x0 x1 x2 x3 x4 x5 h := gJ_plain rfl H
theorem s16l3_in {F : Nat → s16l3_T} {x0 x1 : AVal} {x2 x3 x4 x5 : Int} {h : Heap} (n : Nat) (H : F n x0 x1 x2 x3 x4 x5 h) : s16l3_E F x0 x1 x2 x3 x4 x5 h := gJ_plain rfl ⟨n, H⟩

def s16l3 (Ψ : AVal → Heap → Prop) (L2 : s16l2_T) : Nat → s16l3_T
  | 0, _, _, _, _, _, _, _ => False
  | n3 + 1, t4_2, m1, w, v9, t32_1, t33_1, h =>
    rg (w - 2) (
      ifT (decide (v9 ≤ (w - 2))) (
        addOff m1 0 fun p1 =>
        ld1 h p1 fun v10 =>
        addOff m1 0 fun p2 =>
        ld1 h p2 fun v11 =>
        ixS 1 v11 w fun p3 =>
        ld1 h p3 fun v12 =>
        (ld1 h p3 fun v13 =>
        v13 = v12) ∧
        (ld1 h p2 fun v14 =>
        v14 = v11) ∧
        (ld1 h p1 fun v15 =>
        v15 = v10) ∧
        appC 1 8 h v12 (.lsl 1 [(.int .i64 v9)]) fun v16 h_9 =>
        (ld1 h_9 p1 fun v17 =>
        v17 = v10) ∧
        ixS 1 v10 w fun p4 =>
        chk (sc v16) (
          st true h_9 p4 [v16] fun h_10 =>
          rg (v9 + 1) (
            s16l3_G (s16l3 Ψ L2 n3) t4_2 m1 w (v9 + 1) t32_1 t33_1 h_10))) (
        rg (t33_1 + 1) (
          L2 t4_2 m1 t32_1 (t33_1 + 1) h)))

def s16l2 (Ψ : AVal → Heap → Prop) : Nat → s16l2_T
  | 0, _, _, _, _, _ => False
  | n2 + 1, t4_1, m, t32, t33, h =>
    ifT (decide (t33 < t32)) (
      rg (t33 - 3) (
        s16l3_E (s16l3 Ψ (s16l2_G (s16l2 Ψ n2))) t4_1 m t33 (max 0 (t33 - 3)) t32 t33 h)) (
      ldN 2 h m fun l_6 =>
      tCons l_6 fun v18 l_7 =>
      tCons l_7 fun v19 l_8 =>
      tNil l_8 (
        st false h t4_1 [v18, v19] fun h_11 =>
        ldN 2 h_11 t4_1 fun l_9 =>
        tCons l_9 fun v20 l_10 =>
        tCons l_10 fun v21 l_11 =>
        tNil l_11 (
          retG (.tuple [(.agg [v20, v21]), (.int .i64 0)]) h_11 Ψ)))

def s16c1 (Ψ : AVal → Heap → Prop) (n1 : Int) (atom1 : ByteArray) (t4 : AVal) (t14 : Bool) (h : Heap) : Prop :=
  ifT t14 (
    st false h t4 [.nilsl, .nilsl] fun h_3 =>
    ldN 2 h_3 t4 fun l_3 =>
    tCons l_3 fun v4 l_4 =>
    tCons l_4 fun v5 l_5 =>
    tNil l_5 (
      retG (.tuple [(.agg [v4, v5]), (.int .i64 2)]) h_3 Ψ)) (
    (((mkS false 1 24 .nilsl h n1 n1 fun v6 h_4 =>
    mkS false 1 24 .nilsl h_4 n1 n1 fun v7 h_5 =>
    chk (sc v6) (
      chk (sc v7) (
        Sym.newRow 2 [(.agg [.nilsl, .nilsl])] h_5 fun r1 h_6 =>
        st false h_6 (.ptr r1 0 0) [v6, v7] fun h_7 =>
        ld1 h_7 (.ptr r1 0 1) fun v8 =>
        ixS 1 v8 0 fun p =>
        st true h_7 p [(.lsl 1 [(.str atom1)])] fun h_8 =>
        s16l2_E (s16l2 Ψ) t4 (.ptr r1 0 0) n1 0 h_8))) ∧
    mkS false 1 24 .nilsl h n1 n1 fun v22 h_12 =>
    Sym.newRow 2 [(.agg [.nilsl, .nilsl])] h_12 fun r2 h_13 =>
    mkS false 1 24 .nilsl h_13 n1 n1 fun v23 h_14 =>
    chk (sc v22) (
      chk (sc v23) (
        st false h_14 (.ptr r2 0 0) [v22, v23] fun h_15 =>
        ld1 h_15 (.ptr r2 0 1) fun v24 =>
        ixS 1 v24 0 fun p5 =>
        st true h_15 p5 [(.lsl 1 [(.str atom1)])] fun h_16 =>
        s16l2_E (s16l2 Ψ) t4 (.ptr r2 0 0) n1 0 h_16))) ∧
    Sym.newRow 2 [(.agg [.nilsl, .nilsl])] h fun r3 h_17 =>
    mkS false 1 24 .nilsl h_17 n1 n1 fun v25 h_18 =>
    mkS false 1 24 .nilsl h_18 n1 n1 fun v26 h_19 =>
    chk (sc v25) (
      chk (sc v26) (
        st false h_19 (.ptr r3 0 0) [v25, v26] fun h_20 =>
        ld1 h_20 (.ptr r3 0 1) fun v27 =>
        ixS 1 v27 0 fun p6 =>
        st true h_20 p6 [(.lsl 1 [(.str atom1)])] fun h_21 =>
        s16l2_E (s16l2 Ψ) t4 (.ptr r3 0 0) n1 0 h_21))) ∧
    (mkS false 1 24 .nilsl h n1 n1 fun v28 h_22 =>
    mkS false 1 24 .nilsl h_22 n1 n1 fun v29 h_23 =>
    chk (sc v29) (
      chk (sc v28) (
        Sym.newRow 2 [(.agg [.nilsl, .nilsl])] h_23 fun r4 h_24 =>
        st false h_24 (.ptr r4 0 0) [v29, v28] fun h_25 =>
        ld1 h_25 (.ptr r4 0 1) fun v30 =>
        ixS 1 v30 0 fun p7 =>
        st true h_25 p7 [(.lsl 1 [(.str atom1)])] fun h_26 =>
        s16l2_E (s16l2 Ψ) t4 (.ptr r4 0 0) n1 0 h_26))) ∧
    (mkS false 1 24 .nilsl h n1 n1 fun v31 h_27 =>
    Sym.newRow 2 [(.agg [.nilsl, .nilsl])] h_27 fun r5 h_28 =>
    mkS false 1 24 .nilsl h_28 n1 n1 fun v32 h_29 =>
    chk (sc v32) (
      chk (sc v31) (
        st false h_29 (.ptr r5 0 0) [v32, v31] fun h_30 =>
        ld1 h_30 (.ptr r5 0 1) fun v33 =>
        ixS 1 v33 0 fun p8 =>
        st true h_30 p8 [(.lsl 1 [(.str atom1)])] fun h_31 =>
        s16l2_E (s16l2 Ψ) t4 (.ptr r5 0 0) n1 0 h_31))) ∧
    Sym.newRow 2 [(.agg [.nilsl, .nilsl])] h fun r6 h_32 =>
    mkS false 1 24 .nilsl h_32 n1 n1 fun v34 h_33 =>
    mkS false 1 24 .nilsl h_33 n1 n1 fun v35 h_34 =>
    chk (sc v35) (
      chk (sc v34) (
        st false h_34 (.ptr r6 0 0) [v35, v34] fun h_35 =>
        ld1 h_35 (.ptr r6 0 1) fun v36 =>
        ixS 1 v36 0 fun p9 =>
        st true h_35 p9 [(.lsl 1 [(.str atom1)])] fun h_36 =>
        s16l2_E (s16l2 Ψ) t4 (.ptr r6 0 0) n1 0 h_36)))

def s16 (Ψ : AVal → Heap → Prop) (n : Int) (atom : ByteArray) (h : Heap) : Prop :=
  Sym.newRow 2 [(.agg [.nilsl, .nilsl])] h fun r h_ =>
  callG prog 24 [(.str atom)] h_ fun v h_1 =>
  tBool v fun v1 =>
  ifT (!v1) (
    st false h_1 (.ptr r 0 0) [.nilsl, .nilsl] fun h_2 =>
    ldN 2 h_2 (.ptr r 0 0) fun l_ =>
    tCons l_ fun v2 l_1 =>
    tCons l_1 fun v3 l_2 =>
    tNil l_2 (
      retG (.tuple [(.agg [v2, v3]), (.int .i64 32)]) h_2 Ψ)) (
    ifT (decide (n < 1)) (
      s16c1 Ψ n atom (.ptr r 0 0) true h_1) (
      s16c1 Ψ n atom (.ptr r 0 0) (decide (512 < n)) h_1))

def s16_A (Ψ : AVal → Heap → Prop) : Ann :=
  .seq (rA 2)
  (.seq (.block (.seq (rA 4)
  (.cond (.seq (rA 3)
  (.leaf))
  (.cut [(0, .int .i64), (1, .str), (4, .any), (14, .bool)] (fun l h => J.cons l fun v l => J.int .i64 v fun x0 => J.cons l fun v l => J.str v fun x1 => J.cons l fun x2 l => J.cons l fun v l => J.bool v fun x3 => J.nil l (s16c1 Ψ x0 x1 x2 x3 h)) (.reg [⟨none, [(0, false), (1, false), (2, false)]⟩, ⟨some (17, false), [(3, false), (4, false)]⟩, ⟨none, [(5, false), (6, false)]⟩])
  (.cond (.seq (rA 3)
  (.leaf))
  (.leaf))))))
  (.seq (.drawT (.split 1 3 (.split 1 5 (.split 3 5 (.leaf [(0, false), (2, false), (1, false), (3, false), (4, false), (5, false), (6, false)]) (.leaf [(0, false), (2, false), (1, false), (5, false), (3, false), (4, false), (6, false)])) (.leaf [(0, false), (2, false), (5, false), (1, false), (3, false), (4, false), (6, false)])) (.split 1 5 (.leaf [(0, false), (2, false), (3, false), (1, false), (4, false), (5, false), (6, false)]) (.split 3 5 (.leaf [(0, false), (2, false), (3, false), (5, false), (1, false), (4, false), (6, false)]) (.leaf [(0, false), (2, false), (5, false), (3, false), (1, false), (4, false), (6, false)])))) [0, 1, 0, 4, 15, 0, 63])
  (.seq (.reg [⟨none, [(0, false), (1, false), (2, false), (3, true), (4, false), (5, false)]⟩])
  (.seq (.seq (rA 2)
  (.block (.loop [(4, .any), (6, .any), (32, .int .i64), (33, .int .i64)] (fun n l h => s16l2_R (s16l2 Ψ n) l h) (fun L2 =>
  .seq (rA 1)
  (.seq (.cond (.leaf)
  (.leaf))
  (.seq (.block (.seq (rA 2)
  (.seq (rA 4)
  (.block (.loop [(4, .any), (6, .any), (7, .int .i64), (8, .int .i64), (32, .int .i64), (33, .int .i64)] (fun n l h => s16l3_R (s16l3 Ψ (fun y0 y1 y2 y3 h => L2 [y0, y1, (.int .i64 y2), (.int .i64 y3)] h) n) l h) (fun L3 =>
  .seq (.seq (rA 4)
  (.cond (.leaf)
  (.leaf)))
  (.seq (.block (.draw [(0, false), (1, false), (2, false), (3, false), (4, false), (5, false), (6, false), (7, false), (8, false), (9, true), (10, false), (11, false), (12, false)] [0, 1, 0, 0, 8, 0, 56, 120, 0, 256, 1016, 2047, 4095]))
  (rA 3))))))))
  (rA 2)))))))
  (.seq (rA 3)
  (.leaf))))))

theorem s16_ok {Ψ : AVal → Heap → Prop} {n : Int} {atom : ByteArray} {h : Heap} (H : s16 Ψ n atom h) : ACalls prog 16 [(.int .i64 n), (.str atom)] h Ψ :=
  calls_of_evF func16 (by kernel_rfl) (by kernel_rfl) (by kernel_rfl)
    (Eq.mpr (by as_aux_lemma => kernel_rfl : oblF prog f16 (s16_A Ψ) Ψ = (True ∧ (True ∧ (True ∧ True) ∧ (True) ∧ (∀ (h : Heap) (x0 : Int) (x1 : ByteArray) (x2 : AVal) (x3 : Bool), OI (s16c1 Ψ x0 x1 x2 x3 h)) ∧ ((True ∧ True) ∧ True)) ∧ True ∧ True ∧ (True ∧ (∀ (h : Heap) (x0 x1 : AVal) (x2 x3 : Int), ON (s16l2 Ψ 0 x0 x1 x2 x3 h)) ∧ ∀ n2 : Nat, (∀ (h : Heap) (x0 x1 : AVal) (x2 x3 : Int), OI (s16l2 Ψ (n2 + 1) x0 x1 x2 x3 h)) ∧ (True ∧ (True ∧ True) ∧ (True ∧ True ∧ (∀ (h : Heap) (x0 x1 : AVal) (x2 x3 x4 x5 : Int), ON (s16l3 Ψ (s16l2_G (s16l2 Ψ n2)) 0 x0 x1 x2 x3 x4 x5 h)) ∧ ∀ n3 : Nat, (∀ (h : Heap) (x0 x1 : AVal) (x2 x3 x4 x5 : Int), OI (s16l3 Ψ (s16l2_G (s16l2 Ψ n2)) (n3 + 1) x0 x1 x2 x3 x4 x5 h)) ∧ ((True ∧ True ∧ True) ∧ True ∧ True)) ∧ True)) ∧ True ∧ True)) ⟨trivial, ⟨⟨trivial, ⟨⟨trivial, trivial⟩, ⟨trivial, fun _ _ _ _ _ H => H, ⟨⟨trivial, trivial⟩, trivial⟩⟩⟩⟩, ⟨trivial, ⟨trivial, ⟨⟨trivial, ⟨fun _ _ _ _ _ H => H, fun _ => ⟨fun _ _ _ _ _ H => H, ⟨trivial, ⟨⟨trivial, trivial⟩, ⟨⟨trivial, ⟨trivial, ⟨fun _ _ _ _ _ _ _ H => H, fun _ => ⟨fun _ _ _ _ _ _ _ H => H, ⟨⟨trivial, ⟨trivial, trivial⟩⟩, ⟨trivial, trivial⟩⟩⟩⟩⟩⟩, trivial⟩⟩⟩⟩⟩⟩, ⟨trivial, trivial⟩⟩⟩⟩⟩⟩)
    (Eq.mpr (by as_aux_lemma => kernel_rfl : evF prog f16 (s16_A Ψ) Ψ [(.int .i64 n), (.str atom)] h = s16 Ψ n atom h) H)

/- 18 dictum/force.Worlds -/
abbrev s18l1_T := Int → AVal → AVal → Int → Int → Heap → Prop
def s18l1_R (F : s18l1_T) (l : List AVal) (h : Heap) : Prop := J.cons l fun v l => J.int .i64 v fun x0 => J.cons l fun x1 l => J.cons l fun x2 l => J.cons l fun v l => J.int .i64 v fun x3 => J.cons l fun v l => J.int .i64 v fun x4 => J.nil l (F x0 x1 x2 x3 x4 h)
def s18l1_G (F : s18l1_T) (x0 : Int) (x1 x2 : AVal) (x3 x4 : Int) (h : Heap) : Prop := gJ [.int .i64, .any, .any, .int .i64, .int .i64] [(.int .i64 x0), x1, x2, (.int .i64 x3), (.int .i64 x4)] h (s18l1_R F)
def s18l1_E (F : Nat → s18l1_T) (x0 : Int) (x1 x2 : AVal) (x3 x4 : Int) (h : Heap) : Prop := gJ [.int .i64, .any, .any, .int .i64, .int .i64] [(.int .i64 x0), x1, x2, (.int .i64 x3), (.int .i64 x4)] h (fun l h => ∃ n, s18l1_R (F n) l h)
theorem s18l1_go {F : s18l1_T} {x0 : Int} {x1 x2 : AVal} {x3 x4 : Int} {h : Heap} (H : F x0 x1 x2 x3 x4 h) : s18l1_G F x0 x1 x2 x3 x4 h := gJ_plain rfl H
theorem s18l1_in {F : Nat → s18l1_T} {x0 : Int} {x1 x2 : AVal} {x3 x4 : Int} {h : Heap} (n : Nat) (H : F n x0 x1 x2 x3 x4 h) : s18l1_E F x0 x1 x2 x3 x4 h := gJ_plain rfl ⟨n, H⟩

def s18c2 (Ψ : AVal → Heap → Prop) (L1 : s18l1_T) (id_2 : Int) (y1 out1 : AVal) (t27_1 t28_1 : Int) (h : Heap) : Prop :=
  rg (t28_1 + 1) (
    L1 id_2 y1 out1 t27_1 (t28_1 + 1) h)

def s18l1 (Ψ : AVal → Heap → Prop) : Nat → s18l1_T
  | 0, _, _, _, _, _, _ => False
  | n1 + 1, id_1, y, out, t27, t28, h =>
    ifT (decide (t28 < t27)) (
      callG prog 53 [y, (.int .i64 t28), (.int .i64 id_1)] h fun v6 h_2 =>
      tBool v6 fun v7 =>
      ifT v7 (
        appC 1 8 h_2 out (.lsl 1 [(.int .i64 t28)]) fun v8 h_3 =>
        s18c2 Ψ (s18l1_G (s18l1 Ψ n1)) id_1 y v8 t27 t28 h_3) (
        s18c2 Ψ (s18l1_G (s18l1 Ψ n1)) id_1 y out t27 t28 h_2)) (
      retG (.tuple [out, (.int .i64 0)]) h Ψ)

def s18 (Ψ : AVal → Heap → Prop) (t : AVal) (m_Up : AVal) (m_Val : AVal) (id_ : Int) (h : Heap) : Prop :=
  callG prog 51 [t, (.agg [m_Up, m_Val])] h fun v h_ =>
  tTup v fun l_ =>
  tCons l_ fun v1 l_1 =>
  tCons l_1 fun v2 l_2 =>
  tInt .i64 v2 fun v3 =>
  tNil l_2 (
    ifT (v3 != 0) (
      retG (.tuple [.nilsl, (.int .i64 v3)]) h_ Ψ) (
      callG prog 52 [t, (.int .i64 id_)] h_ fun v4 h_1 =>
      tBool v4 fun v5 =>
      ifT (!v5) (
        retG (.tuple [.nilsl, (.int .i64 31)]) h_1 Ψ) (
        lenN m_Up fun n =>
        s18l1_E (s18l1 Ψ) id_ v1 .nilsl n 0 h_1)))

def s18_A (Ψ : AVal → Heap → Prop) : Ann :=
  .seq (.reg [⟨none, [(0, true), (1, false), (2, false)]⟩])
  (.seq (rA 8)
  (.seq (.seq (rA 2)
  (.cond (.seq (rA 3)
  (.leaf))
  (.leaf)))
  (.seq (.seq (rA 4)
  (.cond (.seq (rA 2)
  (.leaf))
  (.leaf)))
  (.seq (rA 1)
  (.seq (.seq (rA 4)
  (.block (.loop [(2, .int .i64), (8, .any), (10, .any), (27, .int .i64), (28, .int .i64)] (fun n l h => s18l1_R (s18l1 Ψ n) l h) (fun L1 =>
  .seq (rA 1)
  (.seq (.cond (.leaf)
  (.leaf))
  (.cut [(2, .int .i64), (8, .any), (10, .any), (27, .int .i64), (28, .int .i64)] (fun l h => J.cons l fun v l => J.int .i64 v fun x0 => J.cons l fun x1 l => J.cons l fun x2 l => J.cons l fun v l => J.int .i64 v fun x3 => J.cons l fun v l => J.int .i64 v fun x4 => J.nil l (s18c2 Ψ (fun y0 y1 y2 y3 y4 h => L1 [(.int .i64 y0), y1, y2, (.int .i64 y3), (.int .i64 y4)] h) x0 x1 x2 x3 x4 h)) (.block (.seq (rA 2)
  (.seq (rA 4)
  (.cond (.reg [⟨none, [(0, false), (1, false), (2, true), (3, false), (4, false)]⟩])
  (.leaf)))))
  (rA 2)))))))
  (.seq (rA 3)
  (.leaf)))))))

theorem s18_ok {Ψ : AVal → Heap → Prop} {t : AVal} {m_Up : AVal} {m_Val : AVal} {id_ : Int} {h : Heap} (H : s18 Ψ t m_Up m_Val id_ h) : ACalls prog 18 [t, (.agg [m_Up, m_Val]), (.int .i64 id_)] h Ψ :=
  calls_of_evF func18 (by kernel_rfl) (by kernel_rfl) (by kernel_rfl)
    (Eq.mpr (by as_aux_lemma => kernel_rfl : oblF prog f18 (s18_A Ψ) Ψ = (True ∧ True ∧ (True ∧ (True ∧ True) ∧ True) ∧ (True ∧ (True ∧ True) ∧ True) ∧ True ∧ (True ∧ (∀ (h : Heap) (x0 : Int) (x1 x2 : AVal) (x3 x4 : Int), ON (s18l1 Ψ 0 x0 x1 x2 x3 x4 h)) ∧ ∀ n1 : Nat, (∀ (h : Heap) (x0 : Int) (x1 x2 : AVal) (x3 x4 : Int), OI (s18l1 Ψ (n1 + 1) x0 x1 x2 x3 x4 h)) ∧ (True ∧ (True ∧ True) ∧ (True ∧ True ∧ True ∧ True) ∧ (∀ (h : Heap) (x0 : Int) (x1 x2 : AVal) (x3 x4 : Int), OI (s18c2 Ψ (s18l1_G (s18l1 Ψ n1)) x0 x1 x2 x3 x4 h)) ∧ (True))) ∧ True ∧ True)) ⟨trivial, ⟨trivial, ⟨⟨trivial, ⟨⟨trivial, trivial⟩, trivial⟩⟩, ⟨⟨trivial, ⟨⟨trivial, trivial⟩, trivial⟩⟩, ⟨trivial, ⟨⟨trivial, ⟨fun _ _ _ _ _ _ H => H, fun _ => ⟨fun _ _ _ _ _ _ H => H, ⟨trivial, ⟨⟨trivial, trivial⟩, ⟨⟨trivial, ⟨trivial, ⟨trivial, trivial⟩⟩⟩, fun _ _ _ _ _ _ H => H, trivial⟩⟩⟩⟩⟩⟩, ⟨trivial, trivial⟩⟩⟩⟩⟩⟩⟩)
    (Eq.mpr (by as_aux_lemma => kernel_rfl : evF prog f18 (s18_A Ψ) Ψ [t, (.agg [m_Up, m_Val]), (.int .i64 id_)] h = s18 Ψ t m_Up m_Val id_ h) H)

/- 20 dictum/dictumref26.Has -/
def s20 (Ψ : AVal → Heap → Prop) (k : Int) (w : Int) (h : Heap) : Prop :=
  rg (k - 1) (
    2 ≠ (0 : Int) ∧
    rg (Int.tdiv (k - 1) 2) (
      ifT (k == (-1)) (
        retG (.bool true) h Ψ) (
        ifT (k == 0) (
          retG (.bool false) h Ψ) (
          2 ≠ (0 : Int) ∧
          ifT ((Int.tmod k 2) == 1) (
            retG (.bool (decide (w ≤ (Int.tdiv (k - 1) 2)))) h Ψ) (
            2 ≠ (0 : Int) ∧
            rg (Int.tdiv k 2) (
              rg ((Int.tdiv k 2) - 1) (
                ifT (decide (w < ((Int.tdiv k 2) - 1))) (
                  retG (.bool true) h Ψ) (
                  2 ≠ (0 : Int) ∧
                  rg (Int.tdiv k 2) (
                    retG (.bool (w == (Int.tdiv k 2))) h Ψ)))))))))

def s20_A (Ψ : AVal → Heap → Prop) : Ann :=
  .seq (rA 1)
  (.seq (rA 4)
  (.seq (.block (.seq (rA 3)
  (.cond (.seq (rA 1)
  (.leaf))
  (.seq (rA 3)
  (.cond (.seq (rA 1)
  (.leaf))
  (.seq (rA 4)
  (.cond (.seq (rA 4)
  (.leaf))
  (.leaf))))))))
  (.seq (.reg [⟨none, [(0, false), (1, false), (2, false), (3, false), (4, false), (5, false)]⟩, ⟨some (27, false), [(6, false), (7, false), (8, false), (9, false)]⟩, ⟨none, [(10, false), (11, false)]⟩])
  (.leaf))))

theorem s20_ok {Ψ : AVal → Heap → Prop} {k : Int} {w : Int} {h : Heap} (H : s20 Ψ k w h) : ACalls prog 20 [(.int .i64 k), (.int .i64 w)] h Ψ :=
  calls_of_evF func20 (by kernel_rfl) (by kernel_rfl) (by kernel_rfl)
    (Eq.mpr (by as_aux_lemma => kernel_rfl : oblF prog f20 (s20_A Ψ) Ψ = (True ∧ True ∧ (True ∧ (True ∧ True) ∧ True ∧ (True ∧ True) ∧ True ∧ (True ∧ True) ∧ True) ∧ True ∧ True)) ⟨trivial, ⟨trivial, ⟨⟨trivial, ⟨⟨trivial, trivial⟩, ⟨trivial, ⟨⟨trivial, trivial⟩, ⟨trivial, ⟨⟨trivial, trivial⟩, trivial⟩⟩⟩⟩⟩⟩, ⟨trivial, trivial⟩⟩⟩⟩)
    (Eq.mpr (by as_aux_lemma => kernel_rfl : evF prog f20 (s20_A Ψ) Ψ [(.int .i64 k), (.int .i64 w)] h = s20 Ψ k w h) H)

/- 22 dictum/formula.New -/
def s22 (Ψ : AVal → Heap → Prop) (h : Heap) : Prop :=
  newMap h fun r h_ =>
  Sym.newRow 2 [(.agg [.nilsl, (.mapr r)])] h_ fun r1 h_1 =>
  retG (.ptr r1 0 0) h_1 Ψ

def s22_A (Ψ : AVal → Heap → Prop) : Ann :=
  .seq (rA 1)
  (.seq (rA 4)
  (.leaf))

theorem s22_ok {Ψ : AVal → Heap → Prop} {h : Heap} (H : s22 Ψ  h) : ACalls prog 22 [] h Ψ :=
  calls_of_evF func22 (by kernel_rfl) (by kernel_rfl) (by kernel_rfl)
    (Eq.mpr (by as_aux_lemma => kernel_rfl : oblF prog f22 (s22_A Ψ) Ψ = (True ∧ True ∧ True)) ⟨trivial, ⟨trivial, trivial⟩⟩)
    (Eq.mpr (by as_aux_lemma => kernel_rfl : evF prog f22 (s22_A Ψ) Ψ [] h = s22 Ψ  h) H)

/- 24 dictum/formula.Word -/
abbrev s24l1_T := ByteArray → Int → Int → Heap → Prop
def s24l1_R (F : s24l1_T) (l : List AVal) (h : Heap) : Prop := J.cons l fun v l => J.str v fun x0 => J.cons l fun v l => J.int .i64 v fun x1 => J.cons l fun v l => J.int .i64 v fun x2 => J.nil l (F x0 x1 x2 h)
def s24l1_G (F : s24l1_T) (x0 : ByteArray) (x1 x2 : Int) (h : Heap) : Prop := gJ [.str, .int .i64, .int .i64] [(.str x0), (.int .i64 x1), (.int .i64 x2)] h (s24l1_R F)
def s24l1_E (F : Nat → s24l1_T) (x0 : ByteArray) (x1 x2 : Int) (h : Heap) : Prop := gJ [.str, .int .i64, .int .i64] [(.str x0), (.int .i64 x1), (.int .i64 x2)] h (fun l h => ∃ n, s24l1_R (F n) l h)
theorem s24l1_go {F : s24l1_T} {x0 : ByteArray} {x1 x2 : Int} {h : Heap} (H : F x0 x1 x2 h) : s24l1_G F x0 x1 x2 h := gJ_plain rfl H
theorem s24l1_in {F : Nat → s24l1_T} {x0 : ByteArray} {x1 x2 : Int} {h : Heap} (n : Nat) (H : F n x0 x1 x2 h) : s24l1_E F x0 x1 x2 h := gJ_plain rfl ⟨n, H⟩

def s24c3 (Ψ : AVal → Heap → Prop) (L1 : s24l1_T) (name3 : ByteArray) (t8_2 t9_2 : Int) (t44 : Bool) (h : Heap) : Prop :=
  ifT t44 (
    retG (.bool false) h Ψ) (
    rg (t9_2 + 1) (
      L1 name3 t8_2 (t9_2 + 1) h))

def s24c2 (Ψ : AVal → Heap → Prop) (L1 : s24l1_T) (name2 : ByteArray) (i c : Int) (letter : Bool) (t8_1 t9_1 : Int) (h : Heap) : Prop :=
  ifT (!letter) (
    ifT (i == 0) (
      s24c3 Ψ L1 name2 t8_1 t9_1 true h) (
      ifT (c != 95) (
        ifT (c != 39) (
          ifT (decide (c < 48)) (
            s24c3 Ψ L1 name2 t8_1 t9_1 true h) (
            s24c3 Ψ L1 name2 t8_1 t9_1 (decide (57 < c)) h)) (
          s24c3 Ψ L1 name2 t8_1 t9_1 false h)) (
        s24c3 Ψ L1 name2 t8_1 t9_1 false h))) (
    s24c3 Ψ L1 name2 t8_1 t9_1 false h)

def s24l1 (Ψ : AVal → Heap → Prop) : Nat → s24l1_T
  | 0, _, _, _, _ => False
  | n + 1, name1, t8, t9, h =>
    ifT (decide (t9 < t8)) (
      ((0 : Int) ≤ t9 ∧ t9 < (name1.size : Int)) ∧
      ifT (decide (97 ≤ (bitsI .or .u8 (btA name1 t9) 32))) (
        s24c2 Ψ (s24l1_G (s24l1 Ψ n)) name1 t9 (btA name1 t9) (decide ((bitsI .or .u8 (btA name1 t9) 32) ≤ 122)) t8 t9 h) (
        s24c2 Ψ (s24l1_G (s24l1 Ψ n)) name1 t9 (btA name1 t9) false t8 t9 h)) (
      ifT (!strEq name1 (ByteArray.mk #[])) (
        ifT (decide ((name1.size : Int) ≤ 31)) (
          callG prog 57 [(.str name1)] h fun v h_ =>
          tBool v fun v1 =>
          retG (.bool (!v1)) h_ Ψ) (
          retG (.bool false) h Ψ)) (
        retG (.bool false) h Ψ))

def s24 (Ψ : AVal → Heap → Prop) (name : ByteArray) (h : Heap) : Prop :=
  s24l1_E (s24l1 Ψ) name (name.size : Int) 0 h

def s24_A (Ψ : AVal → Heap → Prop) : Ann :=
  .seq (rA 1)
  (.seq (.seq (rA 3)
  (.block (.loop [(0, .str), (8, .int .i64), (9, .int .i64)] (fun n l h => s24l1_R (s24l1 Ψ n) l h) (fun L1 =>
  .seq (rA 1)
  (.seq (.cond (.leaf)
  (.leaf))
  (.seq (.block (.seq (rA 2)
  (.seq (rA 4)
  (.seq (rA 3)
  (.cut [(0, .str), (3, .int .i64), (4, .int .u8), (6, .bool), (8, .int .i64), (9, .int .i64)] (fun l h => J.cons l fun v l => J.str v fun x0 => J.cons l fun v l => J.int .i64 v fun x1 => J.cons l fun v l => J.int .u8 v fun x2 => J.cons l fun v l => J.bool v fun x3 => J.cons l fun v l => J.int .i64 v fun x4 => J.cons l fun v l => J.int .i64 v fun x5 => J.nil l (s24c2 Ψ (fun y0 y1 y2 h => L1 [(.str y0), (.int .i64 y1), (.int .i64 y2)] h) x0 x1 x2 x3 x4 x5 h)) (.reg [⟨none, [(0, false), (1, false), (2, false)]⟩, ⟨some (19, true), [(3, false), (4, false)]⟩, ⟨none, [(5, false), (6, false)]⟩])
  (.cut [(0, .str), (8, .int .i64), (9, .int .i64), (44, .bool)] (fun l h => J.cons l fun v l => J.str v fun x0 => J.cons l fun v l => J.int .i64 v fun x1 => J.cons l fun v l => J.int .i64 v fun x2 => J.cons l fun v l => J.bool v fun x3 => J.nil l (s24c3 Ψ (fun y0 y1 y2 h => L1 [(.str y0), (.int .i64 y1), (.int .i64 y2)] h) x0 x1 x2 x3 h)) (.reg [⟨none, [(0, false), (1, false), (2, false)]⟩, ⟨some (25, true), [(3, false), (4, false), (5, false)]⟩, ⟨some (28, false), [(6, false), (7, false), (8, false)]⟩, ⟨some (31, true), [(9, false), (10, false)]⟩, ⟨some (28, false), [(11, false), (12, false)]⟩, ⟨some (35, true), [(13, false), (14, false), (15, false)]⟩, ⟨some (38, false), [(16, false), (17, false)]⟩, ⟨some (35, true), [(18, false)]⟩, ⟨some (28, false), [(19, false)]⟩, ⟨some (25, true), [(20, false)]⟩, ⟨none, [(21, false)]⟩])
  (.cond (.seq (rA 1)
  (.leaf))
  (.leaf))))))))
  (rA 2)))))))
  (.seq (.reg [⟨none, [(0, false), (1, false), (2, false)]⟩, ⟨some (48, true), [(3, false), (4, false), (5, false)]⟩, ⟨none, [(6, false), (7, false)]⟩, ⟨some (53, true), [(8, false), (9, false), (10, false)]⟩, ⟨none, [(11, false), (12, false)]⟩])
  (.leaf)))

theorem s24_ok {Ψ : AVal → Heap → Prop} {name : ByteArray} {h : Heap} (H : s24 Ψ name h) : ACalls prog 24 [(.str name)] h Ψ :=
  calls_of_evF func24 (by kernel_rfl) (by kernel_rfl) (by kernel_rfl)
    (Eq.mpr (by as_aux_lemma => kernel_rfl : oblF prog f24 (s24_A Ψ) Ψ = (True ∧ (True ∧ (∀ (h : Heap) (x0 : ByteArray) (x1 x2 : Int), ON (s24l1 Ψ 0 x0 x1 x2 h)) ∧ ∀ n1 : Nat, (∀ (h : Heap) (x0 : ByteArray) (x1 x2 : Int), OI (s24l1 Ψ (n1 + 1) x0 x1 x2 h)) ∧ (True ∧ (True ∧ True) ∧ (True ∧ True ∧ True ∧ (True) ∧ (∀ (h : Heap) (x0 : ByteArray) (x1 x2 : Int) (x3 : Bool) (x4 x5 : Int), OI (s24c2 Ψ (s24l1_G (s24l1 Ψ n1)) x0 x1 x2 x3 x4 x5 h)) ∧ ((True) ∧ (∀ (h : Heap) (x0 : ByteArray) (x1 x2 : Int) (x3 : Bool), OI (s24c3 Ψ (s24l1_G (s24l1 Ψ n1)) x0 x1 x2 x3 h)) ∧ ((True ∧ True) ∧ True))) ∧ True)) ∧ True ∧ True)) ⟨trivial, ⟨⟨trivial, ⟨fun _ _ _ _ H => H, fun _ => ⟨fun _ _ _ _ H => H, ⟨trivial, ⟨⟨trivial, trivial⟩, ⟨⟨trivial, ⟨trivial, ⟨trivial, ⟨trivial, fun _ _ _ _ _ _ _ H => H, ⟨trivial, fun _ _ _ _ _ H => H, ⟨⟨trivial, trivial⟩, trivial⟩⟩⟩⟩⟩⟩, trivial⟩⟩⟩⟩⟩⟩, ⟨trivial, trivial⟩⟩⟩)
    (Eq.mpr (by as_aux_lemma => kernel_rfl : evF prog f24 (s24_A Ψ) Ψ [(.str name)] h = s24 Ψ name h) H)

/- 26 dictum/nishimura.climb -/
def s26c2 (Ψ : AVal → Heap → Prop) (k2 e1 : Int) (rungs : AVal) (h : Heap) : Prop :=
  ifT (e1 != 0) (
    retG (.tuple [(.int .i64 0), (.int .i64 e1)]) h Ψ) (
    ixS 1 rungs k2 fun p1 =>
    ld1 h p1 fun v25 =>
    tInt .i64 v25 fun v26 =>
    retG (.tuple [(.int .i64 v26), (.int .i64 0)]) h Ψ)

abbrev s26l3_T := AVal → Int → Int → AVal → Heap → Prop
def s26l3_R (F : s26l3_T) (l : List AVal) (h : Heap) : Prop := J.cons l fun x0 l => J.cons l fun v l => J.int .i64 v fun x1 => J.cons l fun v l => J.int .i64 v fun x2 => J.cons l fun x3 l => J.nil l (F x0 x1 x2 x3 h)
def s26l3_G (F : s26l3_T) (x0 : AVal) (x1 x2 : Int) (x3 : AVal) (h : Heap) : Prop := gJ [.any, .int .i64, .int .i64, .any] [x0, (.int .i64 x1), (.int .i64 x2), x3] h (s26l3_R F)
def s26l3_E (F : Nat → s26l3_T) (x0 : AVal) (x1 x2 : Int) (x3 : AVal) (h : Heap) : Prop := gJ [.any, .int .i64, .int .i64, .any] [x0, (.int .i64 x1), (.int .i64 x2), x3] h (fun l h => ∃ n, s26l3_R (F n) l h)
theorem s26l3_go {F : s26l3_T} {x0 : AVal} {x1 x2 : Int} {x3 : AVal} {h : Heap} (H : F x0 x1 x2 x3 h) : s26l3_G F x0 x1 x2 x3 h := gJ_plain rfl H
theorem s26l3_in {F : Nat → s26l3_T} {x0 : AVal} {x1 x2 : Int} {x3 : AVal} {h : Heap} (n : Nat) (H : F n x0 x1 x2 x3 h) : s26l3_E F x0 x1 x2 x3 h := gJ_plain rfl ⟨n, H⟩

def s26c4 (Ψ : AVal → Heap → Prop) (L3 : s26l3_T) (t3 : AVal) (k4 e3 : Int) (rungs2 : AVal) (id_ : Int) (h : Heap) : Prop :=
  appC 1 8 h rungs2 (.lsl 1 [(.int .i64 id_)]) fun v27 h_6 =>
  L3 t3 k4 e3 v27 h_6

def s26l3 (Ψ : AVal → Heap → Prop) : Nat → s26l3_T
  | 0, _, _, _, _, _ => False
  | n + 1, t2, k3, e2, rungs1, h =>
    ifT (e2 == 0) (
      lenN rungs1 fun n1 =>
      ifT (decide (k3 < n1)) (
        s26c2 Ψ k3 e2 rungs1 h) (
        2 ≠ (0 : Int) ∧
        ifT ((Int.tmod n1 2) == 1) (
          rg (n1 - 2) (
            ixS 1 rungs1 (n1 - 2) fun p2 =>
            ld1 h p2 fun v28 =>
            tInt .i64 v28 fun v29 =>
            rg (n1 - 1) (
              ixS 1 rungs1 (n1 - 1) fun p3 =>
              ld1 h p3 fun v30 =>
              tInt .i64 v30 fun v31 =>
              callG prog 62 [t2, (.int .i64 v29), (.int .i64 v31)] h fun v32 h_7 =>
              tTup v32 fun l_15 =>
              tCons l_15 fun v33 l_16 =>
              tInt .i64 v33 fun v34 =>
              tCons l_16 fun v35 l_17 =>
              tInt .i64 v35 fun v36 =>
              tNil l_17 (
                s26c4 Ψ (s26l3_G (s26l3 Ψ n)) t2 k3 v36 rungs1 v34 h_7)))) (
          rg (n1 - 1) (
            ixS 1 rungs1 (n1 - 1) fun p4 =>
            ld1 h p4 fun v37 =>
            tInt .i64 v37 fun v38 =>
            rg (n1 - 3) (
              ixS 1 rungs1 (n1 - 3) fun p5 =>
              ld1 h p5 fun v39 =>
              tInt .i64 v39 fun v40 =>
              callG prog 59 [t2, (.int .i64 v38), (.int .i64 v40)] h fun v41 h_8 =>
              tTup v41 fun l_18 =>
              tCons l_18 fun v42 l_19 =>
              tInt .i64 v42 fun v43 =>
              tCons l_19 fun v44 l_20 =>
              tInt .i64 v44 fun v45 =>
              tNil l_20 (
                s26c4 Ψ (s26l3_G (s26l3 Ψ n)) t2 k3 v45 rungs1 v43 h_8)))))) (
      s26c2 Ψ k3 e2 rungs1 h)

def s26c1 (Ψ : AVal → Heap → Prop) (t1 : AVal) (k1 p e : Int) (t50 : Bool) (h : Heap) : Prop :=
  ifT t50 (
    retG (.tuple [(.int .i64 p), (.int .i64 e)]) h Ψ) (
    callG prog 61 [t1, (.int .i64 p)] h fun v20 h_4 =>
    tTup v20 fun l_12 =>
    tCons l_12 fun v21 l_13 =>
    tInt .i64 v21 fun v22 =>
    tCons l_13 fun v23 l_14 =>
    tInt .i64 v23 fun v24 =>
    tNil l_14 (
      Sym.newRow 1 [(.int .i64 0), (.int .i64 p), (.int .i64 v22)] h_4 fun r h_5 =>
      s26l3_E (s26l3 Ψ) t1 k1 v24 (.sl r 1 0 3) h_5))

def s26 (Ψ : AVal → Heap → Prop) (t : AVal) (atom : ByteArray) (k : Int) (h : Heap) : Prop :=
  ifT (k == (-1)) (
    callG prog 58 [t] h fun v h_ =>
    tTup v fun l_ =>
    tCons l_ fun v1 l_1 =>
    tInt .i64 v1 fun v2 =>
    tCons l_1 fun v3 l_2 =>
    tInt .i64 v3 fun v4 =>
    tNil l_2 (
      ifT (v4 != 0) (
        retG (.tuple [(.int .i64 0), (.int .i64 v4)]) h_ Ψ) (
        callG prog 59 [t, (.int .i64 v2), (.int .i64 v2)] h_ fun v5 h_1 =>
        tTup v5 fun l_3 =>
        tCons l_3 fun v6 l_4 =>
        tInt .i64 v6 fun v7 =>
        tCons l_4 fun v8 l_5 =>
        tInt .i64 v8 fun v9 =>
        tNil l_5 (
          retG (.tuple [(.int .i64 v7), (.int .i64 v9)]) h_1 Ψ)))) (
    ifT (k == 0) (
      callG prog 58 [t] h fun v10 h_2 =>
      tTup v10 fun l_6 =>
      tCons l_6 fun v11 l_7 =>
      tInt .i64 v11 fun v12 =>
      tCons l_7 fun v13 l_8 =>
      tInt .i64 v13 fun v14 =>
      tNil l_8 (
        retG (.tuple [(.int .i64 v12), (.int .i64 v14)]) h_2 Ψ)) (
      callG prog 60 [t, (.str atom)] h fun v15 h_3 =>
      tTup v15 fun l_9 =>
      tCons l_9 fun v16 l_10 =>
      tInt .i64 v16 fun v17 =>
      tCons l_10 fun v18 l_11 =>
      tInt .i64 v18 fun v19 =>
      tNil l_11 (
        ifT (k == 1) (
          s26c1 Ψ t k v17 v19 true h_3) (
          s26c1 Ψ t k v17 v19 (v19 != 0) h_3))))

def s26_A (Ψ : AVal → Heap → Prop) : Ann :=
  .seq (rA 2)
  (.block (.seq (.seq (rA 1)
  (.block (.seq (rA 2)
  (.cond (.seq (rA 7)
  (.seq (.seq (rA 2)
  (.cond (.seq (rA 3)
  (.leaf))
  (.leaf)))
  (.seq (rA 8)
  (.leaf))))
  (.seq (rA 2)
  (.cond (.seq (rA 6)
  (.leaf))
  (.leaf)))))))
  (.seq (rA 8)
  (.seq (.cut [(0, .any), (2, .int .i64), (10, .int .i64), (11, .int .i64), (50, .bool)] (fun l h => J.cons l fun x0 l => J.cons l fun v l => J.int .i64 v fun x1 => J.cons l fun v l => J.int .i64 v fun x2 => J.cons l fun v l => J.int .i64 v fun x3 => J.cons l fun v l => J.bool v fun x4 => J.nil l (s26c1 Ψ x0 x1 x2 x3 x4 h)) (.reg [⟨none, [(0, false), (1, false), (2, false)]⟩, ⟨some (47, false), [(3, false), (4, false)]⟩, ⟨none, [(5, false)]⟩])
  (.cond (.seq (rA 4)
  (.leaf))
  (.leaf)))
  (.seq (rA 8)
  (.seq (rA 4)
  (.seq (.leaf)
  (.cut [(2, .int .i64), (11, .int .i64), (13, .any)] (fun l h => J.cons l fun v l => J.int .i64 v fun x0 => J.cons l fun v l => J.int .i64 v fun x1 => J.cons l fun x2 l => J.nil l (s26c2 Ψ x0 x1 x2 h)) (.block (.loop [(0, .any), (2, .int .i64), (11, .int .i64), (13, .any)] (fun n l h => s26l3_R (s26l3 Ψ n) l h) (fun L3 =>
  .seq (.seq (rA 2)
  (.cond (.leaf)
  (.leaf)))
  (.block (.seq (rA 3)
  (.seq (.seq (rA 3)
  (.cond (.leaf)
  (.leaf)))
  (.seq (rA 1)
  (.cut [(0, .any), (2, .int .i64), (11, .int .i64), (13, .any), (15, .int .i64)] (fun l h => J.cons l fun x0 l => J.cons l fun v l => J.int .i64 v fun x1 => J.cons l fun v l => J.int .i64 v fun x2 => J.cons l fun x3 l => J.cons l fun v l => J.int .i64 v fun x4 => J.nil l (s26c4 Ψ (fun y0 y1 y2 y3 h => L3 [y0, (.int .i64 y1), (.int .i64 y2), y3] h) x0 x1 x2 x3 x4 h)) (.seq (rA 3)
  (.cond (.draw [(0, false), (1, false), (2, false), (3, false), (4, false), (5, false), (6, false), (7, false), (8, false), (9, false), (10, false), (11, false), (12, false), (13, false), (14, false), (15, false), (16, false)] [0, 0, 0, 4, 14, 30, 0, 0, 128, 448, 960, 2047, 4095, 8191, 8191, 16383, 65535])
  (.draw [(0, false), (1, false), (2, false), (3, false), (4, false), (5, false), (6, false), (7, false), (8, false), (9, false), (10, false), (11, false), (12, false), (13, false), (14, false), (15, false), (16, false)] [0, 0, 0, 4, 14, 30, 0, 0, 128, 448, 960, 2047, 4095, 8191, 8191, 16383, 65535])))
  (.reg [⟨none, [(0, false), (1, false), (2, true), (3, false), (4, false)]⟩])))))))))
  (.seq (.seq (rA 2)
  (.cond (.seq (rA 3)
  (.leaf))
  (.leaf)))
  (.seq (rA 6)
  (.leaf)))))))))))

theorem s26_ok {Ψ : AVal → Heap → Prop} {t : AVal} {atom : ByteArray} {k : Int} {h : Heap} (H : s26 Ψ t atom k h) : ACalls prog 26 [t, (.str atom), (.int .i64 k)] h Ψ :=
  calls_of_evF func26 (by kernel_rfl) (by kernel_rfl) (by kernel_rfl)
    (Eq.mpr (by as_aux_lemma => kernel_rfl : oblF prog f26 (s26_A Ψ) Ψ = (True ∧ (True ∧ True ∧ (True ∧ (True ∧ (True ∧ True) ∧ True) ∧ True ∧ True) ∧ True ∧ (True ∧ True) ∧ True) ∧ True ∧ ((True) ∧ (∀ (h : Heap) (x0 : AVal) (x1 x2 x3 : Int) (x4 : Bool), OI (s26c1 Ψ x0 x1 x2 x3 x4 h)) ∧ ((True ∧ True) ∧ True)) ∧ True ∧ True ∧ True ∧ ((∀ (h : Heap) (x0 : AVal) (x1 x2 : Int) (x3 : AVal), ON (s26l3 Ψ 0 x0 x1 x2 x3 h)) ∧ ∀ n3 : Nat, (∀ (h : Heap) (x0 : AVal) (x1 x2 : Int) (x3 : AVal), OI (s26l3 Ψ (n3 + 1) x0 x1 x2 x3 h)) ∧ ((True ∧ True ∧ True) ∧ True ∧ (True ∧ True ∧ True) ∧ True ∧ (True ∧ True ∧ True) ∧ (∀ (h : Heap) (x0 : AVal) (x1 x2 : Int) (x3 : AVal) (x4 : Int), OI (s26c4 Ψ (s26l3_G (s26l3 Ψ n3)) x0 x1 x2 x3 x4 h)) ∧ (True))) ∧ (∀ (h : Heap) (x0 x1 : Int) (x2 : AVal), OI (s26c2 Ψ x0 x1 x2 h)) ∧ ((True ∧ (True ∧ True) ∧ True) ∧ True ∧ True))) ⟨trivial, ⟨⟨trivial, ⟨trivial, ⟨⟨trivial, ⟨⟨trivial, ⟨⟨trivial, trivial⟩, trivial⟩⟩, ⟨trivial, trivial⟩⟩⟩, ⟨trivial, ⟨⟨trivial, trivial⟩, trivial⟩⟩⟩⟩⟩, ⟨trivial, ⟨⟨trivial, fun _ _ _ _ _ _ H => H, ⟨⟨trivial, trivial⟩, trivial⟩⟩, ⟨trivial, ⟨trivial, ⟨trivial, ⟨⟨fun _ _ _ _ _ H => H, fun _ => ⟨fun _ _ _ _ _ H => H, ⟨⟨trivial, ⟨trivial, trivial⟩⟩, ⟨trivial, ⟨⟨trivial, ⟨trivial, trivial⟩⟩, ⟨trivial, ⟨⟨trivial, ⟨trivial, trivial⟩⟩, fun _ _ _ _ _ _ H => H, trivial⟩⟩⟩⟩⟩⟩⟩, fun _ _ _ _ H => H, ⟨⟨trivial, ⟨⟨trivial, trivial⟩, trivial⟩⟩, ⟨trivial, trivial⟩⟩⟩⟩⟩⟩⟩⟩⟩⟩)
    (Eq.mpr (by as_aux_lemma => kernel_rfl : evF prog f26 (s26_A Ψ) Ψ [t, (.str atom), (.int .i64 k)] h = s26 Ψ t atom k h) H)

/- 28 dictum/dictumref03.Word -/
abbrev s28l2_T := ByteArray → Int → Heap → Prop
def s28l2_R (F : s28l2_T) (l : List AVal) (h : Heap) : Prop := J.cons l fun v l => J.str v fun x0 => J.cons l fun v l => J.int .i64 v fun x1 => J.nil l (F x0 x1 h)
def s28l2_G (F : s28l2_T) (x0 : ByteArray) (x1 : Int) (h : Heap) : Prop := gJ [.str, .int .i64] [(.str x0), (.int .i64 x1)] h (s28l2_R F)
def s28l2_E (F : Nat → s28l2_T) (x0 : ByteArray) (x1 : Int) (h : Heap) : Prop := gJ [.str, .int .i64] [(.str x0), (.int .i64 x1)] h (fun l h => ∃ n, s28l2_R (F n) l h)
theorem s28l2_go {F : s28l2_T} {x0 : ByteArray} {x1 : Int} {h : Heap} (H : F x0 x1 h) : s28l2_G F x0 x1 h := gJ_plain rfl H
theorem s28l2_in {F : Nat → s28l2_T} {x0 : ByteArray} {x1 : Int} {h : Heap} (n : Nat) (H : F n x0 x1 h) : s28l2_E F x0 x1 h := gJ_plain rfl ⟨n, H⟩

def s28c3 (Ψ : AVal → Heap → Prop) (L2 : s28l2_T) (s3 : ByteArray) (i1 : Int) (t55 : Bool) (h : Heap) : Prop :=
  ifT t55 (
    retG (.bool false) h Ψ) (
    rg (i1 + 1) (
      L2 s3 (i1 + 1) h))

abbrev s28l4_T := ByteArray → AVal → Int → Heap → Prop
def s28l4_R (F : s28l4_T) (l : List AVal) (h : Heap) : Prop := J.cons l fun v l => J.str v fun x0 => J.cons l fun x1 l => J.cons l fun v l => J.int .i64 v fun x2 => J.nil l (F x0 x1 x2 h)
def s28l4_G (F : s28l4_T) (x0 : ByteArray) (x1 : AVal) (x2 : Int) (h : Heap) : Prop := gJ [.str, .any, .int .i64] [(.str x0), x1, (.int .i64 x2)] h (s28l4_R F)
def s28l4_E (F : Nat → s28l4_T) (x0 : ByteArray) (x1 : AVal) (x2 : Int) (h : Heap) : Prop := gJ [.str, .any, .int .i64] [(.str x0), x1, (.int .i64 x2)] h (fun l h => ∃ n, s28l4_R (F n) l h)
theorem s28l4_go {F : s28l4_T} {x0 : ByteArray} {x1 : AVal} {x2 : Int} {h : Heap} (H : F x0 x1 x2 h) : s28l4_G F x0 x1 x2 h := gJ_plain rfl H
theorem s28l4_in {F : Nat → s28l4_T} {x0 : ByteArray} {x1 : AVal} {x2 : Int} {h : Heap} (n : Nat) (H : F n x0 x1 x2 h) : s28l4_E F x0 x1 x2 h := gJ_plain rfl ⟨n, H⟩

def s28l4 (Ψ : AVal → Heap → Prop) : Nat → s28l4_T
  | 0, _, _, _, _ => False
  | n1 + 1, s4, l_, i2, h =>
    lenN l_ fun n2 =>
    ifT (decide (i2 < n2)) (
      ixS 1 l_ i2 fun p =>
      ld1 h p fun v3 =>
      tStr v3 fun v4 =>
      ifT (strEq v4 s4) (
        retG (.bool false) h Ψ) (
        rg (i2 + 1) (
          s28l4_G (s28l4 Ψ n1) s4 l_ (i2 + 1) h))) (
      retG (.bool true) h Ψ)

def s28l2 (Ψ : AVal → Heap → Prop) : Nat → s28l2_T
  | 0, _, _, _ => False
  | n + 1, s2, i, h =>
    ifT (decide (i < (s2.size : Int))) (
      ((0 : Int) ≤ i ∧ i < (s2.size : Int)) ∧
      callG prog 63 [(.int .u8 (btA s2 i))] h fun v h_ =>
      tBool v fun v1 =>
      ifT (!v1) (
        ((0 : Int) ≤ i ∧ i < (s2.size : Int)) ∧
        ifT (decide (48 ≤ (btA s2 i))) (
          ((0 : Int) ≤ i ∧ i < (s2.size : Int)) ∧
          ifT (!(decide ((btA s2 i) ≤ 57))) (
            ((0 : Int) ≤ i ∧ i < (s2.size : Int)) ∧
            ifT ((btA s2 i) != 95) (
              ((0 : Int) ≤ i ∧ i < (s2.size : Int)) ∧
              s28c3 Ψ (s28l2_G (s28l2 Ψ n)) s2 i ((btA s2 i) != 39) h_) (
              s28c3 Ψ (s28l2_G (s28l2 Ψ n)) s2 i false h_)) (
            s28c3 Ψ (s28l2_G (s28l2 Ψ n)) s2 i false h_)) (
          ((0 : Int) ≤ i ∧ i < (s2.size : Int)) ∧
          ifT ((btA s2 i) != 95) (
            ((0 : Int) ≤ i ∧ i < (s2.size : Int)) ∧
            s28c3 Ψ (s28l2_G (s28l2 Ψ n)) s2 i ((btA s2 i) != 39) h_) (
            s28c3 Ψ (s28l2_G (s28l2 Ψ n)) s2 i false h_))) (
        s28c3 Ψ (s28l2_G (s28l2 Ψ n)) s2 i false h_)) (
      callG prog 64 [] h fun v2 h_1 =>
      s28l4_E (s28l4 Ψ) s2 v2 0 h_1)

def s28c1 (Ψ : AVal → Heap → Prop) (s1 : ByteArray) (t19 : Bool) (h : Heap) : Prop :=
  ifT t19 (
    retG (.bool false) h Ψ) (
    s28l2_E (s28l2 Ψ) s1 1 h)

def s28 (Ψ : AVal → Heap → Prop) (s : ByteArray) (h : Heap) : Prop :=
  ifT (decide ((s.size : Int) < 1)) (
    s28c1 Ψ s true h) (
    ifT (decide (31 < (s.size : Int))) (
      s28c1 Ψ s true h) (
      ((0 : Int) ≤ 0 ∧ 0 < (s.size : Int)) ∧
      callG prog 63 [(.int .u8 (btA s 0))] h fun v5 h_2 =>
      tBool v5 fun v6 =>
      s28c1 Ψ s (!v6) h_2))

def s28_A (Ψ : AVal → Heap → Prop) : Ann :=
  .seq (rA 1)
  (.seq (.cut [(0, .str), (19, .bool)] (fun l h => J.cons l fun v l => J.str v fun x0 => J.cons l fun v l => J.bool v fun x1 => J.nil l (s28c1 Ψ x0 x1 h)) (.reg [⟨none, [(0, false), (1, false), (2, false), (3, false)]⟩, ⟨some (9, false), [(4, false), (5, false), (6, false)]⟩, ⟨none, [(7, false), (8, false)]⟩, ⟨some (14, false), [(9, false), (10, false), (11, false), (12, false)]⟩, ⟨none, [(13, false)]⟩])
  (.cond (.seq (rA 1)
  (.leaf))
  (.leaf)))
  (.seq (.seq (rA 1)
  (.block (.loop [(0, .str), (3, .int .i64)] (fun n l h => s28l2_R (s28l2 Ψ n) l h) (fun L2 =>
  .seq (.seq (rA 4)
  (.cond (.leaf)
  (.leaf)))
  (.seq (.block (.cut [(0, .str), (3, .int .i64), (55, .bool)] (fun l h => J.cons l fun v l => J.str v fun x0 => J.cons l fun v l => J.int .i64 v fun x1 => J.cons l fun v l => J.bool v fun x2 => J.nil l (s28c3 Ψ (fun y0 y1 h => L2 [(.str y0), (.int .i64 y1)] h) x0 x1 x2 h)) (.reg [⟨none, [(0, false), (1, false), (2, false), (3, false), (4, false), (5, false)]⟩, ⟨some (31, true), [(6, false), (7, false), (8, false), (9, false), (10, false)]⟩, ⟨some (36, true), [(11, false), (12, false), (13, false), (14, false)]⟩, ⟨some (31, true), [(15, false), (16, false)]⟩, ⟨none, [(17, false), (18, false)]⟩, ⟨some (44, true), [(19, false), (20, false), (21, false), (22, false)]⟩, ⟨none, [(23, false), (24, false)]⟩, ⟨some (50, true), [(25, false), (26, false), (27, false), (28, false)]⟩, ⟨none, [(29, false)]⟩])
  (.cond (.seq (rA 1)
  (.leaf))
  (.leaf))))
  (rA 3))))))
  (.seq (rA 2)
  (.seq (.seq (rA 1)
  (.block (.loop [(0, .str), (4, .any), (5, .int .i64)] (fun n l h => s28l4_R (s28l4 Ψ n) l h) (fun L4 =>
  .seq (.seq (rA 4)
  (.cond (.leaf)
  (.leaf)))
  (.seq (.block (.seq (rA 6)
  (.cond (.seq (rA 1)
  (.leaf))
  (.leaf))))
  (rA 3))))))
  (.seq (rA 1)
  (.leaf))))))

theorem s28_ok {Ψ : AVal → Heap → Prop} {s : ByteArray} {h : Heap} (H : s28 Ψ s h) : ACalls prog 28 [(.str s)] h Ψ :=
  calls_of_evF func28 (by kernel_rfl) (by kernel_rfl) (by kernel_rfl)
    (Eq.mpr (by as_aux_lemma => kernel_rfl : oblF prog f28 (s28_A Ψ) Ψ = (True ∧ ((True) ∧ (∀ (h : Heap) (x0 : ByteArray) (x1 : Bool), OI (s28c1 Ψ x0 x1 h)) ∧ ((True ∧ True) ∧ True)) ∧ (True ∧ (∀ (h : Heap) (x0 : ByteArray) (x1 : Int), ON (s28l2 Ψ 0 x0 x1 h)) ∧ ∀ n2 : Nat, (∀ (h : Heap) (x0 : ByteArray) (x1 : Int), OI (s28l2 Ψ (n2 + 1) x0 x1 h)) ∧ ((True ∧ True ∧ True) ∧ ((True) ∧ (∀ (h : Heap) (x0 : ByteArray) (x1 : Int) (x2 : Bool), OI (s28c3 Ψ (s28l2_G (s28l2 Ψ n2)) x0 x1 x2 h)) ∧ ((True ∧ True) ∧ True)) ∧ True)) ∧ True ∧ (True ∧ (∀ (h : Heap) (x0 : ByteArray) (x1 : AVal) (x2 : Int), ON (s28l4 Ψ 0 x0 x1 x2 h)) ∧ ∀ n4 : Nat, (∀ (h : Heap) (x0 : ByteArray) (x1 : AVal) (x2 : Int), OI (s28l4 Ψ (n4 + 1) x0 x1 x2 h)) ∧ ((True ∧ True ∧ True) ∧ (True ∧ (True ∧ True) ∧ True) ∧ True)) ∧ True ∧ True)) ⟨trivial, ⟨⟨trivial, fun _ _ _ H => H, ⟨⟨trivial, trivial⟩, trivial⟩⟩, ⟨⟨trivial, ⟨fun _ _ _ H => H, fun _ => ⟨fun _ _ _ H => H, ⟨⟨trivial, ⟨trivial, trivial⟩⟩, ⟨⟨trivial, fun _ _ _ _ H => H, ⟨⟨trivial, trivial⟩, trivial⟩⟩, trivial⟩⟩⟩⟩⟩, ⟨trivial, ⟨⟨trivial, ⟨fun _ _ _ _ H => H, fun _ => ⟨fun _ _ _ _ H => H, ⟨⟨trivial, ⟨trivial, trivial⟩⟩, ⟨⟨trivial, ⟨⟨trivial, trivial⟩, trivial⟩⟩, trivial⟩⟩⟩⟩⟩, ⟨trivial, trivial⟩⟩⟩⟩⟩⟩)
    (Eq.mpr (by as_aux_lemma => kernel_rfl : evF prog f28 (s28_A Ψ) Ψ [(.str s)] h = s28 Ψ s h) H)

/- 30 dictum/dictumref26.rung -/
abbrev s30l3_T := AVal → Int → Int → Int → Int → Heap → Prop
def s30l3_R (F : s30l3_T) (l : List AVal) (h : Heap) : Prop := J.cons l fun x0 l => J.cons l fun v l => J.int .i64 v fun x1 => J.cons l fun v l => J.int .i64 v fun x2 => J.cons l fun v l => J.int .i64 v fun x3 => J.cons l fun v l => J.int .i64 v fun x4 => J.nil l (F x0 x1 x2 x3 x4 h)
def s30l3_G (F : s30l3_T) (x0 : AVal) (x1 x2 x3 x4 : Int) (h : Heap) : Prop := gJ [.any, .int .i64, .int .i64, .int .i64, .int .i64] [x0, (.int .i64 x1), (.int .i64 x2), (.int .i64 x3), (.int .i64 x4)] h (s30l3_R F)
def s30l3_E (F : Nat → s30l3_T) (x0 : AVal) (x1 x2 x3 x4 : Int) (h : Heap) : Prop := gJ [.any, .int .i64, .int .i64, .int .i64, .int .i64] [x0, (.int .i64 x1), (.int .i64 x2), (.int .i64 x3), (.int .i64 x4)] h (fun l h => ∃ n, s30l3_R (F n) l h)
theorem s30l3_go {F : s30l3_T} {x0 : AVal} {x1 x2 x3 x4 : Int} {h : Heap} (H : F x0 x1 x2 x3 x4 h) : s30l3_G F x0 x1 x2 x3 x4 h := gJ_plain rfl H
theorem s30l3_in {F : Nat → s30l3_T} {x0 : AVal} {x1 x2 x3 x4 : Int} {h : Heap} (n : Nat) (H : F n x0 x1 x2 x3 x4 h) : s30l3_E F x0 x1 x2 x3 x4 h := gJ_plain rfl ⟨n, H⟩

def s30c5 (Ψ : AVal → Heap → Prop) (L3 : s30l3_T) (t5 : AVal) (k5 e3 odd2 even2 i2 x1 : Int) (t100 : Bool) (h : Heap) : Prop :=
  ifT t100 (
    retG (.tuple [(.int .i64 x1), (.int .i64 e3)]) h Ψ) (
    rg (i2 + 1) (
      L3 t5 k5 odd2 even2 (i2 + 1) h))

def s30c4 (Ψ : AVal → Heap → Prop) (L3 : s30l3_T) (t4 : AVal) (k4 e2 odd1 even1 i1 x : Int) (h : Heap) : Prop :=
  ifT (e2 != 0) (
    s30c5 Ψ L3 t4 k4 e2 odd1 even1 i1 x true h) (
    s30c5 Ψ L3 t4 k4 e2 odd1 even1 i1 x (i1 == k4) h)

def s30l3 (Ψ : AVal → Heap → Prop) : Nat → s30l3_T
  | 0, _, _, _, _, _, _ => False
  | n + 1, t3, k3, odd, even, i, h =>
    ifT (decide (i ≤ k3)) (
      2 ≠ (0 : Int) ∧
      ifT ((Int.tmod i 2) == 1) (
        callG prog 69 [t3, (.int .i64 4), (.int .i64 odd), (.int .i64 even)] h fun v25 h_5 =>
        tTup v25 fun l_15 =>
        tCons l_15 fun v26 l_16 =>
        tInt .i64 v26 fun v27 =>
        tCons l_16 fun v28 l_17 =>
        tInt .i64 v28 fun v29 =>
        tNil l_17 (
          s30c4 Ψ (s30l3_G (s30l3 Ψ n)) t3 k3 v29 v27 odd i v27 h_5)) (
        callG prog 66 [t3, (.int .i64 odd), (.int .i64 even)] h fun v30 h_6 =>
        tTup v30 fun l_18 =>
        tCons l_18 fun v31 l_19 =>
        tInt .i64 v31 fun v32 =>
        tCons l_19 fun v33 l_20 =>
        tInt .i64 v33 fun v34 =>
        tNil l_20 (
          s30c4 Ψ (s30l3_G (s30l3 Ψ n)) t3 k3 v34 odd v32 i v32 h_6))) (
      retG (.tuple [(.int .i64 0), (.int .i64 0)]) h Ψ)

def s30c2 (Ψ : AVal → Heap → Prop) (t2 : AVal) (k2 p1 e1 q : Int) (t64 : Bool) (h : Heap) : Prop :=
  ifT t64 (
    retG (.tuple [(.int .i64 q), (.int .i64 e1)]) h Ψ) (
    s30l3_E (s30l3 Ψ) t2 k2 p1 q 3 h)

def s30c1 (Ψ : AVal → Heap → Prop) (t1 : AVal) (k1 p e : Int) (t50 : Bool) (h : Heap) : Prop :=
  ifT t50 (
    retG (.tuple [(.int .i64 p), (.int .i64 e)]) h Ψ) (
    callG prog 68 [t1, (.int .i64 p)] h fun v20 h_4 =>
    tTup v20 fun l_12 =>
    tCons l_12 fun v21 l_13 =>
    tInt .i64 v21 fun v22 =>
    tCons l_13 fun v23 l_14 =>
    tInt .i64 v23 fun v24 =>
    tNil l_14 (
      ifT (v24 != 0) (
        s30c2 Ψ t1 k1 p v24 v22 true h_4) (
        s30c2 Ψ t1 k1 p v24 v22 (k1 == 2) h_4)))

def s30 (Ψ : AVal → Heap → Prop) (t : AVal) (atom : ByteArray) (k : Int) (h : Heap) : Prop :=
  ifT (k == 0) (
    callG prog 65 [t] h fun v h_ =>
    tTup v fun l_ =>
    tCons l_ fun v1 l_1 =>
    tInt .i64 v1 fun v2 =>
    tCons l_1 fun v3 l_2 =>
    tInt .i64 v3 fun v4 =>
    tNil l_2 (
      retG (.tuple [(.int .i64 v2), (.int .i64 v4)]) h_ Ψ)) (
    ifT (k == (-1)) (
      callG prog 65 [t] h fun v5 h_1 =>
      tTup v5 fun l_3 =>
      tCons l_3 fun v6 l_4 =>
      tInt .i64 v6 fun v7 =>
      tCons l_4 fun v8 l_5 =>
      tInt .i64 v8 fun v9 =>
      tNil l_5 (
        ifT (v9 != 0) (
          retG (.tuple [(.int .i64 0), (.int .i64 v9)]) h_1 Ψ) (
          callG prog 66 [t, (.int .i64 v7), (.int .i64 v7)] h_1 fun v10 h_2 =>
          tTup v10 fun l_6 =>
          tCons l_6 fun v11 l_7 =>
          tInt .i64 v11 fun v12 =>
          tCons l_7 fun v13 l_8 =>
          tInt .i64 v13 fun v14 =>
          tNil l_8 (
            retG (.tuple [(.int .i64 v12), (.int .i64 v14)]) h_2 Ψ)))) (
      callG prog 67 [t, (.str atom)] h fun v15 h_3 =>
      tTup v15 fun l_9 =>
      tCons l_9 fun v16 l_10 =>
      tInt .i64 v16 fun v17 =>
      tCons l_10 fun v18 l_11 =>
      tInt .i64 v18 fun v19 =>
      tNil l_11 (
        ifT (v19 != 0) (
          s30c1 Ψ t k v17 v19 true h_3) (
          s30c1 Ψ t k v17 v19 (k == 1) h_3))))

def s30_A (Ψ : AVal → Heap → Prop) : Ann :=
  .seq (rA 2)
  (.seq (.seq (rA 2)
  (.cond (.seq (rA 6)
  (.leaf))
  (.leaf)))
  (.seq (.seq (rA 2)
  (.cond (.seq (rA 7)
  (.seq (.seq (rA 2)
  (.cond (.seq (rA 3)
  (.leaf))
  (.leaf)))
  (.seq (rA 8)
  (.leaf))))
  (.leaf)))
  (.seq (rA 8)
  (.seq (.cut [(0, .any), (2, .int .i64), (10, .int .i64), (11, .int .i64), (50, .bool)] (fun l h => J.cons l fun x0 l => J.cons l fun v l => J.int .i64 v fun x1 => J.cons l fun v l => J.int .i64 v fun x2 => J.cons l fun v l => J.int .i64 v fun x3 => J.cons l fun v l => J.bool v fun x4 => J.nil l (s30c1 Ψ x0 x1 x2 x3 x4 h)) (.reg [⟨none, [(0, false), (1, false), (2, false)]⟩, ⟨some (47, false), [(3, false), (4, false)]⟩, ⟨none, [(5, false)]⟩])
  (.cond (.seq (rA 4)
  (.leaf))
  (.leaf)))
  (.seq (rA 8)
  (.seq (.cut [(0, .any), (2, .int .i64), (10, .int .i64), (11, .int .i64), (12, .int .i64), (64, .bool)] (fun l h => J.cons l fun x0 l => J.cons l fun v l => J.int .i64 v fun x1 => J.cons l fun v l => J.int .i64 v fun x2 => J.cons l fun v l => J.int .i64 v fun x3 => J.cons l fun v l => J.int .i64 v fun x4 => J.cons l fun v l => J.bool v fun x5 => J.nil l (s30c2 Ψ x0 x1 x2 x3 x4 x5 h)) (.reg [⟨none, [(0, false), (1, false), (2, false)]⟩, ⟨some (61, false), [(3, false), (4, false)]⟩, ⟨none, [(5, false)]⟩])
  (.cond (.seq (rA 4)
  (.leaf))
  (.leaf)))
  (.seq (rA 4)
  (.seq (.seq (rA 1)
  (.block (.loop [(0, .any), (2, .int .i64), (13, .int .i64), (14, .int .i64), (15, .int .i64)] (fun n l h => s30l3_R (s30l3 Ψ n) l h) (fun L3 =>
  .seq (.seq (rA 3)
  (.cond (.leaf)
  (.leaf)))
  (.seq (.block (.seq (rA 1)
  (.cut [(0, .any), (2, .int .i64), (11, .int .i64), (13, .int .i64), (14, .int .i64), (15, .int .i64), (16, .int .i64)] (fun l h => J.cons l fun x0 l => J.cons l fun v l => J.int .i64 v fun x1 => J.cons l fun v l => J.int .i64 v fun x2 => J.cons l fun v l => J.int .i64 v fun x3 => J.cons l fun v l => J.int .i64 v fun x4 => J.cons l fun v l => J.int .i64 v fun x5 => J.cons l fun v l => J.int .i64 v fun x6 => J.nil l (s30c4 Ψ (fun y0 y1 y2 y3 y4 h => L3 [y0, (.int .i64 y1), (.int .i64 y2), (.int .i64 y3), (.int .i64 y4)] h) x0 x1 x2 x3 x4 x5 x6 h)) (.seq (rA 3)
  (.cond (.seq (rA 9)
  (.seq (rA 2)
  (rA 2)))
  (.seq (rA 9)
  (rA 2))))
  (.cut [(0, .any), (2, .int .i64), (11, .int .i64), (13, .int .i64), (14, .int .i64), (15, .int .i64), (16, .int .i64), (100, .bool)] (fun l h => J.cons l fun x0 l => J.cons l fun v l => J.int .i64 v fun x1 => J.cons l fun v l => J.int .i64 v fun x2 => J.cons l fun v l => J.int .i64 v fun x3 => J.cons l fun v l => J.int .i64 v fun x4 => J.cons l fun v l => J.int .i64 v fun x5 => J.cons l fun v l => J.int .i64 v fun x6 => J.cons l fun v l => J.bool v fun x7 => J.nil l (s30c5 Ψ (fun y0 y1 y2 y3 y4 h => L3 [y0, (.int .i64 y1), (.int .i64 y2), (.int .i64 y3), (.int .i64 y4)] h) x0 x1 x2 x3 x4 x5 x6 x7 h)) (.reg [⟨none, [(0, false), (1, false), (2, false)]⟩, ⟨some (96, false), [(3, false), (4, false), (5, false)]⟩, ⟨none, [(6, false)]⟩])
  (.cond (.seq (rA 4)
  (.leaf))
  (.leaf))))))
  (rA 3))))))
  (.seq (rA 2)
  (.leaf))))))))))

theorem s30_ok {Ψ : AVal → Heap → Prop} {t : AVal} {atom : ByteArray} {k : Int} {h : Heap} (H : s30 Ψ t atom k h) : ACalls prog 30 [t, (.str atom), (.int .i64 k)] h Ψ :=
  calls_of_evF func30 (by kernel_rfl) (by kernel_rfl) (by kernel_rfl)
    (Eq.mpr (by as_aux_lemma => kernel_rfl : oblF prog f30 (s30_A Ψ) Ψ = (True ∧ (True ∧ (True ∧ True) ∧ True) ∧ (True ∧ (True ∧ (True ∧ (True ∧ True) ∧ True) ∧ True ∧ True) ∧ True) ∧ True ∧ ((True) ∧ (∀ (h : Heap) (x0 : AVal) (x1 x2 x3 : Int) (x4 : Bool), OI (s30c1 Ψ x0 x1 x2 x3 x4 h)) ∧ ((True ∧ True) ∧ True)) ∧ True ∧ ((True) ∧ (∀ (h : Heap) (x0 : AVal) (x1 x2 x3 x4 : Int) (x5 : Bool), OI (s30c2 Ψ x0 x1 x2 x3 x4 x5 h)) ∧ ((True ∧ True) ∧ True)) ∧ True ∧ (True ∧ (∀ (h : Heap) (x0 : AVal) (x1 x2 x3 x4 : Int), ON (s30l3 Ψ 0 x0 x1 x2 x3 x4 h)) ∧ ∀ n3 : Nat, (∀ (h : Heap) (x0 : AVal) (x1 x2 x3 x4 : Int), OI (s30l3 Ψ (n3 + 1) x0 x1 x2 x3 x4 h)) ∧ ((True ∧ True ∧ True) ∧ (True ∧ (True ∧ (True ∧ True ∧ True) ∧ True ∧ True) ∧ (∀ (h : Heap) (x0 : AVal) (x1 x2 x3 x4 x5 x6 : Int), OI (s30c4 Ψ (s30l3_G (s30l3 Ψ n3)) x0 x1 x2 x3 x4 x5 x6 h)) ∧ ((True) ∧ (∀ (h : Heap) (x0 : AVal) (x1 x2 x3 x4 x5 x6 : Int) (x7 : Bool), OI (s30c5 Ψ (s30l3_G (s30l3 Ψ n3)) x0 x1 x2 x3 x4 x5 x6 x7 h)) ∧ ((True ∧ True) ∧ True))) ∧ True)) ∧ True ∧ True)) ⟨trivial, ⟨⟨trivial, ⟨⟨trivial, trivial⟩, trivial⟩⟩, ⟨⟨trivial, ⟨⟨trivial, ⟨⟨trivial, ⟨⟨trivial, trivial⟩, trivial⟩⟩, ⟨trivial, trivial⟩⟩⟩, trivial⟩⟩, ⟨trivial, ⟨⟨trivial, fun _ _ _ _ _ _ H => H, ⟨⟨trivial, trivial⟩, trivial⟩⟩, ⟨trivial, ⟨⟨trivial, fun _ _ _ _ _ _ _ H => H, ⟨⟨trivial, trivial⟩, trivial⟩⟩, ⟨trivial, ⟨⟨trivial, ⟨fun _ _ _ _ _ _ H => H, fun _ => ⟨fun _ _ _ _ _ _ H => H, ⟨⟨trivial, ⟨trivial, trivial⟩⟩, ⟨⟨trivial, ⟨⟨trivial, ⟨⟨trivial, ⟨trivial, trivial⟩⟩, ⟨trivial, trivial⟩⟩⟩, fun _ _ _ _ _ _ _ _ H => H, ⟨trivial, fun _ _ _ _ _ _ _ _ _ H => H, ⟨⟨trivial, trivial⟩, trivial⟩⟩⟩⟩, trivial⟩⟩⟩⟩⟩, ⟨trivial, trivial⟩⟩⟩⟩⟩⟩⟩⟩⟩⟩)
    (Eq.mpr (by as_aux_lemma => kernel_rfl : evF prog f30 (s30_A Ψ) Ψ [t, (.str atom), (.int .i64 k)] h = s30 Ψ t atom k h) H)

/- 32 dictum/dictumlaw03.Like -/
def s32 (Ψ : AVal → Heap → Prop) (t : AVal) (r : AVal) (h : Heap) : Prop :=
  nilCheckA r fun p =>
  addOff p 0 fun p1 =>
  ld1 h p1 fun v =>
  callG prog 71 [t] h fun v1 h_ =>
  (ld1 h_ p1 fun v2 =>
  v2 = v) ∧
  callG prog 70 [v1, v] h_ fun v3 h_1 =>
  tBool v3 fun v4 =>
  ifT v4 (
    nilCheckA r fun p2 =>
    addOff p2 0 fun p3 =>
    ld1 h_1 p3 fun v5 =>
    lenN v5 fun n =>
    callG prog 25 [t] h_1 fun v6 h_2 =>
    tInt .i64 v6 fun v7 =>
    (ld1 h_2 p3 fun v8 =>
    v8 = v5) ∧
    retG (.bool (v7 == n)) h_2 Ψ) (
    retG (.bool false) h_1 Ψ)

def s32_A (Ψ : AVal → Heap → Prop) : Ann :=
  .seq (rA 1)
  (.seq (.draw [(0, false), (2, false), (3, false), (4, false), (5, false), (1, false), (6, false), (7, false), (8, false), (10, false), (11, false), (12, false), (13, false), (14, false), (9, false), (15, false), (16, false), (17, false)] [0, 1, 0, 4, 12, 28, 63, 127, 255, 511, 255, 1279, 3327, 7423, 15615, 32767, 65535, 131071])
  (.leaf))

theorem s32_ok {Ψ : AVal → Heap → Prop} {t : AVal} {r : AVal} {h : Heap} (H : s32 Ψ t r h) : ACalls prog 32 [t, r] h Ψ :=
  calls_of_evF func32 (by kernel_rfl) (by kernel_rfl) (by kernel_rfl)
    (Eq.mpr (by as_aux_lemma => kernel_rfl : oblF prog f32 (s32_A Ψ) Ψ = (True ∧ True ∧ True)) ⟨trivial, ⟨trivial, trivial⟩⟩)
    (Eq.mpr (by as_aux_lemma => kernel_rfl : evF prog f32 (s32_A Ψ) Ψ [t, r] h = s32 Ψ t r h) H)

/- 34 dictum/nishimura.Join -/
def s34 (Ψ : AVal → Heap → Prop) (a : Int) (b : Int) (h : Heap) : Prop :=
  callG prog 72 [(.int .i64 a), (.int .i64 b), (.func (.func 42) [] [])] h fun v h_ =>
  tTup v fun l_ =>
  tCons l_ fun v1 l_1 =>
  tInt .i64 v1 fun v2 =>
  tCons l_1 fun v3 l_2 =>
  tInt .i64 v3 fun v4 =>
  tNil l_2 (
    retG (.tuple [(.int .i64 v2), (.int .i64 v4)]) h_ Ψ)

def s34_A (Ψ : AVal → Heap → Prop) : Ann :=
  .seq (rA 2)
  (.seq (rA 7)
  (.leaf))

theorem s34_ok {Ψ : AVal → Heap → Prop} {a : Int} {b : Int} {h : Heap} (H : s34 Ψ a b h) : ACalls prog 34 [(.int .i64 a), (.int .i64 b)] h Ψ :=
  calls_of_evF func34 (by kernel_rfl) (by kernel_rfl) (by kernel_rfl)
    (Eq.mpr (by as_aux_lemma => kernel_rfl : oblF prog f34 (s34_A Ψ) Ψ = (True ∧ True ∧ True)) ⟨trivial, ⟨trivial, trivial⟩⟩)
    (Eq.mpr (by as_aux_lemma => kernel_rfl : evF prog f34 (s34_A Ψ) Ψ [(.int .i64 a), (.int .i64 b)] h = s34 Ψ a b h) H)

/- 36 dictum/nishimura.Below -/
def s36c1 (Ψ : AVal → Heap → Prop) (x y : AVal) (t25 : Bool) (h : Heap) : Prop :=
  ifT t25 (
    retG (.tuple [(.bool false), (.int .i64 2)]) h Ψ) (
    ldN 3 h x fun l_14 =>
    tCons l_14 fun v20 l_15 =>
    tBool v20 fun v21 =>
    tCons l_15 fun v22 l_16 =>
    tInt .i64 v22 fun v23 =>
    tCons l_16 fun v24 l_17 =>
    tBool v24 fun v25 =>
    tNil l_17 (
      ldN 3 h y fun l_18 =>
      tCons l_18 fun v26 l_19 =>
      tBool v26 fun v27 =>
      tCons l_19 fun v28 l_20 =>
      tInt .i64 v28 fun v29 =>
      tCons l_20 fun v30 l_21 =>
      tBool v30 fun v31 =>
      tNil l_21 (
        callG prog 74 [(.agg [(.bool v21), (.int .i64 v23), (.bool v25)]), (.agg [(.bool v27), (.int .i64 v29), (.bool v31)])] h fun v32 h_6 =>
        tBool v32 fun v33 =>
        retG (.tuple [(.bool v33), (.int .i64 0)]) h_6 Ψ)))

def s36 (Ψ : AVal → Heap → Prop) (a : Int) (b : Int) (h : Heap) : Prop :=
  callG prog 73 [(.int .i64 a)] h fun v h_ =>
  tTup v fun l_ =>
  tCons l_ fun v1 l_1 =>
  tCons l_1 fun v2 l_2 =>
  tBool v2 fun v3 =>
  tNil l_2 (
    tAgg v1 fun l_3 =>
    tCons l_3 fun v4 l_4 =>
    tBool v4 fun v5 =>
    tCons l_4 fun v6 l_5 =>
    tInt .i64 v6 fun v7 =>
    tCons l_5 fun v8 l_6 =>
    tBool v8 fun v9 =>
    tNil l_6 (
      Sym.newRow 3 [(.agg [(.bool false), (.int .i64 0), (.bool false)])] h_ fun r h_1 =>
      st false h_1 (.ptr r 0 0) [(.bool v5), (.int .i64 v7), (.bool v9)] fun h_2 =>
      callG prog 73 [(.int .i64 b)] h_2 fun v10 h_3 =>
      tTup v10 fun l_7 =>
      tCons l_7 fun v11 l_8 =>
      tCons l_8 fun v12 l_9 =>
      tBool v12 fun v13 =>
      tNil l_9 (
        tAgg v11 fun l_10 =>
        tCons l_10 fun v14 l_11 =>
        tBool v14 fun v15 =>
        tCons l_11 fun v16 l_12 =>
        tInt .i64 v16 fun v17 =>
        tCons l_12 fun v18 l_13 =>
        tBool v18 fun v19 =>
        tNil l_13 (
          Sym.newRow 3 [(.agg [(.bool false), (.int .i64 0), (.bool false)])] h_3 fun r1 h_4 =>
          st false h_4 (.ptr r1 0 0) [(.bool v15), (.int .i64 v17), (.bool v19)] fun h_5 =>
          ifT (!v3) (
            s36c1 Ψ (.ptr r 0 0) (.ptr r1 0 0) true h_5) (
            s36c1 Ψ (.ptr r 0 0) (.ptr r1 0 0) (!v13) h_5)))))

def s36_A (Ψ : AVal → Heap → Prop) : Ann :=
  .seq (rA 2)
  (.seq (rA 8)
  (.seq (rA 8)
  (.seq (.cut [(6, .any), (8, .any), (25, .bool)] (fun l h => J.cons l fun x0 l => J.cons l fun x1 l => J.cons l fun v l => J.bool v fun x2 => J.nil l (s36c1 Ψ x0 x1 x2 h)) (.reg [⟨none, [(0, false), (1, false), (2, false)]⟩, ⟨some (22, false), [(3, false), (4, false)]⟩, ⟨none, [(5, false)]⟩])
  (.cond (.seq (rA 2)
  (.leaf))
  (.leaf)))
  (.seq (rA 5)
  (.leaf)))))

theorem s36_ok {Ψ : AVal → Heap → Prop} {a : Int} {b : Int} {h : Heap} (H : s36 Ψ a b h) : ACalls prog 36 [(.int .i64 a), (.int .i64 b)] h Ψ :=
  calls_of_evF func36 (by kernel_rfl) (by kernel_rfl) (by kernel_rfl)
    (Eq.mpr (by as_aux_lemma => kernel_rfl : oblF prog f36 (s36_A Ψ) Ψ = (True ∧ True ∧ True ∧ ((True) ∧ (∀ (h : Heap) (x0 x1 : AVal) (x2 : Bool), OI (s36c1 Ψ x0 x1 x2 h)) ∧ ((True ∧ True) ∧ True)) ∧ True ∧ True)) ⟨trivial, ⟨trivial, ⟨trivial, ⟨⟨trivial, fun _ _ _ _ H => H, ⟨⟨trivial, trivial⟩, trivial⟩⟩, ⟨trivial, trivial⟩⟩⟩⟩⟩)
    (Eq.mpr (by as_aux_lemma => kernel_rfl : evF prog f36 (s36_A Ψ) Ψ [(.int .i64 a), (.int .i64 b)] h = s36 Ψ a b h) H)

/- 38 dictum/dictumref17.Same -/
abbrev s38l2_T := AVal → AVal → Int → Heap → Prop
def s38l2_R (F : s38l2_T) (l : List AVal) (h : Heap) : Prop := J.cons l fun x0 l => J.cons l fun x1 l => J.cons l fun v l => J.int .i64 v fun x2 => J.nil l (F x0 x1 x2 h)
def s38l2_G (F : s38l2_T) (x0 x1 : AVal) (x2 : Int) (h : Heap) : Prop := gJ [.any, .any, .int .i64] [x0, x1, (.int .i64 x2)] h (s38l2_R F)
def s38l2_E (F : Nat → s38l2_T) (x0 x1 : AVal) (x2 : Int) (h : Heap) : Prop := gJ [.any, .any, .int .i64] [x0, x1, (.int .i64 x2)] h (fun l h => ∃ n, s38l2_R (F n) l h)
theorem s38l2_go {F : s38l2_T} {x0 x1 : AVal} {x2 : Int} {h : Heap} (H : F x0 x1 x2 h) : s38l2_G F x0 x1 x2 h := gJ_plain rfl H
theorem s38l2_in {F : Nat → s38l2_T} {x0 x1 : AVal} {x2 : Int} {h : Heap} (n : Nat) (H : F n x0 x1 x2 h) : s38l2_E F x0 x1 x2 h := gJ_plain rfl ⟨n, H⟩

abbrev s38l3_T := AVal → AVal → Int → Heap → Prop
def s38l3_R (F : s38l3_T) (l : List AVal) (h : Heap) : Prop := J.cons l fun x0 l => J.cons l fun x1 l => J.cons l fun v l => J.int .i64 v fun x2 => J.nil l (F x0 x1 x2 h)
def s38l3_G (F : s38l3_T) (x0 x1 : AVal) (x2 : Int) (h : Heap) : Prop := gJ [.any, .any, .int .i64] [x0, x1, (.int .i64 x2)] h (s38l3_R F)
def s38l3_E (F : Nat → s38l3_T) (x0 x1 : AVal) (x2 : Int) (h : Heap) : Prop := gJ [.any, .any, .int .i64] [x0, x1, (.int .i64 x2)] h (fun l h => ∃ n, s38l3_R (F n) l h)
theorem s38l3_go {F : s38l3_T} {x0 x1 : AVal} {x2 : Int} {h : Heap} (H : F x0 x1 x2 h) : s38l3_G F x0 x1 x2 h := gJ_plain rfl H
theorem s38l3_in {F : Nat → s38l3_T} {x0 x1 : AVal} {x2 : Int} {h : Heap} (n : Nat) (H : F n x0 x1 x2 h) : s38l3_E F x0 x1 x2 h := gJ_plain rfl ⟨n, H⟩

def s38l3 (Ψ : AVal → Heap → Prop) : Nat → s38l3_T
  | 0, _, _, _, _ => False
  | n2 + 1, a2, b2, i1, h =>
    addOff a2 1 fun p5 =>
    ld1 h p5 fun v7 =>
    lenN v7 fun n3 =>
    ifT (decide (i1 < n3)) (
      addOff a2 1 fun p6 =>
      ld1 h p6 fun v8 =>
      ixS 1 v8 i1 fun p7 =>
      ld1 h p7 fun v9 =>
      addOff b2 1 fun p8 =>
      ld1 h p8 fun v10 =>
      ixS 1 v10 i1 fun p9 =>
      ld1 h p9 fun v11 =>
      callG prog 77 [v9, v11] h fun v12 h_1 =>
      tBool v12 fun v13 =>
      ifT (!v13) (
        retG (.bool false) h_1 Ψ) (
        rg (i1 + 1) (
          s38l3_G (s38l3 Ψ n2) a2 b2 (i1 + 1) h_1))) (
      retG (.bool true) h Ψ)

def s38l2 (Ψ : AVal → Heap → Prop) : Nat → s38l2_T
  | 0, _, _, _, _ => False
  | n + 1, a1, b1, i, h =>
    addOff a1 0 fun p =>
    ld1 h p fun v =>
    lenN v fun n1 =>
    ifT (decide (i < n1)) (
      addOff a1 0 fun p1 =>
      ld1 h p1 fun v1 =>
      ixS 1 v1 i fun p2 =>
      ld1 h p2 fun v2 =>
      addOff b1 0 fun p3 =>
      ld1 h p3 fun v3 =>
      ixS 1 v3 i fun p4 =>
      ld1 h p4 fun v4 =>
      callG prog 76 [v2, v4] h fun v5 h_ =>
      tBool v5 fun v6 =>
      ifT (!v6) (
        retG (.bool false) h_ Ψ) (
        rg (i + 1) (
          s38l2_G (s38l2 Ψ n) a1 b1 (i + 1) h_))) (
      s38l3_E (s38l3 Ψ) a1 b1 0 h)

def s38c1 (Ψ : AVal → Heap → Prop) (a b : AVal) (t22 : Bool) (h : Heap) : Prop :=
  ifT t22 (
    retG (.bool false) h Ψ) (
    s38l2_E (s38l2 Ψ) a b 0 h)

def s38 (Ψ : AVal → Heap → Prop) (a_Up : AVal) (a_Val : AVal) (b_Up : AVal) (b_Val : AVal) (h : Heap) : Prop :=
  lenN a_Up fun n6 =>
  lenN b_Up fun n7 =>
  ifT (n6 != n7) (
    s38c1 Ψ (.lptr [a_Up, a_Val]) (.lptr [b_Up, b_Val]) true h) (
    lenN a_Val fun n8 =>
    lenN b_Val fun n9 =>
    s38c1 Ψ (.lptr [a_Up, a_Val]) (.lptr [b_Up, b_Val]) (n8 != n9) h)

def s38_A (Ψ : AVal → Heap → Prop) : Ann :=
  .seq (.reg [⟨none, [(0, true), (1, true), (2, false)]⟩])
  (.seq (.cut [(2, .any), (3, .any), (22, .bool)] (fun l h => J.cons l fun x0 l => J.cons l fun x1 l => J.cons l fun v l => J.bool v fun x2 => J.nil l (s38c1 Ψ x0 x1 x2 h)) (.reg [⟨none, [(0, false), (1, false), (2, false), (3, false), (4, false), (5, false), (6, false), (7, false)]⟩, ⟨some (14, false), [(8, false), (9, false), (10, false), (11, false), (12, false), (13, false), (14, false)]⟩, ⟨none, [(15, false)]⟩])
  (.cond (.seq (rA 1)
  (.leaf))
  (.leaf)))
  (.seq (.seq (rA 1)
  (.block (.loop [(2, .any), (3, .any), (5, .int .i64)] (fun n l h => s38l2_R (s38l2 Ψ n) l h) (fun L2 =>
  .seq (.seq (rA 5)
  (.cond (.leaf)
  (.leaf)))
  (.seq (.block (.seq (.draw [(0, false), (1, false), (2, false), (3, false), (4, false), (5, false), (6, false), (7, false), (8, false), (9, false), (10, false), (11, false)] [0, 1, 0, 7, 15, 0, 32, 0, 224, 480, 1023, 2047])
  (.cond (.seq (rA 1)
  (.leaf))
  (.leaf))))
  (rA 3))))))
  (.seq (.seq (rA 1)
  (.block (.loop [(2, .any), (3, .any), (6, .int .i64)] (fun n l h => s38l3_R (s38l3 Ψ n) l h) (fun L3 =>
  .seq (.seq (rA 5)
  (.cond (.leaf)
  (.leaf)))
  (.seq (.block (.seq (.draw [(0, false), (1, false), (2, false), (3, false), (4, false), (5, false), (6, false), (7, false), (8, false), (9, false), (10, false), (11, false)] [0, 1, 0, 7, 15, 0, 32, 0, 224, 480, 1023, 2047])
  (.cond (.seq (rA 1)
  (.leaf))
  (.leaf))))
  (rA 3))))))
  (.seq (rA 1)
  (.leaf)))))

theorem s38_ok {Ψ : AVal → Heap → Prop} {a_Up : AVal} {a_Val : AVal} {b_Up : AVal} {b_Val : AVal} {h : Heap} (H : s38 Ψ a_Up a_Val b_Up b_Val h) : ACalls prog 38 [(.agg [a_Up, a_Val]), (.agg [b_Up, b_Val])] h Ψ :=
  calls_of_evF func38 (by kernel_rfl) (by kernel_rfl) (by kernel_rfl)
    (Eq.mpr (by as_aux_lemma => kernel_rfl : oblF prog f38 (s38_A Ψ) Ψ = (True ∧ ((True) ∧ (∀ (h : Heap) (x0 x1 : AVal) (x2 : Bool), OI (s38c1 Ψ x0 x1 x2 h)) ∧ ((True ∧ True) ∧ True)) ∧ (True ∧ (∀ (h : Heap) (x0 x1 : AVal) (x2 : Int), ON (s38l2 Ψ 0 x0 x1 x2 h)) ∧ ∀ n2 : Nat, (∀ (h : Heap) (x0 x1 : AVal) (x2 : Int), OI (s38l2 Ψ (n2 + 1) x0 x1 x2 h)) ∧ ((True ∧ True ∧ True) ∧ (True ∧ (True ∧ True) ∧ True) ∧ True)) ∧ (True ∧ (∀ (h : Heap) (x0 x1 : AVal) (x2 : Int), ON (s38l3 Ψ 0 x0 x1 x2 h)) ∧ ∀ n3 : Nat, (∀ (h : Heap) (x0 x1 : AVal) (x2 : Int), OI (s38l3 Ψ (n3 + 1) x0 x1 x2 h)) ∧ ((True ∧ True ∧ True) ∧ (True ∧ (True ∧ True) ∧ True) ∧ True)) ∧ True ∧ True)) ⟨trivial, ⟨⟨trivial, fun _ _ _ _ H => H, ⟨⟨trivial, trivial⟩, trivial⟩⟩, ⟨⟨trivial, ⟨fun _ _ _ _ H => H, fun _ => ⟨fun _ _ _ _ H => H, ⟨⟨trivial, ⟨trivial, trivial⟩⟩, ⟨⟨trivial, ⟨⟨trivial, trivial⟩, trivial⟩⟩, trivial⟩⟩⟩⟩⟩, ⟨⟨trivial, ⟨fun _ _ _ _ H => H, fun _ => ⟨fun _ _ _ _ H => H, ⟨⟨trivial, ⟨trivial, trivial⟩⟩, ⟨⟨trivial, ⟨⟨trivial, trivial⟩, trivial⟩⟩, trivial⟩⟩⟩⟩⟩, ⟨trivial, trivial⟩⟩⟩⟩⟩)
    (Eq.mpr (by as_aux_lemma => kernel_rfl : evF prog f38 (s38_A Ψ) Ψ [(.agg [a_Up, a_Val]), (.agg [b_Up, b_Val])] h = s38 Ψ a_Up a_Val b_Up b_Val h) H)

/- 40 (*dictum/formula.Table).Below -/
abbrev s40l1_T := AVal → AVal → Heap → Prop
def s40l1_R (F : s40l1_T) (l : List AVal) (h : Heap) : Prop := J.cons l fun x0 l => J.cons l fun x1 l => J.nil l (F x0 x1 h)
def s40l1_G (F : s40l1_T) (x0 x1 : AVal) (h : Heap) : Prop := gJ [.any, .any] [x0, x1] h (s40l1_R F)
def s40l1_E (F : Nat → s40l1_T) (x0 x1 : AVal) (h : Heap) : Prop := gJ [.any, .any] [x0, x1] h (fun l h => ∃ n, s40l1_R (F n) l h)
theorem s40l1_go {F : s40l1_T} {x0 x1 : AVal} {h : Heap} (H : F x0 x1 h) : s40l1_G F x0 x1 h := gJ_plain rfl H
theorem s40l1_in {F : Nat → s40l1_T} {x0 x1 : AVal} {h : Heap} (n : Nat) (H : F n x0 x1 h) : s40l1_E F x0 x1 h := gJ_plain rfl ⟨n, H⟩

def s40l1 (Ψ : AVal → Heap → Prop) : Nat → s40l1_T
  | 0, _, _, _ => False
  | n + 1, l_, t25, h =>
    nextM h t25 fun v8 h_9 =>
    extractA v8 0 fun v9 =>
    tBool v9 fun v10 =>
    ifT v10 (
      entryA h_9 t25 fun v11 =>
      extractA v11 0 fun v12 =>
      tInt .i64 v12 fun v13 =>
      appC 1 8 h_9 l_ (.lsl 1 [(.int .i64 v13)]) fun v14 h_10 =>
      s40l1_G (s40l1 Ψ n) v14 t25 h_10) (
      callG prog 81 [l_] h_9 fun v15 h_11 =>
      retG (.tuple [l_, (.int .i64 0)]) h_11 Ψ)

def s40 (Ψ : AVal → Heap → Prop) (t : AVal) (id_ : Int) (h : Heap) : Prop :=
  chk (sc t) (
    callG prog 56 [t] h fun v h_ =>
    tBool v fun v1 =>
    ifT (!v1) (
      retG (.tuple [.nilsl, (.int .i64 1)]) h_ Ψ) (
      callG prog 75 [t, (.int .i64 id_)] h_ fun v2 h_1 =>
      tBool v2 fun v3 =>
      ifT (!v3) (
        retG (.tuple [.nilsl, (.int .i64 31)]) h_1 Ψ) (
        newMap h_1 fun r h_2 =>
        Sym.newRow 1 [.nilmap] h_2 fun r1 h_3 =>
        st true h_3 (.ptr r1 0 0) [(.mapr r)] fun h_4 =>
        Sym.newRow 1 [.nilfunc] h_4 fun r2 h_5 =>
        st true h_5 (.ptr r2 0 0) [(.func (.func 80) [] [(.ptr r1 0 0), (.lptr [t]), (.ptr r2 0 0)])] fun h_6 =>
        ld1 h_6 (.ptr r2 0 0) fun v4 =>
        callV prog v4 [(.int .i64 id_)] h_6 fun v5 h_7 =>
        ld1 h_7 (.ptr r1 0 0) fun v6 =>
        rangeM h_7 v6 fun v7 h_8 =>
        s40l1_E (s40l1 Ψ) .nilsl v7 h_8)))

def s40_A (Ψ : AVal → Heap → Prop) : Ann :=
  .seq (.reg [⟨none, [(0, true), (1, false), (2, false)]⟩])
  (.seq (.block (.seq (rA 4)
  (.cond (.seq (rA 2)
  (.leaf))
  (.seq (rA 5)
  (.cond (.seq (rA 2)
  (.leaf))
  (.leaf))))))
  (.seq (rA 3)
  (.seq (rA 1)
  (.seq (rA 2)
  (.seq (rA 3)
  (.seq (rA 1)
  (.seq (.seq (rA 2)
  (.block (.loop [(8, .any), (25, .any)] (fun n l h => s40l1_R (s40l1 Ψ n) l h) (fun L1 =>
  .seq (rA 2)
  (.seq (.cond (.leaf)
  (.leaf))
  (.block (.seq (rA 3)
  (.reg [⟨none, [(0, false), (1, false), (2, true), (3, false), (4, false)]⟩]))))))))
  (.seq (rA 2)
  (.seq (rA 3)
  (.leaf))))))))))

theorem s40_ok {Ψ : AVal → Heap → Prop} {t : AVal} {id_ : Int} {h : Heap} (H : s40 Ψ t id_ h) : ACalls prog 40 [t, (.int .i64 id_)] h Ψ :=
  calls_of_evF func40 (by kernel_rfl) (by kernel_rfl) (by kernel_rfl)
    (Eq.mpr (by as_aux_lemma => kernel_rfl : oblF prog f40 (s40_A Ψ) Ψ = (True ∧ (True ∧ (True ∧ True) ∧ True ∧ (True ∧ True) ∧ True) ∧ True ∧ True ∧ True ∧ True ∧ True ∧ (True ∧ (∀ (h : Heap) (x0 x1 : AVal), ON (s40l1 Ψ 0 x0 x1 h)) ∧ ∀ n1 : Nat, (∀ (h : Heap) (x0 x1 : AVal), OI (s40l1 Ψ (n1 + 1) x0 x1 h)) ∧ (True ∧ (True ∧ True) ∧ True ∧ True)) ∧ True ∧ True ∧ True)) ⟨trivial, ⟨⟨trivial, ⟨⟨trivial, trivial⟩, ⟨trivial, ⟨⟨trivial, trivial⟩, trivial⟩⟩⟩⟩, ⟨trivial, ⟨trivial, ⟨trivial, ⟨trivial, ⟨trivial, ⟨⟨trivial, ⟨fun _ _ _ H => H, fun _ => ⟨fun _ _ _ H => H, ⟨trivial, ⟨⟨trivial, trivial⟩, ⟨trivial, trivial⟩⟩⟩⟩⟩⟩, ⟨trivial, ⟨trivial, trivial⟩⟩⟩⟩⟩⟩⟩⟩⟩⟩)
    (Eq.mpr (by as_aux_lemma => kernel_rfl : evF prog f40 (s40_A Ψ) Ψ [t, (.int .i64 id_)] h = s40 Ψ t id_ h) H)

/- 42 dictum/nishimura.join -/
def s42 (Ψ : AVal → Heap → Prop) (a_all : Bool) (a_low : Int) (a_gap : Bool) (b_all : Bool) (b_low : Int) (b_gap : Bool) (h : Heap) : Prop :=
  Sym.newRow 3 [(.agg [(.bool false), (.int .i64 0), (.bool false)])] h fun r h_ =>
  callG prog 83 [(.agg [(.bool a_all), (.int .i64 a_low), (.bool a_gap)]), (.agg [(.bool b_all), (.int .i64 b_low), (.bool b_gap)])] h_ fun v h_1 =>
  tInt .i64 v fun v1 =>
  callG prog 82 [(.int .i64 v1), (.func (.func 86) [] [(.lptr [(.bool a_all), (.int .i64 a_low), (.bool a_gap)]), (.lptr [(.bool b_all), (.int .i64 b_low), (.bool b_gap)])])] h_1 fun v2 h_2 =>
  tAgg v2 fun l_ =>
  tCons l_ fun v3 l_1 =>
  tBool v3 fun v4 =>
  tCons l_1 fun v5 l_2 =>
  tInt .i64 v5 fun v6 =>
  tCons l_2 fun v7 l_3 =>
  tBool v7 fun v8 =>
  tNil l_3 (
    st false h_2 (.ptr r 0 0) [(.bool v4), (.int .i64 v6), (.bool v8)] fun h_3 =>
    ldN 3 h_3 (.ptr r 0 0) fun l_4 =>
    tCons l_4 fun v9 l_5 =>
    tBool v9 fun v10 =>
    tCons l_5 fun v11 l_6 =>
    tInt .i64 v11 fun v12 =>
    tCons l_6 fun v13 l_7 =>
    tBool v13 fun v14 =>
    tNil l_7 (
      retG (.agg [(.bool v10), (.int .i64 v12), (.bool v14)]) h_3 Ψ))

def s42_A (Ψ : AVal → Heap → Prop) : Ann :=
  .seq (.reg [⟨none, [(0, true), (1, true), (2, false)]⟩])
  (.seq (rA 6)
  (.leaf))

theorem s42_ok {Ψ : AVal → Heap → Prop} {a_all : Bool} {a_low : Int} {a_gap : Bool} {b_all : Bool} {b_low : Int} {b_gap : Bool} {h : Heap} (H : s42 Ψ a_all a_low a_gap b_all b_low b_gap h) : ACalls prog 42 [(.agg [(.bool a_all), (.int .i64 a_low), (.bool a_gap)]), (.agg [(.bool b_all), (.int .i64 b_low), (.bool b_gap)])] h Ψ :=
  calls_of_evF func42 (by kernel_rfl) (by kernel_rfl) (by kernel_rfl)
    (Eq.mpr (by as_aux_lemma => kernel_rfl : oblF prog f42 (s42_A Ψ) Ψ = (True ∧ True ∧ True)) ⟨trivial, ⟨trivial, trivial⟩⟩)
    (Eq.mpr (by as_aux_lemma => kernel_rfl : evF prog f42 (s42_A Ψ) Ψ [(.agg [(.bool a_all), (.int .i64 a_low), (.bool a_gap)]), (.agg [(.bool b_all), (.int .i64 b_low), (.bool b_gap)])] h = s42 Ψ a_all a_low a_gap b_all b_low b_gap h) H)

/- 44 (dictum/nishimura.rung).number -/
def s44 (Ψ : AVal → Heap → Prop) (r_all : Bool) (r_low : Int) (r_gap : Bool) (h : Heap) : Prop :=
  ifT r_all (
    retG (.int .i64 (-1)) h Ψ) (
    ifT r_gap (
      rg (2 * r_low) (
        rg ((2 * r_low) + 2) (
          retG (.int .i64 ((2 * r_low) + 2)) h Ψ))) (
      ifT (r_low == 0) (
        retG (.int .i64 0) h Ψ) (
        rg (2 * r_low) (
          rg ((2 * r_low) - 1) (
            retG (.int .i64 ((2 * r_low) - 1)) h Ψ)))))

def s44_A (Ψ : AVal → Heap → Prop) : Ann :=
  .seq (.reg [⟨none, [(0, true), (1, false)]⟩])
  (.seq (.block (.seq (rA 3)
  (.cond (.seq (rA 1)
  (.leaf))
  (.seq (rA 3)
  (.cond (.seq (rA 5)
  (.leaf))
  (.seq (rA 4)
  (.cond (.seq (rA 1)
  (.leaf))
  (.leaf))))))))
  (.seq (rA 5)
  (.leaf)))

theorem s44_ok {Ψ : AVal → Heap → Prop} {r_all : Bool} {r_low : Int} {r_gap : Bool} {h : Heap} (H : s44 Ψ r_all r_low r_gap h) : ACalls prog 44 [(.agg [(.bool r_all), (.int .i64 r_low), (.bool r_gap)])] h Ψ :=
  calls_of_evF func44 (by kernel_rfl) (by kernel_rfl) (by kernel_rfl)
    (Eq.mpr (by as_aux_lemma => kernel_rfl : oblF prog f44 (s44_A Ψ) Ψ = (True ∧ (True ∧ (True ∧ True) ∧ True ∧ (True ∧ True) ∧ True ∧ (True ∧ True) ∧ True) ∧ True ∧ True)) ⟨trivial, ⟨⟨trivial, ⟨⟨trivial, trivial⟩, ⟨trivial, ⟨⟨trivial, trivial⟩, ⟨trivial, ⟨⟨trivial, trivial⟩, trivial⟩⟩⟩⟩⟩⟩, ⟨trivial, trivial⟩⟩⟩)
    (Eq.mpr (by as_aux_lemma => kernel_rfl : evF prog f44 (s44_A Ψ) Ψ [(.agg [(.bool r_all), (.int .i64 r_low), (.bool r_gap)])] h = s44 Ψ r_all r_low r_gap h) H)

/- 50 (*dictum/dictumref03.T).Has -/
def s50 (Ψ : AVal → Heap → Prop) (t : AVal) (id_ : Int) (h : Heap) : Prop :=
  ifT (decide (0 ≤ id_)) (
    nilCheckA t fun p =>
    addOff p 0 fun p1 =>
    ld1 h p1 fun v =>
    lenN v fun n =>
    retG (.bool (decide (id_ < n))) h Ψ) (
    retG (.bool false) h Ψ)

def s50_A (Ψ : AVal → Heap → Prop) : Ann :=
  .seq (rA 1)
  (.seq (.reg [⟨none, [(0, false), (1, false), (2, false)]⟩, ⟨some (7, true), [(3, false), (4, false), (5, false), (6, false), (7, false), (8, false), (9, false)]⟩, ⟨none, [(10, false), (11, false)]⟩])
  (.leaf))

theorem s50_ok {Ψ : AVal → Heap → Prop} {t : AVal} {id_ : Int} {h : Heap} (H : s50 Ψ t id_ h) : ACalls prog 50 [t, (.int .i64 id_)] h Ψ :=
  calls_of_evF func50 (by kernel_rfl) (by kernel_rfl) (by kernel_rfl)
    (Eq.mpr (by as_aux_lemma => kernel_rfl : oblF prog f50 (s50_A Ψ) Ψ = (True ∧ True ∧ True)) ⟨trivial, ⟨trivial, trivial⟩⟩)
    (Eq.mpr (by as_aux_lemma => kernel_rfl : evF prog f50 (s50_A Ψ) Ψ [t, (.int .i64 id_)] h = s50 Ψ t id_ h) H)

/- 52 dictum/force.has -/
def s52 (Ψ : AVal → Heap → Prop) (t : AVal) (id_ : Int) (h : Heap) : Prop :=
  callG prog 37 [t, (.int .i64 id_)] h fun v h_ =>
  tTup v fun l_ =>
  tCons l_ fun v1 l_1 =>
  tCons l_1 fun v2 l_2 =>
  tBool v2 fun v3 =>
  tNil l_2 (
    tAgg v1 fun l_3 =>
    tCons l_3 fun v4 l_4 =>
    tInt .i64 v4 fun v5 =>
    tCons l_4 fun v6 l_5 =>
    tStr v6 fun v7 =>
    tCons l_5 fun v8 l_6 =>
    tInt .i64 v8 fun v9 =>
    tCons l_6 fun v10 l_7 =>
    tInt .i64 v10 fun v11 =>
    tNil l_7 (
      Sym.newRow 4 [(.agg [(.int .i64 0), (.str (ByteArray.mk #[])), (.int .i64 0), (.int .i64 0)])] h_ fun r h_1 =>
      st false h_1 (.ptr r 0 0) [(.int .i64 v5), (.str v7), (.int .i64 v9), (.int .i64 v11)] fun h_2 =>
      retG (.bool v3) h_2 Ψ))

def s52_A (Ψ : AVal → Heap → Prop) : Ann :=
  .seq (rA 1)
  (.seq (rA 9)
  (.seq (rA 2)
  (.leaf)))

theorem s52_ok {Ψ : AVal → Heap → Prop} {t : AVal} {id_ : Int} {h : Heap} (H : s52 Ψ t id_ h) : ACalls prog 52 [t, (.int .i64 id_)] h Ψ :=
  calls_of_evF func52 (by kernel_rfl) (by kernel_rfl) (by kernel_rfl)
    (Eq.mpr (by as_aux_lemma => kernel_rfl : oblF prog f52 (s52_A Ψ) Ψ = (True ∧ True ∧ True ∧ True)) ⟨trivial, ⟨trivial, ⟨trivial, trivial⟩⟩⟩)
    (Eq.mpr (by as_aux_lemma => kernel_rfl : evF prog f52 (s52_A Ψ) Ψ [t, (.int .i64 id_)] h = s52 Ψ t id_ h) H)

/- 54 dictum/dictumref03.From -/
abbrev s54l1_T := AVal → AVal → Int → Heap → Prop
def s54l1_R (F : s54l1_T) (l : List AVal) (h : Heap) : Prop := J.cons l fun x0 l => J.cons l fun x1 l => J.cons l fun v l => J.int .i64 v fun x2 => J.nil l (F x0 x1 x2 h)
def s54l1_G (F : s54l1_T) (x0 x1 : AVal) (x2 : Int) (h : Heap) : Prop := gJ [.any, .any, .int .i64] [x0, x1, (.int .i64 x2)] h (s54l1_R F)
def s54l1_E (F : Nat → s54l1_T) (x0 x1 : AVal) (x2 : Int) (h : Heap) : Prop := gJ [.any, .any, .int .i64] [x0, x1, (.int .i64 x2)] h (fun l h => ∃ n, s54l1_R (F n) l h)
theorem s54l1_go {F : s54l1_T} {x0 x1 : AVal} {x2 : Int} {h : Heap} (H : F x0 x1 x2 h) : s54l1_G F x0 x1 x2 h := gJ_plain rfl H
theorem s54l1_in {F : Nat → s54l1_T} {x0 x1 : AVal} {x2 : Int} {h : Heap} (n : Nat) (H : F n x0 x1 x2 h) : s54l1_E F x0 x1 x2 h := gJ_plain rfl ⟨n, H⟩

def s54l1 (Ψ : AVal → Heap → Prop) : Nat → s54l1_T
  | 0, _, _, _, _ => False
  | n + 1, rows1, t, i, h =>
    lenN rows1 fun n1 =>
    ifT (decide (i < n1)) (
      ixS 4 rows1 i fun p =>
      ldN 4 h p fun l_ =>
      tCons l_ fun v l_1 =>
      tInt .i64 v fun v1 =>
      tCons l_1 fun v2 l_2 =>
      tStr v2 fun v3 =>
      tCons l_2 fun v4 l_3 =>
      tInt .i64 v4 fun v5 =>
      tCons l_3 fun v6 l_4 =>
      tInt .i64 v6 fun v7 =>
      tNil l_4 (
        callG prog 98 [t, (.agg [(.int .i64 v1), (.str v3), (.int .i64 v5), (.int .i64 v7)])] h fun v8 h_1 =>
        tTup v8 fun l_5 =>
        tCons l_5 fun v9 l_6 =>
        tInt .i64 v9 fun v10 =>
        tCons l_6 fun v11 l_7 =>
        tInt .i64 v11 fun v12 =>
        tNil l_7 (
          ifT (v12 != 0) (
            retG (.tuple [.nilptr, (.int .i64 v12)]) h_1 Ψ) (
            ifT (v10 != i) (
              retG (.tuple [.nilptr, (.int .i64 31)]) h_1 Ψ) (
              rg (i + 1) (
                s54l1_G (s54l1 Ψ n) rows1 t (i + 1) h_1)))))) (
      retG (.tuple [t, (.int .i64 0)]) h Ψ)

def s54 (Ψ : AVal → Heap → Prop) (rows : AVal) (h : Heap) : Prop :=
  Sym.newRow 1 [(.agg [.nilsl])] h fun r h_ =>
  s54l1_E (s54l1 Ψ) rows (.ptr r 0 0) 0 h_

def s54_A (Ψ : AVal → Heap → Prop) : Ann :=
  .seq (rA 2)
  (.seq (rA 3)
  (.seq (.seq (rA 1)
  (.block (.loop [(0, .any), (4, .any), (5, .int .i64)] (fun n l h => s54l1_R (s54l1 Ψ n) l h) (fun L1 =>
  .seq (.seq (rA 4)
  (.cond (.leaf)
  (.leaf)))
  (.seq (.block (.seq (rA 11)
  (.seq (.seq (rA 2)
  (.cond (.seq (rA 3)
  (.leaf))
  (.leaf)))
  (.seq (rA 3)
  (.cond (.seq (rA 2)
  (.leaf))
  (.leaf))))))
  (rA 3))))))
  (.seq (rA 3)
  (.leaf))))

theorem s54_ok {Ψ : AVal → Heap → Prop} {rows : AVal} {h : Heap} (H : s54 Ψ rows h) : ACalls prog 54 [rows] h Ψ :=
  calls_of_evF func54 (by kernel_rfl) (by kernel_rfl) (by kernel_rfl)
    (Eq.mpr (by as_aux_lemma => kernel_rfl : oblF prog f54 (s54_A Ψ) Ψ = (True ∧ True ∧ (True ∧ (∀ (h : Heap) (x0 x1 : AVal) (x2 : Int), ON (s54l1 Ψ 0 x0 x1 x2 h)) ∧ ∀ n1 : Nat, (∀ (h : Heap) (x0 x1 : AVal) (x2 : Int), OI (s54l1 Ψ (n1 + 1) x0 x1 x2 h)) ∧ ((True ∧ True ∧ True) ∧ (True ∧ (True ∧ (True ∧ True) ∧ True) ∧ True ∧ (True ∧ True) ∧ True) ∧ True)) ∧ True ∧ True)) ⟨trivial, ⟨trivial, ⟨⟨trivial, ⟨fun _ _ _ _ H => H, fun _ => ⟨fun _ _ _ _ H => H, ⟨⟨trivial, ⟨trivial, trivial⟩⟩, ⟨⟨trivial, ⟨⟨trivial, ⟨⟨trivial, trivial⟩, trivial⟩⟩, ⟨trivial, ⟨⟨trivial, trivial⟩, trivial⟩⟩⟩⟩, trivial⟩⟩⟩⟩⟩, ⟨trivial, trivial⟩⟩⟩⟩)
    (Eq.mpr (by as_aux_lemma => kernel_rfl : evF prog f54 (s54_A Ψ) Ψ [rows] h = s54 Ψ rows h) H)

/- 56 (*dictum/formula.Table).alive -/
def s56 (Ψ : AVal → Heap → Prop) (t : AVal) (h : Heap) : Prop :=
  nilP t fun b =>
  ifT (!b) (
    nilCheckA t fun p =>
    addOff p 1 fun p1 =>
    ld1 h p1 fun v =>
    nilM v fun b1 =>
    retG (.bool (!b1)) h Ψ) (
    retG (.bool false) h Ψ)

def s56_A (Ψ : AVal → Heap → Prop) : Ann :=
  .seq (rA 1)
  (.seq (.reg [⟨none, [(0, false), (1, false), (2, false)]⟩, ⟨some (5, true), [(3, false), (4, false), (5, false), (6, false), (7, false)]⟩, ⟨none, [(8, false), (9, false)]⟩])
  (.leaf))

theorem s56_ok {Ψ : AVal → Heap → Prop} {t : AVal} {h : Heap} (H : s56 Ψ t h) : ACalls prog 56 [t] h Ψ :=
  calls_of_evF func56 (by kernel_rfl) (by kernel_rfl) (by kernel_rfl)
    (Eq.mpr (by as_aux_lemma => kernel_rfl : oblF prog f56 (s56_A Ψ) Ψ = (True ∧ True ∧ True)) ⟨trivial, ⟨trivial, trivial⟩⟩)
    (Eq.mpr (by as_aux_lemma => kernel_rfl : evF prog f56 (s56_A Ψ) Ψ [t] h = s56 Ψ t h) H)

/- 58 (*dictum/formula.Table).Bot -/
def s58 (Ψ : AVal → Heap → Prop) (t : AVal) (h : Heap) : Prop :=
  callG prog 99 [t, (.agg [(.int .i64 2), (.str (ByteArray.mk #[])), (.int .i64 0), (.int .i64 0)])] h fun v h_ =>
  tTup v fun l_ =>
  tCons l_ fun v1 l_1 =>
  tInt .i64 v1 fun v2 =>
  tCons l_1 fun v3 l_2 =>
  tInt .i64 v3 fun v4 =>
  tNil l_2 (
    retG (.tuple [(.int .i64 v2), (.int .i64 v4)]) h_ Ψ)

def s58_A (Ψ : AVal → Heap → Prop) : Ann :=
  .seq (rA 2)
  (.seq (rA 7)
  (.leaf))

theorem s58_ok {Ψ : AVal → Heap → Prop} {t : AVal} {h : Heap} (H : s58 Ψ t h) : ACalls prog 58 [t] h Ψ :=
  calls_of_evF func58 (by kernel_rfl) (by kernel_rfl) (by kernel_rfl)
    (Eq.mpr (by as_aux_lemma => kernel_rfl : oblF prog f58 (s58_A Ψ) Ψ = (True ∧ True ∧ True)) ⟨trivial, ⟨trivial, trivial⟩⟩)
    (Eq.mpr (by as_aux_lemma => kernel_rfl : evF prog f58 (s58_A Ψ) Ψ [t] h = s58 Ψ t h) H)

/- 60 (*dictum/formula.Table).Atom -/
def s60 (Ψ : AVal → Heap → Prop) (t : AVal) (name : ByteArray) (h : Heap) : Prop :=
  callG prog 99 [t, (.agg [(.int .i64 1), (.str name), (.int .i64 0), (.int .i64 0)])] h fun v h_ =>
  tTup v fun l_ =>
  tCons l_ fun v1 l_1 =>
  tInt .i64 v1 fun v2 =>
  tCons l_1 fun v3 l_2 =>
  tInt .i64 v3 fun v4 =>
  tNil l_2 (
    retG (.tuple [(.int .i64 v2), (.int .i64 v4)]) h_ Ψ)

def s60_A (Ψ : AVal → Heap → Prop) : Ann :=
  .seq (rA 2)
  (.seq (rA 8)
  (.leaf))

theorem s60_ok {Ψ : AVal → Heap → Prop} {t : AVal} {name : ByteArray} {h : Heap} (H : s60 Ψ t name h) : ACalls prog 60 [t, (.str name)] h Ψ :=
  calls_of_evF func60 (by kernel_rfl) (by kernel_rfl) (by kernel_rfl)
    (Eq.mpr (by as_aux_lemma => kernel_rfl : oblF prog f60 (s60_A Ψ) Ψ = (True ∧ True ∧ True)) ⟨trivial, ⟨trivial, trivial⟩⟩)
    (Eq.mpr (by as_aux_lemma => kernel_rfl : evF prog f60 (s60_A Ψ) Ψ [t, (.str name)] h = s60 Ψ t name h) H)

/- 62 (*dictum/formula.Table).Or -/
def s62 (Ψ : AVal → Heap → Prop) (t : AVal) (a : Int) (b : Int) (h : Heap) : Prop :=
  callG prog 99 [t, (.agg [(.int .i64 4), (.str (ByteArray.mk #[])), (.int .i64 a), (.int .i64 b)])] h fun v h_ =>
  tTup v fun l_ =>
  tCons l_ fun v1 l_1 =>
  tInt .i64 v1 fun v2 =>
  tCons l_1 fun v3 l_2 =>
  tInt .i64 v3 fun v4 =>
  tNil l_2 (
    retG (.tuple [(.int .i64 v2), (.int .i64 v4)]) h_ Ψ)

def s62_A (Ψ : AVal → Heap → Prop) : Ann :=
  .seq (rA 2)
  (.seq (rA 9)
  (.leaf))

theorem s62_ok {Ψ : AVal → Heap → Prop} {t : AVal} {a : Int} {b : Int} {h : Heap} (H : s62 Ψ t a b h) : ACalls prog 62 [t, (.int .i64 a), (.int .i64 b)] h Ψ :=
  calls_of_evF func62 (by kernel_rfl) (by kernel_rfl) (by kernel_rfl)
    (Eq.mpr (by as_aux_lemma => kernel_rfl : oblF prog f62 (s62_A Ψ) Ψ = (True ∧ True ∧ True)) ⟨trivial, ⟨trivial, trivial⟩⟩)
    (Eq.mpr (by as_aux_lemma => kernel_rfl : evF prog f62 (s62_A Ψ) Ψ [t, (.int .i64 a), (.int .i64 b)] h = s62 Ψ t a b h) H)

/- 64 dictum/dictumref03.Reserved -/
def s64 (Ψ : AVal → Heap → Prop) (h : Heap) : Prop :=
  retG (.lsl 1 [(.str (ByteArray.mk #[97, 98, 111, 114, 116])), (.str (ByteArray.mk #[99, 97, 115, 101])), (.str (ByteArray.mk #[102, 97, 108, 115, 101])), (.str (ByteArray.mk #[102, 115, 116])), (.str (ByteArray.mk #[102, 117, 110])), (.str (ByteArray.mk #[105, 110])), (.str (ByteArray.mk #[105, 110, 108])), (.str (ByteArray.mk #[105, 110, 114])), (.str (ByteArray.mk #[108, 101, 116])), (.str (ByteArray.mk #[111, 102])), (.str (ByteArray.mk #[115, 110, 100])), (.str (ByteArray.mk #[116, 114, 117, 101]))]) h Ψ

def s64_A (Ψ : AVal → Heap → Prop) : Ann :=
  .seq (rA 1)
  (.seq (.reg [⟨none, [(0, true), (1, false)]⟩])
  (.leaf))

theorem s64_ok {Ψ : AVal → Heap → Prop} {h : Heap} (H : s64 Ψ  h) : ACalls prog 64 [] h Ψ :=
  calls_of_evF func64 (by kernel_rfl) (by kernel_rfl) (by kernel_rfl)
    (Eq.mpr (by as_aux_lemma => kernel_rfl : oblF prog f64 (s64_A Ψ) Ψ = (True ∧ True ∧ True)) ⟨trivial, ⟨trivial, trivial⟩⟩)
    (Eq.mpr (by as_aux_lemma => kernel_rfl : evF prog f64 (s64_A Ψ) Ψ [] h = s64 Ψ  h) H)

/- 66 (*dictum/dictumref03.T).Imp -/
def s66 (Ψ : AVal → Heap → Prop) (t : AVal) (a : Int) (b : Int) (h : Heap) : Prop :=
  callG prog 69 [t, (.int .i64 5), (.int .i64 a), (.int .i64 b)] h fun v h_ =>
  tTup v fun l_ =>
  tCons l_ fun v1 l_1 =>
  tInt .i64 v1 fun v2 =>
  tCons l_1 fun v3 l_2 =>
  tInt .i64 v3 fun v4 =>
  tNil l_2 (
    retG (.tuple [(.int .i64 v2), (.int .i64 v4)]) h_ Ψ)

def s66_A (Ψ : AVal → Heap → Prop) : Ann :=
  .seq (rA 2)
  (.seq (rA 8)
  (.leaf))

theorem s66_ok {Ψ : AVal → Heap → Prop} {t : AVal} {a : Int} {b : Int} {h : Heap} (H : s66 Ψ t a b h) : ACalls prog 66 [t, (.int .i64 a), (.int .i64 b)] h Ψ :=
  calls_of_evF func66 (by kernel_rfl) (by kernel_rfl) (by kernel_rfl)
    (Eq.mpr (by as_aux_lemma => kernel_rfl : oblF prog f66 (s66_A Ψ) Ψ = (True ∧ True ∧ True)) ⟨trivial, ⟨trivial, trivial⟩⟩)
    (Eq.mpr (by as_aux_lemma => kernel_rfl : evF prog f66 (s66_A Ψ) Ψ [t, (.int .i64 a), (.int .i64 b)] h = s66 Ψ t a b h) H)

/- 68 (*dictum/dictumref03.T).Not -/
def s68 (Ψ : AVal → Heap → Prop) (t : AVal) (a : Int) (h : Heap) : Prop :=
  callG prog 50 [t, (.int .i64 a)] h fun v h_ =>
  tBool v fun v1 =>
  ifT (!v1) (
    retG (.tuple [(.int .i64 0), (.int .i64 31)]) h_ Ψ) (
    callG prog 65 [t] h_ fun v2 h_1 =>
    tTup v2 fun l_ =>
    tCons l_ fun v3 l_1 =>
    tInt .i64 v3 fun v4 =>
    tCons l_1 fun v5 l_2 =>
    tInt .i64 v5 fun v6 =>
    tNil l_2 (
      ifT (v6 != 0) (
        retG (.tuple [(.int .i64 0), (.int .i64 v6)]) h_1 Ψ) (
        callG prog 66 [t, (.int .i64 a), (.int .i64 v4)] h_1 fun v7 h_2 =>
        tTup v7 fun l_3 =>
        tCons l_3 fun v8 l_4 =>
        tInt .i64 v8 fun v9 =>
        tCons l_4 fun v10 l_5 =>
        tInt .i64 v10 fun v11 =>
        tNil l_5 (
          retG (.tuple [(.int .i64 v9), (.int .i64 v11)]) h_2 Ψ))))

def s68_A (Ψ : AVal → Heap → Prop) : Ann :=
  .seq (rA 2)
  (.seq (.seq (rA 4)
  (.cond (.seq (rA 2)
  (.leaf))
  (.leaf)))
  (.seq (rA 7)
  (.seq (.seq (rA 2)
  (.cond (.seq (rA 3)
  (.leaf))
  (.leaf)))
  (.seq (rA 8)
  (.leaf)))))

theorem s68_ok {Ψ : AVal → Heap → Prop} {t : AVal} {a : Int} {h : Heap} (H : s68 Ψ t a h) : ACalls prog 68 [t, (.int .i64 a)] h Ψ :=
  calls_of_evF func68 (by kernel_rfl) (by kernel_rfl) (by kernel_rfl)
    (Eq.mpr (by as_aux_lemma => kernel_rfl : oblF prog f68 (s68_A Ψ) Ψ = (True ∧ (True ∧ (True ∧ True) ∧ True) ∧ True ∧ (True ∧ (True ∧ True) ∧ True) ∧ True ∧ True)) ⟨trivial, ⟨⟨trivial, ⟨⟨trivial, trivial⟩, trivial⟩⟩, ⟨trivial, ⟨⟨trivial, ⟨⟨trivial, trivial⟩, trivial⟩⟩, ⟨trivial, trivial⟩⟩⟩⟩⟩)
    (Eq.mpr (by as_aux_lemma => kernel_rfl : evF prog f68 (s68_A Ψ) Ψ [t, (.int .i64 a)] h = s68 Ψ t a h) H)

/- 70 dictum/dictumref03.Same -/
abbrev s70l1_T := AVal → AVal → Int → Heap → Prop
def s70l1_R (F : s70l1_T) (l : List AVal) (h : Heap) : Prop := J.cons l fun x0 l => J.cons l fun x1 l => J.cons l fun v l => J.int .i64 v fun x2 => J.nil l (F x0 x1 x2 h)
def s70l1_G (F : s70l1_T) (x0 x1 : AVal) (x2 : Int) (h : Heap) : Prop := gJ [.any, .any, .int .i64] [x0, x1, (.int .i64 x2)] h (s70l1_R F)
def s70l1_E (F : Nat → s70l1_T) (x0 x1 : AVal) (x2 : Int) (h : Heap) : Prop := gJ [.any, .any, .int .i64] [x0, x1, (.int .i64 x2)] h (fun l h => ∃ n, s70l1_R (F n) l h)
theorem s70l1_go {F : s70l1_T} {x0 x1 : AVal} {x2 : Int} {h : Heap} (H : F x0 x1 x2 h) : s70l1_G F x0 x1 x2 h := gJ_plain rfl H
theorem s70l1_in {F : Nat → s70l1_T} {x0 x1 : AVal} {x2 : Int} {h : Heap} (n : Nat) (H : F n x0 x1 x2 h) : s70l1_E F x0 x1 x2 h := gJ_plain rfl ⟨n, H⟩

def s70l1 (Ψ : AVal → Heap → Prop) : Nat → s70l1_T
  | 0, _, _, _, _ => False
  | n2 + 1, a1, b1, i, h =>
    lenN a1 fun n3 =>
    ifT (decide (i < n3)) (
      ixS 4 a1 i fun p =>
      ldN 4 h p fun l_ =>
      tCons l_ fun v l_1 =>
      tInt .i64 v fun v1 =>
      tCons l_1 fun v2 l_2 =>
      tStr v2 fun v3 =>
      tCons l_2 fun v4 l_3 =>
      tInt .i64 v4 fun v5 =>
      tCons l_3 fun v6 l_4 =>
      tInt .i64 v6 fun v7 =>
      tNil l_4 (
        ixS 4 b1 i fun p1 =>
        ldN 4 h p1 fun l_5 =>
        tCons l_5 fun v8 l_6 =>
        tInt .i64 v8 fun v9 =>
        tCons l_6 fun v10 l_7 =>
        tStr v10 fun v11 =>
        tCons l_7 fun v12 l_8 =>
        tInt .i64 v12 fun v13 =>
        tCons l_8 fun v14 l_9 =>
        tInt .i64 v14 fun v15 =>
        tNil l_9 (
          eqQ prog 54 (.agg [(.int .i64 v1), (.str v3), (.int .i64 v5), (.int .i64 v7)]) (.agg [(.int .i64 v9), (.str v11), (.int .i64 v13), (.int .i64 v15)]) fun b2 =>
          ifT (!b2) (
            retG (.bool false) h Ψ) (
            rg (i + 1) (
              s70l1_G (s70l1 Ψ n2) a1 b1 (i + 1) h))))) (
      retG (.bool true) h Ψ)

def s70 (Ψ : AVal → Heap → Prop) (a : AVal) (b : AVal) (h : Heap) : Prop :=
  lenN a fun n =>
  lenN b fun n1 =>
  ifT (n != n1) (
    retG (.bool false) h Ψ) (
    s70l1_E (s70l1 Ψ) a b 0 h)

def s70_A (Ψ : AVal → Heap → Prop) : Ann :=
  .seq (rA 1)
  (.seq (.seq (rA 5)
  (.cond (.seq (rA 1)
  (.leaf))
  (.leaf)))
  (.seq (.seq (rA 1)
  (.block (.loop [(0, .any), (1, .any), (5, .int .i64)] (fun n l h => s70l1_R (s70l1 Ψ n) l h) (fun L1 =>
  .seq (.seq (rA 4)
  (.cond (.leaf)
  (.leaf)))
  (.seq (.block (.seq (.draw [(0, false), (1, false), (2, false), (3, false), (4, false), (5, false), (6, false), (7, false), (8, false)] [0, 0, 3, 7, 0, 0, 48, 112, 255])
  (.cond (.seq (rA 1)
  (.leaf))
  (.leaf))))
  (rA 3))))))
  (.seq (rA 1)
  (.leaf))))

theorem s70_ok {Ψ : AVal → Heap → Prop} {a : AVal} {b : AVal} {h : Heap} (H : s70 Ψ a b h) : ACalls prog 70 [a, b] h Ψ :=
  calls_of_evF func70 (by kernel_rfl) (by kernel_rfl) (by kernel_rfl)
    (Eq.mpr (by as_aux_lemma => kernel_rfl : oblF prog f70 (s70_A Ψ) Ψ = (True ∧ (True ∧ (True ∧ True) ∧ True) ∧ (True ∧ (∀ (h : Heap) (x0 x1 : AVal) (x2 : Int), ON (s70l1 Ψ 0 x0 x1 x2 h)) ∧ ∀ n1 : Nat, (∀ (h : Heap) (x0 x1 : AVal) (x2 : Int), OI (s70l1 Ψ (n1 + 1) x0 x1 x2 h)) ∧ ((True ∧ True ∧ True) ∧ (True ∧ (True ∧ True) ∧ True) ∧ True)) ∧ True ∧ True)) ⟨trivial, ⟨⟨trivial, ⟨⟨trivial, trivial⟩, trivial⟩⟩, ⟨⟨trivial, ⟨fun _ _ _ _ H => H, fun _ => ⟨fun _ _ _ _ H => H, ⟨⟨trivial, ⟨trivial, trivial⟩⟩, ⟨⟨trivial, ⟨⟨trivial, trivial⟩, trivial⟩⟩, trivial⟩⟩⟩⟩⟩, ⟨trivial, trivial⟩⟩⟩⟩)
    (Eq.mpr (by as_aux_lemma => kernel_rfl : evF prog f70 (s70_A Ψ) Ψ [a, b] h = s70 Ψ a b h) H)

/- 72 dictum/nishimura.two -/
def s72c1 (Ψ : AVal → Heap → Prop) (how1 x y : AVal) (t28 : Bool) (h : Heap) : Prop :=
  ifT t28 (
    retG (.tuple [(.int .i64 0), (.int .i64 2)]) h Ψ) (
    ldN 3 h x fun l_14 =>
    tCons l_14 fun v20 l_15 =>
    tBool v20 fun v21 =>
    tCons l_15 fun v22 l_16 =>
    tInt .i64 v22 fun v23 =>
    tCons l_16 fun v24 l_17 =>
    tBool v24 fun v25 =>
    tNil l_17 (
      ldN 3 h y fun l_18 =>
      tCons l_18 fun v26 l_19 =>
      tBool v26 fun v27 =>
      tCons l_19 fun v28 l_20 =>
      tInt .i64 v28 fun v29 =>
      tCons l_20 fun v30 l_21 =>
      tBool v30 fun v31 =>
      tNil l_21 (
        callV prog how1 [(.agg [(.bool v21), (.int .i64 v23), (.bool v25)]), (.agg [(.bool v27), (.int .i64 v29), (.bool v31)])] h fun v32 h_6 =>
        tAgg v32 fun l_22 =>
        tCons l_22 fun v33 l_23 =>
        tBool v33 fun v34 =>
        tCons l_23 fun v35 l_24 =>
        tInt .i64 v35 fun v36 =>
        tCons l_24 fun v37 l_25 =>
        tBool v37 fun v38 =>
        tNil l_25 (
          callG prog 44 [(.agg [(.bool v34), (.int .i64 v36), (.bool v38)])] h_6 fun v39 h_7 =>
          tInt .i64 v39 fun v40 =>
          ifT (decide (4096 < v40)) (
            retG (.tuple [(.int .i64 0), (.int .i64 2)]) h_7 Ψ) (
            retG (.tuple [(.int .i64 v40), (.int .i64 0)]) h_7 Ψ)))))

def s72 (Ψ : AVal → Heap → Prop) (a : Int) (b : Int) (how : AVal) (h : Heap) : Prop :=
  callG prog 73 [(.int .i64 a)] h fun v h_ =>
  tTup v fun l_ =>
  tCons l_ fun v1 l_1 =>
  tCons l_1 fun v2 l_2 =>
  tBool v2 fun v3 =>
  tNil l_2 (
    tAgg v1 fun l_3 =>
    tCons l_3 fun v4 l_4 =>
    tBool v4 fun v5 =>
    tCons l_4 fun v6 l_5 =>
    tInt .i64 v6 fun v7 =>
    tCons l_5 fun v8 l_6 =>
    tBool v8 fun v9 =>
    tNil l_6 (
      Sym.newRow 3 [(.agg [(.bool false), (.int .i64 0), (.bool false)])] h_ fun r h_1 =>
      st false h_1 (.ptr r 0 0) [(.bool v5), (.int .i64 v7), (.bool v9)] fun h_2 =>
      callG prog 73 [(.int .i64 b)] h_2 fun v10 h_3 =>
      tTup v10 fun l_7 =>
      tCons l_7 fun v11 l_8 =>
      tCons l_8 fun v12 l_9 =>
      tBool v12 fun v13 =>
      tNil l_9 (
        tAgg v11 fun l_10 =>
        tCons l_10 fun v14 l_11 =>
        tBool v14 fun v15 =>
        tCons l_11 fun v16 l_12 =>
        tInt .i64 v16 fun v17 =>
        tCons l_12 fun v18 l_13 =>
        tBool v18 fun v19 =>
        tNil l_13 (
          Sym.newRow 3 [(.agg [(.bool false), (.int .i64 0), (.bool false)])] h_3 fun r1 h_4 =>
          st false h_4 (.ptr r1 0 0) [(.bool v15), (.int .i64 v17), (.bool v19)] fun h_5 =>
          ifT (!v3) (
            s72c1 Ψ how (.ptr r 0 0) (.ptr r1 0 0) true h_5) (
            s72c1 Ψ how (.ptr r 0 0) (.ptr r1 0 0) (!v13) h_5)))))

def s72_A (Ψ : AVal → Heap → Prop) : Ann :=
  .seq (rA 2)
  (.seq (rA 8)
  (.seq (rA 8)
  (.seq (.cut [(2, .any), (8, .any), (10, .any), (28, .bool)] (fun l h => J.cons l fun x0 l => J.cons l fun x1 l => J.cons l fun x2 l => J.cons l fun v l => J.bool v fun x3 => J.nil l (s72c1 Ψ x0 x1 x2 x3 h)) (.reg [⟨none, [(0, false), (1, false), (2, false)]⟩, ⟨some (25, false), [(3, false), (4, false)]⟩, ⟨none, [(5, false)]⟩])
  (.cond (.seq (rA 2)
  (.leaf))
  (.leaf)))
  (.seq (rA 6)
  (.seq (.seq (rA 2)
  (.cond (.seq (rA 2)
  (.leaf))
  (.leaf)))
  (.seq (rA 3)
  (.leaf)))))))

theorem s72_ok {Ψ : AVal → Heap → Prop} {a : Int} {b : Int} {how : AVal} {h : Heap} (H : s72 Ψ a b how h) : ACalls prog 72 [(.int .i64 a), (.int .i64 b), how] h Ψ :=
  calls_of_evF func72 (by kernel_rfl) (by kernel_rfl) (by kernel_rfl)
    (Eq.mpr (by as_aux_lemma => kernel_rfl : oblF prog f72 (s72_A Ψ) Ψ = (True ∧ True ∧ True ∧ ((True) ∧ (∀ (h : Heap) (x0 x1 x2 : AVal) (x3 : Bool), OI (s72c1 Ψ x0 x1 x2 x3 h)) ∧ ((True ∧ True) ∧ True)) ∧ True ∧ (True ∧ (True ∧ True) ∧ True) ∧ True ∧ True)) ⟨trivial, ⟨trivial, ⟨trivial, ⟨⟨trivial, fun _ _ _ _ _ H => H, ⟨⟨trivial, trivial⟩, trivial⟩⟩, ⟨trivial, ⟨⟨trivial, ⟨⟨trivial, trivial⟩, trivial⟩⟩, ⟨trivial, trivial⟩⟩⟩⟩⟩⟩⟩)
    (Eq.mpr (by as_aux_lemma => kernel_rfl : evF prog f72 (s72_A Ψ) Ψ [(.int .i64 a), (.int .i64 b), how] h = s72 Ψ a b how h) H)

/- 74 dictum/nishimura.below -/
def s74 (Ψ : AVal → Heap → Prop) (a_all : Bool) (a_low : Int) (a_gap : Bool) (b_all : Bool) (b_low : Int) (b_gap : Bool) (h : Heap) : Prop :=
  callG prog 43 [(.agg [(.bool a_all), (.int .i64 a_low), (.bool a_gap)]), (.agg [(.bool b_all), (.int .i64 b_low), (.bool b_gap)])] h fun v h_ =>
  tAgg v fun l_ =>
  tCons l_ fun v1 l_1 =>
  tBool v1 fun v2 =>
  tCons l_1 fun v3 l_2 =>
  tInt .i64 v3 fun v4 =>
  tCons l_2 fun v5 l_3 =>
  tBool v5 fun v6 =>
  tNil l_3 (
    retG (.bool v2) h_ Ψ)

def s74_A (Ψ : AVal → Heap → Prop) : Ann :=
  .seq (.reg [⟨none, [(0, true), (1, true), (2, false)]⟩])
  (.seq (rA 5)
  (.leaf))

theorem s74_ok {Ψ : AVal → Heap → Prop} {a_all : Bool} {a_low : Int} {a_gap : Bool} {b_all : Bool} {b_low : Int} {b_gap : Bool} {h : Heap} (H : s74 Ψ a_all a_low a_gap b_all b_low b_gap h) : ACalls prog 74 [(.agg [(.bool a_all), (.int .i64 a_low), (.bool a_gap)]), (.agg [(.bool b_all), (.int .i64 b_low), (.bool b_gap)])] h Ψ :=
  calls_of_evF func74 (by kernel_rfl) (by kernel_rfl) (by kernel_rfl)
    (Eq.mpr (by as_aux_lemma => kernel_rfl : oblF prog f74 (s74_A Ψ) Ψ = (True ∧ True ∧ True)) ⟨trivial, ⟨trivial, trivial⟩⟩)
    (Eq.mpr (by as_aux_lemma => kernel_rfl : evF prog f74 (s74_A Ψ) Ψ [(.agg [(.bool a_all), (.int .i64 a_low), (.bool a_gap)]), (.agg [(.bool b_all), (.int .i64 b_low), (.bool b_gap)])] h = s74 Ψ a_all a_low a_gap b_all b_low b_gap h) H)

/- 76 dictum/dictumref03.Ints -/
abbrev s76l1_T := AVal → AVal → Int → Heap → Prop
def s76l1_R (F : s76l1_T) (l : List AVal) (h : Heap) : Prop := J.cons l fun x0 l => J.cons l fun x1 l => J.cons l fun v l => J.int .i64 v fun x2 => J.nil l (F x0 x1 x2 h)
def s76l1_G (F : s76l1_T) (x0 x1 : AVal) (x2 : Int) (h : Heap) : Prop := gJ [.any, .any, .int .i64] [x0, x1, (.int .i64 x2)] h (s76l1_R F)
def s76l1_E (F : Nat → s76l1_T) (x0 x1 : AVal) (x2 : Int) (h : Heap) : Prop := gJ [.any, .any, .int .i64] [x0, x1, (.int .i64 x2)] h (fun l h => ∃ n, s76l1_R (F n) l h)
theorem s76l1_go {F : s76l1_T} {x0 x1 : AVal} {x2 : Int} {h : Heap} (H : F x0 x1 x2 h) : s76l1_G F x0 x1 x2 h := gJ_plain rfl H
theorem s76l1_in {F : Nat → s76l1_T} {x0 x1 : AVal} {x2 : Int} {h : Heap} (n : Nat) (H : F n x0 x1 x2 h) : s76l1_E F x0 x1 x2 h := gJ_plain rfl ⟨n, H⟩

def s76l1 (Ψ : AVal → Heap → Prop) : Nat → s76l1_T
  | 0, _, _, _, _ => False
  | n2 + 1, a1, b1, i, h =>
    lenN a1 fun n3 =>
    ifT (decide (i < n3)) (
      ixS 1 a1 i fun p =>
      ld1 h p fun v =>
      tInt .i64 v fun v1 =>
      ixS 1 b1 i fun p1 =>
      ld1 h p1 fun v2 =>
      tInt .i64 v2 fun v3 =>
      ifT (v1 != v3) (
        retG (.bool false) h Ψ) (
        rg (i + 1) (
          s76l1_G (s76l1 Ψ n2) a1 b1 (i + 1) h))) (
      retG (.bool true) h Ψ)

def s76 (Ψ : AVal → Heap → Prop) (a : AVal) (b : AVal) (h : Heap) : Prop :=
  lenN a fun n =>
  lenN b fun n1 =>
  ifT (n != n1) (
    retG (.bool false) h Ψ) (
    s76l1_E (s76l1 Ψ) a b 0 h)

def s76_A (Ψ : AVal → Heap → Prop) : Ann :=
  .seq (rA 1)
  (.seq (.seq (rA 5)
  (.cond (.seq (rA 1)
  (.leaf))
  (.leaf)))
  (.seq (.seq (rA 1)
  (.block (.loop [(0, .any), (1, .any), (5, .int .i64)] (fun n l h => s76l1_R (s76l1 Ψ n) l h) (fun L1 =>
  .seq (.seq (rA 4)
  (.cond (.leaf)
  (.leaf)))
  (.seq (.block (.seq (.draw [(0, false), (1, false), (2, false), (3, false), (4, false), (5, false), (6, false), (7, false), (8, false)] [0, 0, 3, 7, 0, 0, 48, 112, 255])
  (.cond (.seq (rA 1)
  (.leaf))
  (.leaf))))
  (rA 3))))))
  (.seq (rA 1)
  (.leaf))))

theorem s76_ok {Ψ : AVal → Heap → Prop} {a : AVal} {b : AVal} {h : Heap} (H : s76 Ψ a b h) : ACalls prog 76 [a, b] h Ψ :=
  calls_of_evF func76 (by kernel_rfl) (by kernel_rfl) (by kernel_rfl)
    (Eq.mpr (by as_aux_lemma => kernel_rfl : oblF prog f76 (s76_A Ψ) Ψ = (True ∧ (True ∧ (True ∧ True) ∧ True) ∧ (True ∧ (∀ (h : Heap) (x0 x1 : AVal) (x2 : Int), ON (s76l1 Ψ 0 x0 x1 x2 h)) ∧ ∀ n1 : Nat, (∀ (h : Heap) (x0 x1 : AVal) (x2 : Int), OI (s76l1 Ψ (n1 + 1) x0 x1 x2 h)) ∧ ((True ∧ True ∧ True) ∧ (True ∧ (True ∧ True) ∧ True) ∧ True)) ∧ True ∧ True)) ⟨trivial, ⟨⟨trivial, ⟨⟨trivial, trivial⟩, trivial⟩⟩, ⟨⟨trivial, ⟨fun _ _ _ _ H => H, fun _ => ⟨fun _ _ _ _ H => H, ⟨⟨trivial, ⟨trivial, trivial⟩⟩, ⟨⟨trivial, ⟨⟨trivial, trivial⟩, trivial⟩⟩, trivial⟩⟩⟩⟩⟩, ⟨trivial, trivial⟩⟩⟩⟩)
    (Eq.mpr (by as_aux_lemma => kernel_rfl : evF prog f76 (s76_A Ψ) Ψ [a, b] h = s76 Ψ a b h) H)

/- 78 dictum/measure.row -/
def s78 (Ψ : AVal → Heap → Prop) (t : AVal) (id_ : Int) (h : Heap) : Prop :=
  Sym.newRow 4 [(.agg [(.int .i64 0), (.str (ByteArray.mk #[])), (.int .i64 0), (.int .i64 0)])] h fun r h_ =>
  callG prog 23 [t] h_ fun v h_1 =>
  nilP v fun b =>
  ifT b (
    st false h_1 (.ptr r 0 0) [(.int .i64 0), (.str (ByteArray.mk #[])), (.int .i64 0), (.int .i64 0)] fun h_2 =>
    ldN 4 h_2 (.ptr r 0 0) fun l_ =>
    tCons l_ fun v1 l_1 =>
    tInt .i64 v1 fun v2 =>
    tCons l_1 fun v3 l_2 =>
    tStr v3 fun v4 =>
    tCons l_2 fun v5 l_3 =>
    tInt .i64 v5 fun v6 =>
    tCons l_3 fun v7 l_4 =>
    tInt .i64 v7 fun v8 =>
    tNil l_4 (
      retG (.tuple [(.agg [(.int .i64 v2), (.str v4), (.int .i64 v6), (.int .i64 v8)]), (.int .i64 1)]) h_2 Ψ)) (
    callG prog 37 [t, (.int .i64 id_)] h_1 fun v9 h_3 =>
    tTup v9 fun l_5 =>
    tCons l_5 fun v10 l_6 =>
    tCons l_6 fun v11 l_7 =>
    tBool v11 fun v12 =>
    tNil l_7 (
      tAgg v10 fun l_8 =>
      tCons l_8 fun v13 l_9 =>
      tInt .i64 v13 fun v14 =>
      tCons l_9 fun v15 l_10 =>
      tStr v15 fun v16 =>
      tCons l_10 fun v17 l_11 =>
      tInt .i64 v17 fun v18 =>
      tCons l_11 fun v19 l_12 =>
      tInt .i64 v19 fun v20 =>
      tNil l_12 (
        Sym.newRow 4 [(.agg [(.int .i64 0), (.str (ByteArray.mk #[])), (.int .i64 0), (.int .i64 0)])] h_3 fun r1 h_4 =>
        st false h_4 (.ptr r1 0 0) [(.int .i64 v14), (.str v16), (.int .i64 v18), (.int .i64 v20)] fun h_5 =>
        ifT (!v12) (
          ldN 4 h_5 (.ptr r1 0 0) fun l_13 =>
          tCons l_13 fun v21 l_14 =>
          tInt .i64 v21 fun v22 =>
          tCons l_14 fun v23 l_15 =>
          tStr v23 fun v24 =>
          tCons l_15 fun v25 l_16 =>
          tInt .i64 v25 fun v26 =>
          tCons l_16 fun v27 l_17 =>
          tInt .i64 v27 fun v28 =>
          tNil l_17 (
            st false h_5 (.ptr r 0 0) [(.int .i64 v22), (.str v24), (.int .i64 v26), (.int .i64 v28)] fun h_6 =>
            ldN 4 h_6 (.ptr r 0 0) fun l_18 =>
            tCons l_18 fun v29 l_19 =>
            tInt .i64 v29 fun v30 =>
            tCons l_19 fun v31 l_20 =>
            tStr v31 fun v32 =>
            tCons l_20 fun v33 l_21 =>
            tInt .i64 v33 fun v34 =>
            tCons l_21 fun v35 l_22 =>
            tInt .i64 v35 fun v36 =>
            tNil l_22 (
              retG (.tuple [(.agg [(.int .i64 v30), (.str v32), (.int .i64 v34), (.int .i64 v36)]), (.int .i64 31)]) h_6 Ψ))) (
          ldN 4 h_5 (.ptr r1 0 0) fun l_23 =>
          tCons l_23 fun v37 l_24 =>
          tInt .i64 v37 fun v38 =>
          tCons l_24 fun v39 l_25 =>
          tStr v39 fun v40 =>
          tCons l_25 fun v41 l_26 =>
          tInt .i64 v41 fun v42 =>
          tCons l_26 fun v43 l_27 =>
          tInt .i64 v43 fun v44 =>
          tNil l_27 (
            st false h_5 (.ptr r 0 0) [(.int .i64 v38), (.str v40), (.int .i64 v42), (.int .i64 v44)] fun h_7 =>
            ldN 4 h_7 (.ptr r 0 0) fun l_28 =>
            tCons l_28 fun v45 l_29 =>
            tInt .i64 v45 fun v46 =>
            tCons l_29 fun v47 l_30 =>
            tStr v47 fun v48 =>
            tCons l_30 fun v49 l_31 =>
            tInt .i64 v49 fun v50 =>
            tCons l_31 fun v51 l_32 =>
            tInt .i64 v51 fun v52 =>
            tNil l_32 (
              retG (.tuple [(.agg [(.int .i64 v46), (.str v48), (.int .i64 v50), (.int .i64 v52)]), (.int .i64 0)]) h_7 Ψ))))))

def s78_A (Ψ : AVal → Heap → Prop) : Ann :=
  .seq (rA 2)
  (.seq (.seq (rA 3)
  (.cond (.seq (rA 3)
  (.leaf))
  (.leaf)))
  (.seq (rA 9)
  (.seq (.seq (rA 2)
  (.cond (.seq (rA 3)
  (.leaf))
  (.leaf)))
  (.seq (rA 3)
  (.leaf)))))

theorem s78_ok {Ψ : AVal → Heap → Prop} {t : AVal} {id_ : Int} {h : Heap} (H : s78 Ψ t id_ h) : ACalls prog 78 [t, (.int .i64 id_)] h Ψ :=
  calls_of_evF func78 (by kernel_rfl) (by kernel_rfl) (by kernel_rfl)
    (Eq.mpr (by as_aux_lemma => kernel_rfl : oblF prog f78 (s78_A Ψ) Ψ = (True ∧ (True ∧ (True ∧ True) ∧ True) ∧ True ∧ (True ∧ (True ∧ True) ∧ True) ∧ True ∧ True)) ⟨trivial, ⟨⟨trivial, ⟨⟨trivial, trivial⟩, trivial⟩⟩, ⟨trivial, ⟨⟨trivial, ⟨⟨trivial, trivial⟩, trivial⟩⟩, ⟨trivial, trivial⟩⟩⟩⟩⟩)
    (Eq.mpr (by as_aux_lemma => kernel_rfl : evF prog f78 (s78_A Ψ) Ψ [t, (.int .i64 id_)] h = s78 Ψ t id_ h) H)

/- 80 (*dictum/formula.Table).Below$1 -/
def s80 (Ψ : AVal → Heap → Prop) (id_ : Int) (c0 : AVal) (c1 : AVal) (c2 : AVal) (h : Heap) : Prop :=
  ld1 h c0 fun v =>
  mapGet (.int .i64 0) h v (.int .i64 id_) fun v1 b =>
  tInt .i64 v1 fun v2 =>
  ifT (decide (0 < v2)) (
    retG (.tuple []) h Ψ) (
    ld1 h c0 fun v3 =>
    mapPut h v3 (.int .i64 id_) (.int .i64 1) fun h_ =>
    ld1 h_ c1 fun v4 =>
    nilCheckA v4 fun p =>
    addOff p 0 fun p1 =>
    ld1 h_ p1 fun v5 =>
    ixS 4 v5 id_ fun p2 =>
    ldN 4 h_ p2 fun l_ =>
    tCons l_ fun v6 l_1 =>
    tInt .i64 v6 fun v7 =>
    tCons l_1 fun v8 l_2 =>
    tStr v8 fun v9 =>
    tCons l_2 fun v10 l_3 =>
    tInt .i64 v10 fun v11 =>
    tCons l_3 fun v12 l_4 =>
    tInt .i64 v12 fun v13 =>
    tNil l_4 (
      Sym.newRow 4 [(.agg [(.int .i64 0), (.str (ByteArray.mk #[])), (.int .i64 0), (.int .i64 0)])] h_ fun r h_1 =>
      st false h_1 (.ptr r 0 0) [(.int .i64 v7), (.str v9), (.int .i64 v11), (.int .i64 v13)] fun h_2 =>
      ld1 h_2 (.ptr r 0 0) fun v14 =>
      tInt .i64 v14 fun v15 =>
      ifT (decide (3 ≤ v15)) (
        ld1 h_2 c2 fun v16 =>
        ld1 h_2 (.ptr r 0 2) fun v17 =>
        tInt .i64 v17 fun v18 =>
        callV prog v16 [(.int .i64 v18)] h_2 fun v19 h_3 =>
        ld1 h_3 c2 fun v20 =>
        ld1 h_3 (.ptr r 0 3) fun v21 =>
        tInt .i64 v21 fun v22 =>
        callV prog v20 [(.int .i64 v22)] h_3 fun v23 h_4 =>
        retG (.tuple []) h_4 Ψ) (
        retG (.tuple []) h_2 Ψ)))

def s80_A (Ψ : AVal → Heap → Prop) : Ann :=
  .seq (.seq (rA 4)
  (.cond (.leaf)
  (.leaf)))
  (.seq (rA 3)
  (.seq (rA 9)
  (.seq (rA 3)
  (.cond (.seq (rA 4)
  (rA 4))
  (.leaf)))))

theorem s80_ok {Ψ : AVal → Heap → Prop} {id_ : Int} {c0 : AVal} {c1 : AVal} {c2 : AVal} {h : Heap} (H : s80 Ψ id_ c0 c1 c2 h) : ACalls prog 80 [(.int .i64 id_), c0, c1, c2] h Ψ :=
  calls_of_evF func80 (by kernel_rfl) (by kernel_rfl) (by kernel_rfl)
    (Eq.mpr (by as_aux_lemma => kernel_rfl : oblF prog f80 (s80_A Ψ) Ψ = ((True ∧ True ∧ True) ∧ True ∧ True ∧ True ∧ (True ∧ True) ∧ True)) ⟨⟨trivial, ⟨trivial, trivial⟩⟩, ⟨trivial, ⟨trivial, ⟨trivial, ⟨⟨trivial, trivial⟩, trivial⟩⟩⟩⟩⟩)
    (Eq.mpr (by as_aux_lemma => kernel_rfl : evF prog f80 (s80_A Ψ) Ψ [(.int .i64 id_), c0, c1, c2] h = s80 Ψ id_ c0 c1 c2 h) H)

/- 83 dictum/nishimura.far -/
def s83 (Ψ : AVal → Heap → Prop) (a_all : Bool) (a_low : Int) (a_gap : Bool) (b_all : Bool) (b_low : Int) (b_gap : Bool) (h : Heap) : Prop :=
  callG prog 104 [(.lsl 1 [(.int .i64 a_low), (.int .i64 b_low)])] h fun v h_ =>
  tInt .i64 v fun v1 =>
  rg (v1 + 3) (
    retG (.int .i64 (v1 + 3)) h_ Ψ)

def s83_A (Ψ : AVal → Heap → Prop) : Ann :=
  .seq (.reg [⟨none, [(0, true), (1, true), (2, false)]⟩])
  (.seq (.reg [⟨none, [(0, false), (1, false), (2, false), (3, false), (4, true), (5, false), (6, false), (7, false)]⟩])
  (.leaf))

theorem s83_ok {Ψ : AVal → Heap → Prop} {a_all : Bool} {a_low : Int} {a_gap : Bool} {b_all : Bool} {b_low : Int} {b_gap : Bool} {h : Heap} (H : s83 Ψ a_all a_low a_gap b_all b_low b_gap h) : ACalls prog 83 [(.agg [(.bool a_all), (.int .i64 a_low), (.bool a_gap)]), (.agg [(.bool b_all), (.int .i64 b_low), (.bool b_gap)])] h Ψ :=
  calls_of_evF func83 (by kernel_rfl) (by kernel_rfl) (by kernel_rfl)
    (Eq.mpr (by as_aux_lemma => kernel_rfl : oblF prog f83 (s83_A Ψ) Ψ = (True ∧ True ∧ True)) ⟨trivial, ⟨trivial, trivial⟩⟩)
    (Eq.mpr (by as_aux_lemma => kernel_rfl : evF prog f83 (s83_A Ψ) Ψ [(.agg [(.bool a_all), (.int .i64 a_low), (.bool a_gap)]), (.agg [(.bool b_all), (.int .i64 b_low), (.bool b_gap)])] h = s83 Ψ a_all a_low a_gap b_all b_low b_gap h) H)

/- 85 (dictum/nishimura.rung).has -/
def s85 (Ψ : AVal → Heap → Prop) (r_all : Bool) (r_low : Int) (r_gap : Bool) (w : Int) (h : Heap) : Prop :=
  ifT r_all (
    retG (.bool true) h Ψ) (
    ifT (decide (w < r_low)) (
      retG (.bool true) h Ψ) (
      ifT r_gap (
        rg (r_low + 1) (
          retG (.bool (w == (r_low + 1))) h Ψ)) (
        retG (.bool false) h Ψ)))

def s85_A (Ψ : AVal → Heap → Prop) : Ann :=
  .seq (.reg [⟨none, [(0, true), (1, false)]⟩])
  (.seq (.reg [⟨none, [(0, false), (1, false), (2, false)]⟩, ⟨some (7, false), [(3, false), (4, false), (5, false), (6, false)]⟩, ⟨none, [(7, false), (8, false)]⟩, ⟨some (13, false), [(9, false), (10, false), (11, false)]⟩, ⟨some (16, true), [(12, false), (13, false), (14, false), (15, false), (16, false)]⟩, ⟨some (13, false), [(17, false)]⟩, ⟨none, [(18, false), (19, false)]⟩])
  (.leaf))

theorem s85_ok {Ψ : AVal → Heap → Prop} {r_all : Bool} {r_low : Int} {r_gap : Bool} {w : Int} {h : Heap} (H : s85 Ψ r_all r_low r_gap w h) : ACalls prog 85 [(.agg [(.bool r_all), (.int .i64 r_low), (.bool r_gap)]), (.int .i64 w)] h Ψ :=
  calls_of_evF func85 (by kernel_rfl) (by kernel_rfl) (by kernel_rfl)
    (Eq.mpr (by as_aux_lemma => kernel_rfl : oblF prog f85 (s85_A Ψ) Ψ = (True ∧ True ∧ True)) ⟨trivial, ⟨trivial, trivial⟩⟩)
    (Eq.mpr (by as_aux_lemma => kernel_rfl : evF prog f85 (s85_A Ψ) Ψ [(.agg [(.bool r_all), (.int .i64 r_low), (.bool r_gap)]), (.int .i64 w)] h = s85 Ψ r_all r_low r_gap w h) H)

/- 87 dictum/nishimura.imp$1 -/
def s87 (Ψ : AVal → Heap → Prop) (w : Int) (c0 : AVal) (c1 : AVal) (h : Heap) : Prop :=
  ldN 3 h c0 fun l_ =>
  tCons l_ fun v l_1 =>
  tBool v fun v1 =>
  tCons l_1 fun v2 l_2 =>
  tInt .i64 v2 fun v3 =>
  tCons l_2 fun v4 l_3 =>
  tBool v4 fun v5 =>
  tNil l_3 (
    callG prog 85 [(.agg [(.bool v1), (.int .i64 v3), (.bool v5)]), (.int .i64 w)] h fun v6 h_ =>
    tBool v6 fun v7 =>
    ifT v7 (
      ldN 3 h_ c1 fun l_4 =>
      tCons l_4 fun v8 l_5 =>
      tBool v8 fun v9 =>
      tCons l_5 fun v10 l_6 =>
      tInt .i64 v10 fun v11 =>
      tCons l_6 fun v12 l_7 =>
      tBool v12 fun v13 =>
      tNil l_7 (
        callG prog 85 [(.agg [(.bool v9), (.int .i64 v11), (.bool v13)]), (.int .i64 w)] h_ fun v14 h_1 =>
        tBool v14 fun v15 =>
        retG (.bool (!v15)) h_1 Ψ)) (
      retG (.bool false) h_ Ψ))

def s87_A (Ψ : AVal → Heap → Prop) : Ann :=
  .seq (rA 1)
  (.seq (.reg [⟨none, [(0, false), (1, false), (2, false), (3, false)]⟩, ⟨some (8, true), [(4, false), (5, false), (6, false), (7, false)]⟩, ⟨none, [(8, false), (9, false)]⟩])
  (.leaf))

theorem s87_ok {Ψ : AVal → Heap → Prop} {w : Int} {c0 : AVal} {c1 : AVal} {h : Heap} (H : s87 Ψ w c0 c1 h) : ACalls prog 87 [(.int .i64 w), c0, c1] h Ψ :=
  calls_of_evF func87 (by kernel_rfl) (by kernel_rfl) (by kernel_rfl)
    (Eq.mpr (by as_aux_lemma => kernel_rfl : oblF prog f87 (s87_A Ψ) Ψ = (True ∧ True ∧ True)) ⟨trivial, ⟨trivial, trivial⟩⟩)
    (Eq.mpr (by as_aux_lemma => kernel_rfl : evF prog f87 (s87_A Ψ) Ψ [(.int .i64 w), c0, c1] h = s87 Ψ w c0 c1 h) H)

/- 91 dictum/dictumref26.named -/
abbrev s91l1_T := AVal → Int → Bool → Int → Heap → Prop
def s91l1_R (F : s91l1_T) (l : List AVal) (h : Heap) : Prop := J.cons l fun x0 l => J.cons l fun v l => J.int .i64 v fun x1 => J.cons l fun v l => J.bool v fun x2 => J.cons l fun v l => J.int .i64 v fun x3 => J.nil l (F x0 x1 x2 x3 h)
def s91l1_G (F : s91l1_T) (x0 : AVal) (x1 : Int) (x2 : Bool) (x3 : Int) (h : Heap) : Prop := gJ [.any, .int .i64, .bool, .int .i64] [x0, (.int .i64 x1), (.bool x2), (.int .i64 x3)] h (s91l1_R F)
def s91l1_E (F : Nat → s91l1_T) (x0 : AVal) (x1 : Int) (x2 : Bool) (x3 : Int) (h : Heap) : Prop := gJ [.any, .int .i64, .bool, .int .i64] [x0, (.int .i64 x1), (.bool x2), (.int .i64 x3)] h (fun l h => ∃ n, s91l1_R (F n) l h)
theorem s91l1_go {F : s91l1_T} {x0 : AVal} {x1 : Int} {x2 : Bool} {x3 : Int} {h : Heap} (H : F x0 x1 x2 x3 h) : s91l1_G F x0 x1 x2 x3 h := gJ_plain rfl H
theorem s91l1_in {F : Nat → s91l1_T} {x0 : AVal} {x1 : Int} {x2 : Bool} {x3 : Int} {h : Heap} (n : Nat) (H : F n x0 x1 x2 x3 h) : s91l1_E F x0 x1 x2 x3 h := gJ_plain rfl ⟨n, H⟩

def s91c2 (Ψ : AVal → Heap → Prop) (L1 : s91l1_T) (in_2 : AVal) (n3 : Int) (all1 : Bool) (w1 : Int) (h : Heap) : Prop :=
  rg (w1 + 1) (
    L1 in_2 n3 all1 (w1 + 1) h)

abbrev s91l3_T := AVal → Int → Int → Heap → Prop
def s91l3_R (F : s91l3_T) (l : List AVal) (h : Heap) : Prop := J.cons l fun x0 l => J.cons l fun v l => J.int .i64 v fun x1 => J.cons l fun v l => J.int .i64 v fun x2 => J.nil l (F x0 x1 x2 h)
def s91l3_G (F : s91l3_T) (x0 : AVal) (x1 x2 : Int) (h : Heap) : Prop := gJ [.any, .int .i64, .int .i64] [x0, (.int .i64 x1), (.int .i64 x2)] h (s91l3_R F)
def s91l3_E (F : Nat → s91l3_T) (x0 : AVal) (x1 x2 : Int) (h : Heap) : Prop := gJ [.any, .int .i64, .int .i64] [x0, (.int .i64 x1), (.int .i64 x2)] h (fun l h => ∃ n, s91l3_R (F n) l h)
theorem s91l3_go {F : s91l3_T} {x0 : AVal} {x1 x2 : Int} {h : Heap} (H : F x0 x1 x2 h) : s91l3_G F x0 x1 x2 h := gJ_plain rfl H
theorem s91l3_in {F : Nat → s91l3_T} {x0 : AVal} {x1 x2 : Int} {h : Heap} (n : Nat) (H : F n x0 x1 x2 h) : s91l3_E F x0 x1 x2 h := gJ_plain rfl ⟨n, H⟩

abbrev s91l4_T := AVal → Int → Int → Bool → Int → Heap → Prop
def s91l4_R (F : s91l4_T) (l : List AVal) (h : Heap) : Prop := J.cons l fun x0 l => J.cons l fun v l => J.int .i64 v fun x1 => J.cons l fun v l => J.int .i64 v fun x2 => J.cons l fun v l => J.bool v fun x3 => J.cons l fun v l => J.int .i64 v fun x4 => J.nil l (F x0 x1 x2 x3 x4 h)
def s91l4_G (F : s91l4_T) (x0 : AVal) (x1 x2 : Int) (x3 : Bool) (x4 : Int) (h : Heap) : Prop := gJ [.any, .int .i64, .int .i64, .bool, .int .i64] [x0, (.int .i64 x1), (.int .i64 x2), (.bool x3), (.int .i64 x4)] h (s91l4_R F)
def s91l4_E (F : Nat → s91l4_T) (x0 : AVal) (x1 x2 : Int) (x3 : Bool) (x4 : Int) (h : Heap) : Prop := gJ [.any, .int .i64, .int .i64, .bool, .int .i64] [x0, (.int .i64 x1), (.int .i64 x2), (.bool x3), (.int .i64 x4)] h (fun l h => ∃ n, s91l4_R (F n) l h)
theorem s91l4_go {F : s91l4_T} {x0 : AVal} {x1 x2 : Int} {x3 : Bool} {x4 : Int} {h : Heap} (H : F x0 x1 x2 x3 x4 h) : s91l4_G F x0 x1 x2 x3 x4 h := gJ_plain rfl H
theorem s91l4_in {F : Nat → s91l4_T} {x0 : AVal} {x1 x2 : Int} {x3 : Bool} {x4 : Int} {h : Heap} (n : Nat) (H : F n x0 x1 x2 x3 x4 h) : s91l4_E F x0 x1 x2 x3 x4 h := gJ_plain rfl ⟨n, H⟩

def s91c5 (Ψ : AVal → Heap → Prop) (L3 : s91l3_T) (L4 : s91l4_T) (in_5 : AVal) (n8 k2 : Int) (same1 : Bool) (w3 : Int) (t36 : Bool) (h : Heap) : Prop :=
  ifT t36 (
    ixS 1 in_5 w3 fun p1 =>
    ld1 h p1 fun v2 =>
    tBool v2 fun v3 =>
    callG prog 20 [(.int .i64 k2), (.int .i64 w3)] h fun v4 h_ =>
    tBool v4 fun v5 =>
    (ld1 h_ p1 fun v6 =>
    v6 = (.bool v3)) ∧
    eqQ prog 4 (.bool v5) (.bool v3) fun b =>
    rg (w3 + 1) (
      L4 in_5 n8 k2 b (w3 + 1) h_)) (
    ifT same1 (
      retG (.tuple [(.int .i64 k2), (.bool true)]) h Ψ) (
      rg (k2 + 1) (
        L3 in_5 n8 (k2 + 1) h)))

def s91l4 (Ψ : AVal → Heap → Prop) (L3 : s91l3_T) : Nat → s91l4_T
  | 0, _, _, _, _, _, _ => False
  | n7 + 1, in_4, n6, k1, same, w2, h =>
    ifT (decide (w2 < n6)) (
      s91c5 Ψ L3 (s91l4_G (s91l4 Ψ L3 n7)) in_4 n6 k1 same w2 same h) (
      s91c5 Ψ L3 (s91l4_G (s91l4 Ψ L3 n7)) in_4 n6 k1 same w2 false h)

def s91l3 (Ψ : AVal → Heap → Prop) : Nat → s91l3_T
  | 0, _, _, _, _ => False
  | n5 + 1, in_3, n4, k, h =>
    rg (2 * n4) (
      ifT (decide (k < (2 * n4))) (
        s91l4_E (s91l4 Ψ (s91l3_G (s91l3 Ψ n5))) in_3 n4 k true 0 h) (
        retG (.tuple [(.int .i64 0), (.bool false)]) h Ψ))

def s91l1 (Ψ : AVal → Heap → Prop) : Nat → s91l1_T
  | 0, _, _, _, _, _ => False
  | n2 + 1, in_1, n1, all, w, h =>
    ifT (decide (w < n1)) (
      ifT all (
        ixS 1 in_1 w fun p =>
        ld1 h p fun v =>
        tBool v fun v1 =>
        s91c2 Ψ (s91l1_G (s91l1 Ψ n2)) in_1 n1 v1 w h) (
        s91c2 Ψ (s91l1_G (s91l1 Ψ n2)) in_1 n1 false w h)) (
      ifT all (
        retG (.tuple [(.int .i64 (-1)), (.bool true)]) h Ψ) (
        s91l3_E (s91l3 Ψ) in_1 n1 0 h))

def s91 (Ψ : AVal → Heap → Prop) (in_ : AVal) (h : Heap) : Prop :=
  lenN in_ fun n =>
  s91l1_E (s91l1 Ψ) in_ n true 0 h

def s91_A (Ψ : AVal → Heap → Prop) : Ann :=
  .seq (rA 2)
  (.seq (rA 3)
  (.seq (rA 1)
  (.seq (.seq (rA 1)
  (.block (.loop [(0, .any), (4, .int .i64), (5, .bool), (6, .int .i64)] (fun n l h => s91l1_R (s91l1 Ψ n) l h) (fun L1 =>
  .seq (.seq (rA 3)
  (.cond (.leaf)
  (.leaf)))
  (.cut [(0, .any), (4, .int .i64), (5, .bool), (6, .int .i64)] (fun l h => J.cons l fun x0 l => J.cons l fun v l => J.int .i64 v fun x1 => J.cons l fun v l => J.bool v fun x2 => J.cons l fun v l => J.int .i64 v fun x3 => J.nil l (s91c2 Ψ (fun y0 y1 y2 y3 h => L1 [y0, (.int .i64 y1), (.bool y2), (.int .i64 y3)] h) x0 x1 x2 x3 h)) (.block (.reg [⟨none, [(0, false), (1, false)]⟩, ⟨some (18, true), [(2, false), (3, false), (4, false), (5, false)]⟩, ⟨none, [(6, false), (7, false)]⟩]))
  (rA 3))))))
  (.seq (.seq (rA 1)
  (.cond (.seq (rA 2)
  (.leaf))
  (.leaf)))
  (.seq (.seq (rA 1)
  (.block (.loop [(0, .any), (4, .int .i64), (7, .int .i64)] (fun n l h => s91l3_R (s91l3 Ψ n) l h) (fun L3 =>
  .seq (.seq (rA 4)
  (.cond (.leaf)
  (.leaf)))
  (.seq (.block (.seq (rA 1)
  (.seq (.seq (rA 1)
  (.block (.loop [(0, .any), (4, .int .i64), (7, .int .i64), (8, .bool), (9, .int .i64)] (fun n l h => s91l4_R (s91l4 Ψ (fun y0 y1 y2 h => L3 [y0, (.int .i64 y1), (.int .i64 y2)] h) n) l h) (fun L4 =>
  .seq (.cut [(0, .any), (4, .int .i64), (7, .int .i64), (8, .bool), (9, .int .i64), (36, .bool)] (fun l h => J.cons l fun x0 l => J.cons l fun v l => J.int .i64 v fun x1 => J.cons l fun v l => J.int .i64 v fun x2 => J.cons l fun v l => J.bool v fun x3 => J.cons l fun v l => J.int .i64 v fun x4 => J.cons l fun v l => J.bool v fun x5 => J.nil l (s91c5 Ψ (fun y0 y1 y2 h => L3 [y0, (.int .i64 y1), (.int .i64 y2)] h) (fun y0 y1 y2 y3 y4 h => L4 [y0, (.int .i64 y1), (.int .i64 y2), (.bool y3), (.int .i64 y4)] h) x0 x1 x2 x3 x4 x5 h)) (.reg [⟨none, [(0, false), (1, false), (2, false), (3, false)]⟩, ⟨some (34, true), [(4, false)]⟩, ⟨none, [(5, false)]⟩])
  (.cond (.leaf)
  (.leaf)))
  (.seq (.block (.draw [(0, false), (1, false), (3, false), (4, false), (5, false), (6, false), (2, false), (7, false), (8, false)] [0, 0, 3, 0, 0, 24, 56, 127, 255]))
  (rA 3))))))
  (.seq (rA 1)
  (.cond (.seq (rA 3)
  (.leaf))
  (.leaf))))))
  (rA 3))))))
  (.seq (rA 2)
  (.leaf)))))))

theorem s91_ok {Ψ : AVal → Heap → Prop} {in_ : AVal} {h : Heap} (H : s91 Ψ in_ h) : ACalls prog 91 [in_] h Ψ :=
  calls_of_evF func91 (by kernel_rfl) (by kernel_rfl) (by kernel_rfl)
    (Eq.mpr (by as_aux_lemma => kernel_rfl : oblF prog f91 (s91_A Ψ) Ψ = (True ∧ True ∧ True ∧ (True ∧ (∀ (h : Heap) (x0 : AVal) (x1 : Int) (x2 : Bool) (x3 : Int), ON (s91l1 Ψ 0 x0 x1 x2 x3 h)) ∧ ∀ n1 : Nat, (∀ (h : Heap) (x0 : AVal) (x1 : Int) (x2 : Bool) (x3 : Int), OI (s91l1 Ψ (n1 + 1) x0 x1 x2 x3 h)) ∧ ((True ∧ True ∧ True) ∧ (True) ∧ (∀ (h : Heap) (x0 : AVal) (x1 : Int) (x2 : Bool) (x3 : Int), OI (s91c2 Ψ (s91l1_G (s91l1 Ψ n1)) x0 x1 x2 x3 h)) ∧ (True))) ∧ (True ∧ (True ∧ True) ∧ True) ∧ (True ∧ (∀ (h : Heap) (x0 : AVal) (x1 x2 : Int), ON (s91l3 Ψ 0 x0 x1 x2 h)) ∧ ∀ n3 : Nat, (∀ (h : Heap) (x0 : AVal) (x1 x2 : Int), OI (s91l3 Ψ (n3 + 1) x0 x1 x2 h)) ∧ ((True ∧ True ∧ True) ∧ (True ∧ (True ∧ (∀ (h : Heap) (x0 : AVal) (x1 x2 : Int) (x3 : Bool) (x4 : Int), ON (s91l4 Ψ (s91l3_G (s91l3 Ψ n3)) 0 x0 x1 x2 x3 x4 h)) ∧ ∀ n4 : Nat, (∀ (h : Heap) (x0 : AVal) (x1 x2 : Int) (x3 : Bool) (x4 : Int), OI (s91l4 Ψ (s91l3_G (s91l3 Ψ n3)) (n4 + 1) x0 x1 x2 x3 x4 h)) ∧ (((True) ∧ (∀ (h : Heap) (x0 : AVal) (x1 x2 : Int) (x3 : Bool) (x4 : Int) (x5 : Bool), OI (s91c5 Ψ (s91l3_G (s91l3 Ψ n3)) (s91l4_G (s91l4 Ψ (s91l3_G (s91l3 Ψ n3)) n4)) x0 x1 x2 x3 x4 x5 h)) ∧ (True ∧ True)) ∧ True ∧ True)) ∧ True ∧ (True ∧ True) ∧ True) ∧ True)) ∧ True ∧ True)) ⟨trivial, ⟨trivial, ⟨trivial, ⟨⟨trivial, ⟨fun _ _ _ _ _ H => H, fun _ => ⟨fun _ _ _ _ _ H => H, ⟨⟨trivial, ⟨trivial, trivial⟩⟩, ⟨trivial, fun _ _ _ _ _ H => H, trivial⟩⟩⟩⟩⟩, ⟨⟨trivial, ⟨⟨trivial, trivial⟩, trivial⟩⟩, ⟨⟨trivial, ⟨fun _ _ _ _ H => H, fun _ => ⟨fun _ _ _ _ H => H, ⟨⟨trivial, ⟨trivial, trivial⟩⟩, ⟨⟨trivial, ⟨⟨trivial, ⟨fun _ _ _ _ _ _ H => H, fun _ => ⟨fun _ _ _ _ _ _ H => H, ⟨⟨trivial, fun _ _ _ _ _ _ _ H => H, ⟨trivial, trivial⟩⟩, ⟨trivial, trivial⟩⟩⟩⟩⟩, ⟨trivial, ⟨⟨trivial, trivial⟩, trivial⟩⟩⟩⟩, trivial⟩⟩⟩⟩⟩, ⟨trivial, trivial⟩⟩⟩⟩⟩⟩⟩)
    (Eq.mpr (by as_aux_lemma => kernel_rfl : evF prog f91 (s91_A Ψ) Ψ [in_] h = s91 Ψ in_ h) H)

/- 93 dictum/worlds.Check -/
def s93 (Ψ : AVal → Heap → Prop) (m_Up : AVal) (m_Val : AVal) (h : Heap) : Prop :=
  callG prog 107 [(.agg [m_Up, m_Val]), .nilsl] h fun v h_ =>
  tTup v fun l_ =>
  tCons l_ fun v1 l_1 =>
  tCons l_1 fun v2 l_2 =>
  tInt .i64 v2 fun v3 =>
  tNil l_2 (
    retG (.int .i64 v3) h_ Ψ)

def s93_A (Ψ : AVal → Heap → Prop) : Ann :=
  .seq (.reg [⟨none, [(0, true), (1, false)]⟩])
  (.seq (rA 7)
  (.seq (rA 2)
  (.leaf)))

theorem s93_ok {Ψ : AVal → Heap → Prop} {m_Up : AVal} {m_Val : AVal} {h : Heap} (H : s93 Ψ m_Up m_Val h) : ACalls prog 93 [(.agg [m_Up, m_Val])] h Ψ :=
  calls_of_evF func93 (by kernel_rfl) (by kernel_rfl) (by kernel_rfl)
    (Eq.mpr (by as_aux_lemma => kernel_rfl : oblF prog f93 (s93_A Ψ) Ψ = (True ∧ True ∧ True ∧ True)) ⟨trivial, ⟨trivial, ⟨trivial, trivial⟩⟩⟩)
    (Eq.mpr (by as_aux_lemma => kernel_rfl : evF prog f93 (s93_A Ψ) Ψ [(.agg [m_Up, m_Val])] h = s93 Ψ m_Up m_Val h) H)

/- 95 slices.Contains[[]string,string] -/
def s95 (Ψ : AVal → Heap → Prop) (s : AVal) (v : ByteArray) (h : Heap) : Prop :=
  callG prog 108 [s, (.str v)] h fun v1 h_ =>
  tInt .i64 v1 fun v2 =>
  retG (.bool (decide (0 ≤ v2))) h_ Ψ

def s95_A (Ψ : AVal → Heap → Prop) : Ann :=
  .seq (rA 1)
  (.seq (rA 5)
  (.leaf))

theorem s95_ok {Ψ : AVal → Heap → Prop} {s : AVal} {v : ByteArray} {h : Heap} (H : s95 Ψ s v h) : ACalls prog 95 [s, (.str v)] h Ψ :=
  calls_of_evF func95 (by kernel_rfl) (by kernel_rfl) (by kernel_rfl)
    (Eq.mpr (by as_aux_lemma => kernel_rfl : oblF prog f95 (s95_A Ψ) Ψ = (True ∧ True ∧ True)) ⟨trivial, ⟨trivial, trivial⟩⟩)
    (Eq.mpr (by as_aux_lemma => kernel_rfl : evF prog f95 (s95_A Ψ) Ψ [s, (.str v)] h = s95 Ψ s v h) H)

/- 97 (*dictum/force.eye).forces$1 -/
def s97 (Ψ : AVal → Heap → Prop) (v : Int) (c0 : AVal) (c1 : AVal) (h : Heap) : Prop :=
  ld1 h c0 fun v1 =>
  addOff c1 2 fun p =>
  ld1 h p fun v2 =>
  tInt .i64 v2 fun v3 =>
  callG prog 53 [v1, (.int .i64 v), (.int .i64 v3)] h fun v4 h_ =>
  tBool v4 fun v5 =>
  ifT v5 (
    ld1 h_ c0 fun v6 =>
    addOff c1 3 fun p1 =>
    ld1 h_ p1 fun v7 =>
    tInt .i64 v7 fun v8 =>
    callG prog 53 [v6, (.int .i64 v), (.int .i64 v8)] h_ fun v9 h_1 =>
    tBool v9 fun v10 =>
    retG (.bool (!v10)) h_1 Ψ) (
    retG (.bool false) h_ Ψ)

def s97_A (Ψ : AVal → Heap → Prop) : Ann :=
  .seq (rA 1)
  (.seq (.reg [⟨none, [(0, false), (1, false), (2, false), (3, false), (4, false), (5, false)]⟩, ⟨some (10, true), [(6, false), (7, false), (8, false), (9, false), (10, false), (11, false)]⟩, ⟨none, [(12, false), (13, false)]⟩])
  (.leaf))

theorem s97_ok {Ψ : AVal → Heap → Prop} {v : Int} {c0 : AVal} {c1 : AVal} {h : Heap} (H : s97 Ψ v c0 c1 h) : ACalls prog 97 [(.int .i64 v), c0, c1] h Ψ :=
  calls_of_evF func97 (by kernel_rfl) (by kernel_rfl) (by kernel_rfl)
    (Eq.mpr (by as_aux_lemma => kernel_rfl : oblF prog f97 (s97_A Ψ) Ψ = (True ∧ True ∧ True)) ⟨trivial, ⟨trivial, trivial⟩⟩)
    (Eq.mpr (by as_aux_lemma => kernel_rfl : evF prog f97 (s97_A Ψ) Ψ [(.int .i64 v), c0, c1] h = s97 Ψ v c0 c1 h) H)

/- 99 (*dictum/formula.Table).Put -/
def s99 (Ψ : AVal → Heap → Prop) (t : AVal) (n_Kind : Int) (n_Name : ByteArray) (n_L : Int) (n_R : Int) (h : Heap) : Prop :=
  callG prog 56 [t] h fun v h_ =>
  tBool v fun v1 =>
  ifT (!v1) (
    retG (.tuple [(.int .i64 0), (.int .i64 1)]) h_ Ψ) (
    callG prog 111 [t, (.agg [(.int .i64 n_Kind), (.str n_Name), (.int .i64 n_L), (.int .i64 n_R)])] h_ fun v2 h_1 =>
    tInt .i64 v2 fun v3 =>
    ifT (v3 != 0) (
      retG (.tuple [(.int .i64 0), (.int .i64 v3)]) h_1 Ψ) (
      nilCheckA t fun p =>
      addOff p 1 fun p1 =>
      ld1 h_1 p1 fun v4 =>
      mapGet (.int .i64 0) h_1 v4 (.agg [(.int .i64 n_Kind), (.str n_Name), (.int .i64 n_L), (.int .i64 n_R)]) fun v5 b =>
      tInt .i64 v5 fun v6 =>
      ifT b (
        retG (.tuple [(.int .i64 v6), (.int .i64 0)]) h_1 Ψ) (
        nilCheckA t fun p2 =>
        addOff p2 0 fun p3 =>
        ld1 h_1 p3 fun v7 =>
        lenN v7 fun n =>
        ifT (decide (1024 ≤ n)) (
          retG (.tuple [(.int .i64 0), (.int .i64 30)]) h_1 Ψ) (
          nilCheckA t fun p4 =>
          addOff p4 0 fun p5 =>
          ld1 h_1 p5 fun v8 =>
          (ld1 h_1 p5 fun v9 =>
          v9 = v8) ∧
          appC 4 40 h_1 v8 (.lsl 4 [(.agg [(.int .i64 n_Kind), (.str n_Name), (.int .i64 n_L), (.int .i64 n_R)])]) fun v10 h_2 =>
          nilCheckA t fun p6 =>
          addOff p6 0 fun p7 =>
          chk (sc v10) (
            st true h_2 p7 [v10] fun h_3 =>
            nilCheckA t fun p8 =>
            addOff p8 1 fun p9 =>
            ld1 h_3 p9 fun v11 =>
            mapPut h_3 v11 (.agg [(.int .i64 n_Kind), (.str n_Name), (.int .i64 n_L), (.int .i64 n_R)]) (.int .i64 n) fun h_4 =>
            retG (.tuple [(.int .i64 n), (.int .i64 0)]) h_4 Ψ)))))

def s99_A (Ψ : AVal → Heap → Prop) : Ann :=
  .seq (.reg [⟨none, [(0, true), (1, false), (2, false)]⟩])
  (.seq (.seq (rA 3)
  (.cond (.seq (rA 2)
  (.leaf))
  (.leaf)))
  (.seq (.seq (rA 4)
  (.seq (rA 2)
  (.cond (.seq (rA 3)
  (.leaf))
  (.leaf))))
  (.seq (.seq (.draw [(0, false), (1, false), (2, false), (3, false), (4, false), (5, false), (6, false), (7, false), (8, false), (9, false), (10, false)] [0, 1, 3, 7, 0, 31, 63, 127, 127, 255, 1023])
  (.seq (rA 1)
  (.cond (.seq (rA 3)
  (.leaf))
  (.leaf))))
  (.seq (rA 6)
  (.seq (.seq (rA 2)
  (.cond (.seq (rA 2)
  (.leaf))
  (.leaf)))
  (.seq (.draw [(0, false), (1, false), (2, false), (3, false), (4, false), (5, false), (6, true), (7, false), (8, false), (9, false), (10, false)] [0, 0, 2, 6, 14, 0, 32, 126, 255, 511, 1023])
  (.seq (.draw [(0, false), (1, false), (2, false), (3, false), (4, false), (5, false), (6, false)] [0, 1, 3, 7, 0, 0, 63])
  (.seq (rA 3)
  (.leaf)))))))))

theorem s99_ok {Ψ : AVal → Heap → Prop} {t : AVal} {n_Kind : Int} {n_Name : ByteArray} {n_L : Int} {n_R : Int} {h : Heap} (H : s99 Ψ t n_Kind n_Name n_L n_R h) : ACalls prog 99 [t, (.agg [(.int .i64 n_Kind), (.str n_Name), (.int .i64 n_L), (.int .i64 n_R)])] h Ψ :=
  calls_of_evF func99 (by kernel_rfl) (by kernel_rfl) (by kernel_rfl)
    (Eq.mpr (by as_aux_lemma => kernel_rfl : oblF prog f99 (s99_A Ψ) Ψ = (True ∧ (True ∧ (True ∧ True) ∧ True) ∧ (True ∧ True ∧ (True ∧ True) ∧ True) ∧ (True ∧ True ∧ (True ∧ True) ∧ True) ∧ True ∧ (True ∧ (True ∧ True) ∧ True) ∧ True ∧ True ∧ True ∧ True)) ⟨trivial, ⟨⟨trivial, ⟨⟨trivial, trivial⟩, trivial⟩⟩, ⟨⟨trivial, ⟨trivial, ⟨⟨trivial, trivial⟩, trivial⟩⟩⟩, ⟨⟨trivial, ⟨trivial, ⟨⟨trivial, trivial⟩, trivial⟩⟩⟩, ⟨trivial, ⟨⟨trivial, ⟨⟨trivial, trivial⟩, trivial⟩⟩, ⟨trivial, ⟨trivial, ⟨trivial, trivial⟩⟩⟩⟩⟩⟩⟩⟩⟩)
    (Eq.mpr (by as_aux_lemma => kernel_rfl : evF prog f99 (s99_A Ψ) Ψ [t, (.agg [(.int .i64 n_Kind), (.str n_Name), (.int .i64 n_L), (.int .i64 n_R)])] h = s99 Ψ t n_Kind n_Name n_L n_R h) H)

/- 101 slices.pdqsortOrdered[string] -/
abbrev s101l1_T := AVal → Int → Int → Int → Bool → Bool → Heap → Prop
def s101l1_R (F : s101l1_T) (l : List AVal) (h : Heap) : Prop := J.cons l fun x0 l => J.cons l fun v l => J.int .i64 v fun x1 => J.cons l fun v l => J.int .i64 v fun x2 => J.cons l fun v l => J.int .i64 v fun x3 => J.cons l fun v l => J.bool v fun x4 => J.cons l fun v l => J.bool v fun x5 => J.nil l (F x0 x1 x2 x3 x4 x5 h)
def s101l1_G (F : s101l1_T) (x0 : AVal) (x1 x2 x3 : Int) (x4 x5 : Bool) (h : Heap) : Prop := gJ [.any, .int .i64, .int .i64, .int .i64, .bool, .bool] [x0, (.int .i64 x1), (.int .i64 x2), (.int .i64 x3), (.bool x4), (.bool x5)] h (s101l1_R F)
def s101l1_E (F : Nat → s101l1_T) (x0 : AVal) (x1 x2 x3 : Int) (x4 x5 : Bool) (h : Heap) : Prop := gJ [.any, .int .i64, .int .i64, .int .i64, .bool, .bool] [x0, (.int .i64 x1), (.int .i64 x2), (.int .i64 x3), (.bool x4), (.bool x5)] h (fun l h => ∃ n, s101l1_R (F n) l h)
theorem s101l1_go {F : s101l1_T} {x0 : AVal} {x1 x2 x3 : Int} {x4 x5 : Bool} {h : Heap} (H : F x0 x1 x2 x3 x4 x5 h) : s101l1_G F x0 x1 x2 x3 x4 x5 h := gJ_plain rfl H
theorem s101l1_in {F : Nat → s101l1_T} {x0 : AVal} {x1 x2 x3 : Int} {x4 x5 : Bool} {h : Heap} (n : Nat) (H : F n x0 x1 x2 x3 x4 x5 h) : s101l1_E F x0 x1 x2 x3 x4 x5 h := gJ_plain rfl ⟨n, H⟩

def s101c5 (Ψ : AVal → Heap → Prop) (L1 : s101l1_T) (data5 : AVal) (a5 b5 limit5 : Int) (wasBalanced4 wasPartitioned4 : Bool) (length3 pivot2 : Int) (t87 : Bool) (h : Heap) : Prop :=
  ifT t87 (
    callG prog 119 [data5, (.int .i64 a5), (.int .i64 b5), (.int .i64 pivot2)] h fun v7 h_3 =>
    tInt .i64 v7 fun v8 =>
    L1 data5 v8 b5 limit5 wasBalanced4 wasPartitioned4 h_3) (
    callG prog 120 [data5, (.int .i64 a5), (.int .i64 b5), (.int .i64 pivot2)] h fun v9 h_4 =>
    tTup v9 fun l_3 =>
    tCons l_3 fun v10 l_4 =>
    tInt .i64 v10 fun v11 =>
    tCons l_4 fun v12 l_5 =>
    tBool v12 fun v13 =>
    tNil l_5 (
      rg (v11 - a5) (
        rg (b5 - v11) (
          8 ≠ (0 : Int) ∧
          rg (Int.tdiv length3 8) (
            ifT (decide ((v11 - a5) < (b5 - v11))) (
              callG prog 101 [data5, (.int .i64 a5), (.int .i64 v11), (.int .i64 limit5)] h_4 fun v14 h_5 =>
              rg (v11 + 1) (
                L1 data5 (v11 + 1) b5 limit5 (decide ((Int.tdiv length3 8) ≤ (v11 - a5))) v13 h_5)) (
              rg (v11 + 1) (
                callG prog 101 [data5, (.int .i64 (v11 + 1)), (.int .i64 b5), (.int .i64 limit5)] h_4 fun v15 h_6 =>
                L1 data5 a5 v11 limit5 (decide ((Int.tdiv length3 8) ≤ (b5 - v11))) v13 h_6)))))))

def s101c4 (Ψ : AVal → Heap → Prop) (L1 : s101l1_T) (data4 : AVal) (a4 b4 limit4 : Int) (wasBalanced3 wasPartitioned3 : Bool) (length2 pivot1 : Int) (h : Heap) : Prop :=
  ifT (decide (0 < a4)) (
    rg (a4 - 1) (
      ixS 1 data4 (a4 - 1) fun p =>
      ld1 h p fun v16 =>
      tStr v16 fun v17 =>
      ixS 1 data4 pivot1 fun p1 =>
      ld1 h p1 fun v18 =>
      tStr v18 fun v19 =>
      callG prog 118 [(.str v17), (.str v19)] h fun v20 h_7 =>
      tBool v20 fun v21 =>
      s101c5 Ψ L1 data4 a4 b4 limit4 wasBalanced3 wasPartitioned3 length2 pivot1 (!v21) h_7)) (
    s101c5 Ψ L1 data4 a4 b4 limit4 wasBalanced3 wasPartitioned3 length2 pivot1 false h)

def s101c6 (Ψ : AVal → Heap → Prop) (L1 : s101l1_T) (data6 : AVal) (a6 b6 limit6 : Int) (wasBalanced5 wasPartitioned5 : Bool) (length4 pivot3 : Int) (t68 : Bool) (h : Heap) : Prop :=
  ifT t68 (
    callG prog 117 [data6, (.int .i64 a6), (.int .i64 b6)] h fun v22 h_8 =>
    tBool v22 fun v23 =>
    ifT v23 (
      retG (.tuple []) h_8 Ψ) (
      s101c4 Ψ L1 data6 a6 b6 limit6 wasBalanced5 wasPartitioned5 length4 pivot3 h_8)) (
    s101c4 Ψ L1 data6 a6 b6 limit6 wasBalanced5 wasPartitioned5 length4 pivot3 h)

def s101c3 (Ψ : AVal → Heap → Prop) (L1 : s101l1_T) (data3 : AVal) (a3 b3 limit3 : Int) (wasBalanced2 wasPartitioned2 : Bool) (length1 pivot hint : Int) (h : Heap) : Prop :=
  ifT wasBalanced2 (
    ifT wasPartitioned2 (
      s101c6 Ψ L1 data3 a3 b3 limit3 wasBalanced2 wasPartitioned2 length1 pivot (hint == 1) h) (
      s101c6 Ψ L1 data3 a3 b3 limit3 wasBalanced2 wasPartitioned2 length1 pivot false h)) (
    s101c6 Ψ L1 data3 a3 b3 limit3 wasBalanced2 wasPartitioned2 length1 pivot false h)

def s101c2 (Ψ : AVal → Heap → Prop) (L1 : s101l1_T) (data2 : AVal) (a2 b2 limit2 : Int) (wasBalanced1 wasPartitioned1 : Bool) (length : Int) (h : Heap) : Prop :=
  callG prog 115 [data2, (.int .i64 a2), (.int .i64 b2)] h fun v2 h_2 =>
  tTup v2 fun l_ =>
  tCons l_ fun v3 l_1 =>
  tInt .i64 v3 fun v4 =>
  tCons l_1 fun v5 l_2 =>
  tInt .i64 v5 fun v6 =>
  tNil l_2 (
    ifT (v6 == 2) (
      callG prog 116 [data2, (.int .i64 a2), (.int .i64 b2)] h_2 fun v24 h_9 =>
      rg (b2 - 1) (
        rg (v4 - a2) (
          rg ((b2 - 1) - (v4 - a2)) (
            s101c3 Ψ L1 data2 a2 b2 limit2 wasBalanced1 wasPartitioned1 length ((b2 - 1) - (v4 - a2)) 1 h_9)))) (
      s101c3 Ψ L1 data2 a2 b2 limit2 wasBalanced1 wasPartitioned1 length v4 v6 h_2))

def s101l1 (Ψ : AVal → Heap → Prop) : Nat → s101l1_T
  | 0, _, _, _, _, _, _, _ => False
  | n + 1, data1, a1, b1, limit1, wasBalanced, wasPartitioned, h =>
    rg (b1 - a1) (
      ifT (decide ((b1 - a1) ≤ 12)) (
        callG prog 112 [data1, (.int .i64 a1), (.int .i64 b1)] h fun v h_ =>
        retG (.tuple []) h_ Ψ) (
        ifT (limit1 == 0) (
          callG prog 113 [data1, (.int .i64 a1), (.int .i64 b1)] h fun v1 h_1 =>
          retG (.tuple []) h_1 Ψ) (
          ifT (!wasBalanced) (
            callG prog 114 [data1, (.int .i64 a1), (.int .i64 b1)] h fun v25 h_10 =>
            rg (limit1 - 1) (
              s101c2 Ψ (s101l1_G (s101l1 Ψ n)) data1 a1 b1 (limit1 - 1) wasBalanced wasPartitioned (b1 - a1) h_10)) (
            s101c2 Ψ (s101l1_G (s101l1 Ψ n)) data1 a1 b1 limit1 wasBalanced wasPartitioned (b1 - a1) h))))

def s101 (Ψ : AVal → Heap → Prop) (data : AVal) (a : Int) (b : Int) (limit : Int) (h : Heap) : Prop :=
  s101l1_E (s101l1 Ψ) data a b limit true true h

def s101_A (Ψ : AVal → Heap → Prop) : Ann :=
  .seq (rA 1)
  (.seq (rA 1)
  (.block (.loop [(0, .any), (1, .int .i64), (2, .int .i64), (3, .int .i64), (8, .bool), (9, .bool)] (fun n l h => s101l1_R (s101l1 Ψ n) l h) (fun L1 =>
  .block (.seq (rA 4)
  (.seq (.seq (rA 2)
  (.cond (.seq (rA 4)
  (.leaf))
  (.leaf)))
  (.seq (.seq (rA 2)
  (.cond (.seq (rA 4)
  (.leaf))
  (.leaf)))
  (.cut [(0, .any), (1, .int .i64), (2, .int .i64), (3, .int .i64), (8, .bool), (9, .bool), (10, .int .i64)] (fun l h => J.cons l fun x0 l => J.cons l fun v l => J.int .i64 v fun x1 => J.cons l fun v l => J.int .i64 v fun x2 => J.cons l fun v l => J.int .i64 v fun x3 => J.cons l fun v l => J.bool v fun x4 => J.cons l fun v l => J.bool v fun x5 => J.cons l fun v l => J.int .i64 v fun x6 => J.nil l (s101c2 Ψ (fun y0 y1 y2 y3 y4 y5 h => L1 [y0, (.int .i64 y1), (.int .i64 y2), (.int .i64 y3), (.bool y4), (.bool y5)] h) x0 x1 x2 x3 x4 x5 x6 h)) (.seq (rA 2)
  (.cond (.seq (rA 4)
  (rA 3))
  (.leaf)))
  (.seq (rA 9)
  (.cut [(0, .any), (1, .int .i64), (2, .int .i64), (3, .int .i64), (8, .bool), (9, .bool), (10, .int .i64), (11, .int .i64), (12, .int .i64)] (fun l h => J.cons l fun x0 l => J.cons l fun v l => J.int .i64 v fun x1 => J.cons l fun v l => J.int .i64 v fun x2 => J.cons l fun v l => J.int .i64 v fun x3 => J.cons l fun v l => J.bool v fun x4 => J.cons l fun v l => J.bool v fun x5 => J.cons l fun v l => J.int .i64 v fun x6 => J.cons l fun v l => J.int .i64 v fun x7 => J.cons l fun v l => J.int .i64 v fun x8 => J.nil l (s101c3 Ψ (fun y0 y1 y2 y3 y4 y5 h => L1 [y0, (.int .i64 y1), (.int .i64 y2), (.int .i64 y3), (.bool y4), (.bool y5)] h) x0 x1 x2 x3 x4 x5 x6 x7 x8 h)) (.seq (rA 2)
  (.cond (.seq (rA 4)
  (.seq (rA 7)
  (rA 1)))
  (.leaf)))
  (.cut [(0, .any), (1, .int .i64), (2, .int .i64), (3, .int .i64), (8, .bool), (9, .bool), (10, .int .i64), (11, .int .i64)] (fun l h => J.cons l fun x0 l => J.cons l fun v l => J.int .i64 v fun x1 => J.cons l fun v l => J.int .i64 v fun x2 => J.cons l fun v l => J.int .i64 v fun x3 => J.cons l fun v l => J.bool v fun x4 => J.cons l fun v l => J.bool v fun x5 => J.cons l fun v l => J.int .i64 v fun x6 => J.cons l fun v l => J.int .i64 v fun x7 => J.nil l (s101c4 Ψ (fun y0 y1 y2 y3 y4 y5 h => L1 [y0, (.int .i64 y1), (.int .i64 y2), (.int .i64 y3), (.bool y4), (.bool y5)] h) x0 x1 x2 x3 x4 x5 x6 x7 h)) (.cut [(0, .any), (1, .int .i64), (2, .int .i64), (3, .int .i64), (8, .bool), (9, .bool), (10, .int .i64), (11, .int .i64), (68, .bool)] (fun l h => J.cons l fun x0 l => J.cons l fun v l => J.int .i64 v fun x1 => J.cons l fun v l => J.int .i64 v fun x2 => J.cons l fun v l => J.int .i64 v fun x3 => J.cons l fun v l => J.bool v fun x4 => J.cons l fun v l => J.bool v fun x5 => J.cons l fun v l => J.int .i64 v fun x6 => J.cons l fun v l => J.int .i64 v fun x7 => J.cons l fun v l => J.bool v fun x8 => J.nil l (s101c6 Ψ (fun y0 y1 y2 y3 y4 y5 h => L1 [y0, (.int .i64 y1), (.int .i64 y2), (.int .i64 y3), (.bool y4), (.bool y5)] h) x0 x1 x2 x3 x4 x5 x6 x7 x8 h)) (.reg [⟨none, [(0, false), (1, false)]⟩, ⟨some (62, true), [(2, false)]⟩, ⟨none, [(3, false), (4, false)]⟩, ⟨some (65, true), [(5, false), (6, false)]⟩, ⟨none, [(7, false)]⟩])
  (.cond (.seq (rA 4)
  (.cond (.leaf)
  (.leaf)))
  (.leaf)))
  (.seq (.cut [(0, .any), (1, .int .i64), (2, .int .i64), (3, .int .i64), (8, .bool), (9, .bool), (10, .int .i64), (11, .int .i64), (87, .bool)] (fun l h => J.cons l fun x0 l => J.cons l fun v l => J.int .i64 v fun x1 => J.cons l fun v l => J.int .i64 v fun x2 => J.cons l fun v l => J.int .i64 v fun x3 => J.cons l fun v l => J.bool v fun x4 => J.cons l fun v l => J.bool v fun x5 => J.cons l fun v l => J.int .i64 v fun x6 => J.cons l fun v l => J.int .i64 v fun x7 => J.cons l fun v l => J.bool v fun x8 => J.nil l (s101c5 Ψ (fun y0 y1 y2 y3 y4 y5 h => L1 [y0, (.int .i64 y1), (.int .i64 y2), (.int .i64 y3), (.bool y4), (.bool y5)] h) x0 x1 x2 x3 x4 x5 x6 x7 x8 h)) (.draw [(0, false), (1, false), (2, false), (3, false), (4, false), (5, false), (6, false), (7, false), (8, false), (9, false), (10, false), (11, false), (12, false), (13, false), (14, false)] [0, 1, 3, 7, 7, 23, 63, 127, 7, 7, 775, 1799, 4095, 8191, 16383])
  (.cond (.seq (rA 6)
  (.seq (rA 2)
  (.leaf)))
  (.leaf)))
  (.seq (rA 10)
  (.seq (rA 2)
  (.seq (rA 8)
  (.seq (rA 3)
  (.seq (rA 3)
  (.cond (.seq (rA 4)
  (.seq (rA 5)
  (rA 3)))
  (.seq (rA 4)
  (.seq (rA 6)
  (rA 2)))))))))))))))))))))

theorem s101_ok {Ψ : AVal → Heap → Prop} {data : AVal} {a : Int} {b : Int} {limit : Int} {h : Heap} (H : s101 Ψ data a b limit h) : ACalls prog 101 [data, (.int .i64 a), (.int .i64 b), (.int .i64 limit)] h Ψ :=
  calls_of_evF func101 (by kernel_rfl) (by kernel_rfl) (by kernel_rfl)
    (Eq.mpr (by as_aux_lemma => kernel_rfl : oblF prog f101 (s101_A Ψ) Ψ = (True ∧ True ∧ (∀ (h : Heap) (x0 : AVal) (x1 x2 x3 : Int) (x4 x5 : Bool), ON (s101l1 Ψ 0 x0 x1 x2 x3 x4 x5 h)) ∧ ∀ n1 : Nat, (∀ (h : Heap) (x0 : AVal) (x1 x2 x3 : Int) (x4 x5 : Bool), OI (s101l1 Ψ (n1 + 1) x0 x1 x2 x3 x4 x5 h)) ∧ (True ∧ (True ∧ (True ∧ True) ∧ True) ∧ (True ∧ (True ∧ True) ∧ True) ∧ (True ∧ (True ∧ True) ∧ True) ∧ (∀ (h : Heap) (x0 : AVal) (x1 x2 x3 : Int) (x4 x5 : Bool) (x6 : Int), OI (s101c2 Ψ (s101l1_G (s101l1 Ψ n1)) x0 x1 x2 x3 x4 x5 x6 h)) ∧ (True ∧ (True ∧ (True ∧ True ∧ True) ∧ True) ∧ (∀ (h : Heap) (x0 : AVal) (x1 x2 x3 : Int) (x4 x5 : Bool) (x6 x7 x8 : Int), OI (s101c3 Ψ (s101l1_G (s101l1 Ψ n1)) x0 x1 x2 x3 x4 x5 x6 x7 x8 h)) ∧ (((True) ∧ (∀ (h : Heap) (x0 : AVal) (x1 x2 x3 : Int) (x4 x5 : Bool) (x6 x7 : Int) (x8 : Bool), OI (s101c6 Ψ (s101l1_G (s101l1 Ψ n1)) x0 x1 x2 x3 x4 x5 x6 x7 x8 h)) ∧ ((True ∧ True ∧ True) ∧ True)) ∧ (∀ (h : Heap) (x0 : AVal) (x1 x2 x3 : Int) (x4 x5 : Bool) (x6 x7 : Int), OI (s101c4 Ψ (s101l1_G (s101l1 Ψ n1)) x0 x1 x2 x3 x4 x5 x6 x7 h)) ∧ (((True) ∧ (∀ (h : Heap) (x0 : AVal) (x1 x2 x3 : Int) (x4 x5 : Bool) (x6 x7 : Int) (x8 : Bool), OI (s101c5 Ψ (s101l1_G (s101l1 Ψ n1)) x0 x1 x2 x3 x4 x5 x6 x7 x8 h)) ∧ ((True ∧ True ∧ True) ∧ True)) ∧ True ∧ True ∧ True ∧ True ∧ True ∧ (True ∧ True ∧ True) ∧ True ∧ True ∧ True)))))) ⟨trivial, ⟨trivial, ⟨fun _ _ _ _ _ _ _ H => H, fun _ => ⟨fun _ _ _ _ _ _ _ H => H, ⟨trivial, ⟨⟨trivial, ⟨⟨trivial, trivial⟩, trivial⟩⟩, ⟨⟨trivial, ⟨⟨trivial, trivial⟩, trivial⟩⟩, ⟨⟨trivial, ⟨⟨trivial, trivial⟩, trivial⟩⟩, fun _ _ _ _ _ _ _ _ H => H, ⟨trivial, ⟨⟨trivial, ⟨⟨trivial, ⟨trivial, trivial⟩⟩, trivial⟩⟩, fun _ _ _ _ _ _ _ _ _ _ H => H, ⟨⟨trivial, fun _ _ _ _ _ _ _ _ _ _ H => H, ⟨⟨trivial, ⟨trivial, trivial⟩⟩, trivial⟩⟩, fun _ _ _ _ _ _ _ _ _ H => H, ⟨⟨trivial, fun _ _ _ _ _ _ _ _ _ _ H => H, ⟨⟨trivial, ⟨trivial, trivial⟩⟩, trivial⟩⟩, ⟨trivial, ⟨trivial, ⟨trivial, ⟨trivial, ⟨trivial, ⟨⟨trivial, ⟨trivial, trivial⟩⟩, ⟨trivial, ⟨trivial, trivial⟩⟩⟩⟩⟩⟩⟩⟩⟩⟩⟩⟩⟩⟩⟩⟩⟩⟩⟩⟩)
    (Eq.mpr (by as_aux_lemma => kernel_rfl : evF prog f101 (s101_A Ψ) Ψ [data, (.int .i64 a), (.int .i64 b), (.int .i64 limit)] h = s101 Ψ data a b limit h) H)

/- 104 dictum/nishimura.greatest -/
def s104 (Ψ : AVal → Heap → Prop) (l_ : AVal) (h : Heap) : Prop :=
  callG prog 132 [l_] h fun v h_ =>
  tInt .i64 v fun v1 =>
  retG (.int .i64 v1) h_ Ψ

def s104_A (Ψ : AVal → Heap → Prop) : Ann :=
  .seq (rA 1)
  (.seq (rA 3)
  (.leaf))

theorem s104_ok {Ψ : AVal → Heap → Prop} {l_ : AVal} {h : Heap} (H : s104 Ψ l_ h) : ACalls prog 104 [l_] h Ψ :=
  calls_of_evF func104 (by kernel_rfl) (by kernel_rfl) (by kernel_rfl)
    (Eq.mpr (by as_aux_lemma => kernel_rfl : oblF prog f104 (s104_A Ψ) Ψ = (True ∧ True ∧ True)) ⟨trivial, ⟨trivial, trivial⟩⟩)
    (Eq.mpr (by as_aux_lemma => kernel_rfl : evF prog f104 (s104_A Ψ) Ψ [l_] h = s104 Ψ l_ h) H)

/- 108 slices.Index[[]string,string] -/
abbrev s108l1_T := AVal → ByteArray → Int → Int → Heap → Prop
def s108l1_R (F : s108l1_T) (l : List AVal) (h : Heap) : Prop := J.cons l fun x0 l => J.cons l fun v l => J.str v fun x1 => J.cons l fun v l => J.int .i64 v fun x2 => J.cons l fun v l => J.int .i64 v fun x3 => J.nil l (F x0 x1 x2 x3 h)
def s108l1_G (F : s108l1_T) (x0 : AVal) (x1 : ByteArray) (x2 x3 : Int) (h : Heap) : Prop := gJ [.any, .str, .int .i64, .int .i64] [x0, (.str x1), (.int .i64 x2), (.int .i64 x3)] h (s108l1_R F)
def s108l1_E (F : Nat → s108l1_T) (x0 : AVal) (x1 : ByteArray) (x2 x3 : Int) (h : Heap) : Prop := gJ [.any, .str, .int .i64, .int .i64] [x0, (.str x1), (.int .i64 x2), (.int .i64 x3)] h (fun l h => ∃ n, s108l1_R (F n) l h)
theorem s108l1_go {F : s108l1_T} {x0 : AVal} {x1 : ByteArray} {x2 x3 : Int} {h : Heap} (H : F x0 x1 x2 x3 h) : s108l1_G F x0 x1 x2 x3 h := gJ_plain rfl H
theorem s108l1_in {F : Nat → s108l1_T} {x0 : AVal} {x1 : ByteArray} {x2 x3 : Int} {h : Heap} (n : Nat) (H : F n x0 x1 x2 x3 h) : s108l1_E F x0 x1 x2 x3 h := gJ_plain rfl ⟨n, H⟩

def s108l1 (Ψ : AVal → Heap → Prop) : Nat → s108l1_T
  | 0, _, _, _, _, _ => False
  | n1 + 1, s1, v1, t7, t8, h =>
    ifT (decide (t8 < t7)) (
      ixS 1 s1 t8 fun p =>
      ld1 h p fun v2 =>
      tStr v2 fun v3 =>
      ifT (strEq v1 v3) (
        retG (.int .i64 t8) h Ψ) (
        rg (t8 + 1) (
          s108l1_G (s108l1 Ψ n1) s1 v1 t7 (t8 + 1) h))) (
      retG (.int .i64 (-1)) h Ψ)

def s108 (Ψ : AVal → Heap → Prop) (s : AVal) (v : ByteArray) (h : Heap) : Prop :=
  lenN s fun n =>
  s108l1_E (s108l1 Ψ) s v n 0 h

def s108_A (Ψ : AVal → Heap → Prop) : Ann :=
  .seq (rA 1)
  (.seq (.seq (rA 3)
  (.block (.loop [(0, .any), (1, .str), (7, .int .i64), (8, .int .i64)] (fun n l h => s108l1_R (s108l1 Ψ n) l h) (fun L1 =>
  .seq (rA 1)
  (.seq (.cond (.leaf)
  (.leaf))
  (.seq (.block (.seq (rA 2)
  (.seq (rA 6)
  (.cond (.seq (rA 2)
  (.leaf))
  (.leaf)))))
  (rA 2)))))))
  (.seq (rA 1)
  (.leaf)))

theorem s108_ok {Ψ : AVal → Heap → Prop} {s : AVal} {v : ByteArray} {h : Heap} (H : s108 Ψ s v h) : ACalls prog 108 [s, (.str v)] h Ψ :=
  calls_of_evF func108 (by kernel_rfl) (by kernel_rfl) (by kernel_rfl)
    (Eq.mpr (by as_aux_lemma => kernel_rfl : oblF prog f108 (s108_A Ψ) Ψ = (True ∧ (True ∧ (∀ (h : Heap) (x0 : AVal) (x1 : ByteArray) (x2 x3 : Int), ON (s108l1 Ψ 0 x0 x1 x2 x3 h)) ∧ ∀ n1 : Nat, (∀ (h : Heap) (x0 : AVal) (x1 : ByteArray) (x2 x3 : Int), OI (s108l1 Ψ (n1 + 1) x0 x1 x2 x3 h)) ∧ (True ∧ (True ∧ True) ∧ (True ∧ True ∧ (True ∧ True) ∧ True) ∧ True)) ∧ True ∧ True)) ⟨trivial, ⟨⟨trivial, ⟨fun _ _ _ _ _ H => H, fun _ => ⟨fun _ _ _ _ _ H => H, ⟨trivial, ⟨⟨trivial, trivial⟩, ⟨⟨trivial, ⟨trivial, ⟨⟨trivial, trivial⟩, trivial⟩⟩⟩, trivial⟩⟩⟩⟩⟩⟩, ⟨trivial, trivial⟩⟩⟩)
    (Eq.mpr (by as_aux_lemma => kernel_rfl : evF prog f108 (s108_A Ψ) Ψ [s, (.str v)] h = s108 Ψ s v h) H)

/- 110 (*dictum/dictumref03.T).Find -/
abbrev s110l1_T := AVal → AVal → Int → Heap → Prop
def s110l1_R (F : s110l1_T) (l : List AVal) (h : Heap) : Prop := J.cons l fun x0 l => J.cons l fun x1 l => J.cons l fun v l => J.int .i64 v fun x2 => J.nil l (F x0 x1 x2 h)
def s110l1_G (F : s110l1_T) (x0 x1 : AVal) (x2 : Int) (h : Heap) : Prop := gJ [.any, .any, .int .i64] [x0, x1, (.int .i64 x2)] h (s110l1_R F)
def s110l1_E (F : Nat → s110l1_T) (x0 x1 : AVal) (x2 : Int) (h : Heap) : Prop := gJ [.any, .any, .int .i64] [x0, x1, (.int .i64 x2)] h (fun l h => ∃ n, s110l1_R (F n) l h)
theorem s110l1_go {F : s110l1_T} {x0 x1 : AVal} {x2 : Int} {h : Heap} (H : F x0 x1 x2 h) : s110l1_G F x0 x1 x2 h := gJ_plain rfl H
theorem s110l1_in {F : Nat → s110l1_T} {x0 x1 : AVal} {x2 : Int} {h : Heap} (n : Nat) (H : F n x0 x1 x2 h) : s110l1_E F x0 x1 x2 h := gJ_plain rfl ⟨n, H⟩

def s110l1 (Ψ : AVal → Heap → Prop) : Nat → s110l1_T
  | 0, _, _, _, _ => False
  | n1 + 1, t1, n, i, h =>
    nilCheckA t1 fun p =>
    addOff p 0 fun p1 =>
    ld1 h p1 fun v =>
    lenN v fun n2 =>
    ifT (decide (i < n2)) (
      nilCheckA t1 fun p2 =>
      addOff p2 0 fun p3 =>
      ld1 h p3 fun v1 =>
      ixS 4 v1 i fun p4 =>
      ldN 4 h p4 fun l_ =>
      tCons l_ fun v2 l_1 =>
      tInt .i64 v2 fun v3 =>
      tCons l_1 fun v4 l_2 =>
      tStr v4 fun v5 =>
      tCons l_2 fun v6 l_3 =>
      tInt .i64 v6 fun v7 =>
      tCons l_3 fun v8 l_4 =>
      tInt .i64 v8 fun v9 =>
      tNil l_4 (
        ldN 4 h n fun l_5 =>
        tCons l_5 fun v10 l_6 =>
        tInt .i64 v10 fun v11 =>
        tCons l_6 fun v12 l_7 =>
        tStr v12 fun v13 =>
        tCons l_7 fun v14 l_8 =>
        tInt .i64 v14 fun v15 =>
        tCons l_8 fun v16 l_9 =>
        tInt .i64 v16 fun v17 =>
        tNil l_9 (
          eqQ prog 54 (.agg [(.int .i64 v3), (.str v5), (.int .i64 v7), (.int .i64 v9)]) (.agg [(.int .i64 v11), (.str v13), (.int .i64 v15), (.int .i64 v17)]) fun b =>
          ifT b (
            retG (.tuple [(.int .i64 i), (.bool true)]) h Ψ) (
            rg (i + 1) (
              s110l1_G (s110l1 Ψ n1) t1 n (i + 1) h))))) (
      retG (.tuple [(.int .i64 0), (.bool false)]) h Ψ)

def s110 (Ψ : AVal → Heap → Prop) (t : AVal) (n_Kind : Int) (n_Name : ByteArray) (n_L : Int) (n_R : Int) (h : Heap) : Prop :=
  s110l1_E (s110l1 Ψ) t (.lptr [(.int .i64 n_Kind), (.str n_Name), (.int .i64 n_L), (.int .i64 n_R)]) 0 h

def s110_A (Ψ : AVal → Heap → Prop) : Ann :=
  .seq (.reg [⟨none, [(0, true), (1, false), (2, false)]⟩])
  (.seq (.seq (rA 1)
  (.block (.loop [(0, .any), (3, .any), (6, .int .i64)] (fun n l h => s110l1_R (s110l1 Ψ n) l h) (fun L1 =>
  .seq (.seq (rA 7)
  (.cond (.leaf)
  (.leaf)))
  (.seq (.block (.seq (.draw [(0, false), (1, false), (2, false), (3, false), (4, false), (5, false), (6, false), (7, false), (8, false)] [0, 1, 3, 7, 0, 31, 63, 0, 255])
  (.cond (.seq (rA 3)
  (.leaf))
  (.leaf))))
  (rA 3))))))
  (.seq (rA 2)
  (.leaf)))

theorem s110_ok {Ψ : AVal → Heap → Prop} {t : AVal} {n_Kind : Int} {n_Name : ByteArray} {n_L : Int} {n_R : Int} {h : Heap} (H : s110 Ψ t n_Kind n_Name n_L n_R h) : ACalls prog 110 [t, (.agg [(.int .i64 n_Kind), (.str n_Name), (.int .i64 n_L), (.int .i64 n_R)])] h Ψ :=
  calls_of_evF func110 (by kernel_rfl) (by kernel_rfl) (by kernel_rfl)
    (Eq.mpr (by as_aux_lemma => kernel_rfl : oblF prog f110 (s110_A Ψ) Ψ = (True ∧ (True ∧ (∀ (h : Heap) (x0 x1 : AVal) (x2 : Int), ON (s110l1 Ψ 0 x0 x1 x2 h)) ∧ ∀ n1 : Nat, (∀ (h : Heap) (x0 x1 : AVal) (x2 : Int), OI (s110l1 Ψ (n1 + 1) x0 x1 x2 h)) ∧ ((True ∧ True ∧ True) ∧ (True ∧ (True ∧ True) ∧ True) ∧ True)) ∧ True ∧ True)) ⟨trivial, ⟨⟨trivial, ⟨fun _ _ _ _ H => H, fun _ => ⟨fun _ _ _ _ H => H, ⟨⟨trivial, ⟨trivial, trivial⟩⟩, ⟨⟨trivial, ⟨⟨trivial, trivial⟩, trivial⟩⟩, trivial⟩⟩⟩⟩⟩, ⟨trivial, trivial⟩⟩⟩)
    (Eq.mpr (by as_aux_lemma => kernel_rfl : evF prog f110 (s110_A Ψ) Ψ [t, (.agg [(.int .i64 n_Kind), (.str n_Name), (.int .i64 n_L), (.int .i64 n_R)])] h = s110 Ψ t n_Kind n_Name n_L n_R h) H)

/- 112 slices.insertionSortOrdered[string] -/
abbrev s112l1_T := AVal → Int → Int → Int → Heap → Prop
def s112l1_R (F : s112l1_T) (l : List AVal) (h : Heap) : Prop := J.cons l fun x0 l => J.cons l fun v l => J.int .i64 v fun x1 => J.cons l fun v l => J.int .i64 v fun x2 => J.cons l fun v l => J.int .i64 v fun x3 => J.nil l (F x0 x1 x2 x3 h)
def s112l1_G (F : s112l1_T) (x0 : AVal) (x1 x2 x3 : Int) (h : Heap) : Prop := gJ [.any, .int .i64, .int .i64, .int .i64] [x0, (.int .i64 x1), (.int .i64 x2), (.int .i64 x3)] h (s112l1_R F)
def s112l1_E (F : Nat → s112l1_T) (x0 : AVal) (x1 x2 x3 : Int) (h : Heap) : Prop := gJ [.any, .int .i64, .int .i64, .int .i64] [x0, (.int .i64 x1), (.int .i64 x2), (.int .i64 x3)] h (fun l h => ∃ n, s112l1_R (F n) l h)
theorem s112l1_go {F : s112l1_T} {x0 : AVal} {x1 x2 x3 : Int} {h : Heap} (H : F x0 x1 x2 x3 h) : s112l1_G F x0 x1 x2 x3 h := gJ_plain rfl H
theorem s112l1_in {F : Nat → s112l1_T} {x0 : AVal} {x1 x2 x3 : Int} {h : Heap} (n : Nat) (H : F n x0 x1 x2 x3 h) : s112l1_E F x0 x1 x2 x3 h := gJ_plain rfl ⟨n, H⟩

abbrev s112l2_T := AVal → Int → Int → Int → Int → Heap → Prop
def s112l2_R (F : s112l2_T) (l : List AVal) (h : Heap) : Prop := J.cons l fun x0 l => J.cons l fun v l => J.int .i64 v fun x1 => J.cons l fun v l => J.int .i64 v fun x2 => J.cons l fun v l => J.int .i64 v fun x3 => J.cons l fun v l => J.int .i64 v fun x4 => J.nil l (F x0 x1 x2 x3 x4 h)
def s112l2_G (F : s112l2_T) (x0 : AVal) (x1 x2 x3 x4 : Int) (h : Heap) : Prop := gJ [.any, .int .i64, .int .i64, .int .i64, .int .i64] [x0, (.int .i64 x1), (.int .i64 x2), (.int .i64 x3), (.int .i64 x4)] h (s112l2_R F)
def s112l2_E (F : Nat → s112l2_T) (x0 : AVal) (x1 x2 x3 x4 : Int) (h : Heap) : Prop := gJ [.any, .int .i64, .int .i64, .int .i64, .int .i64] [x0, (.int .i64 x1), (.int .i64 x2), (.int .i64 x3), (.int .i64 x4)] h (fun l h => ∃ n, s112l2_R (F n) l h)
theorem s112l2_go {F : s112l2_T} {x0 : AVal} {x1 x2 x3 x4 : Int} {h : Heap} (H : F x0 x1 x2 x3 x4 h) : s112l2_G F x0 x1 x2 x3 x4 h := gJ_plain rfl H
theorem s112l2_in {F : Nat → s112l2_T} {x0 : AVal} {x1 x2 x3 x4 : Int} {h : Heap} (n : Nat) (H : F n x0 x1 x2 x3 x4 h) : s112l2_E F x0 x1 x2 x3 x4 h := gJ_plain rfl ⟨n, H⟩

def s112c3 (Ψ : AVal → Heap → Prop) (L1 : s112l1_T) (L2 : s112l2_T) (data3 : AVal) (a3 b3 i2 j1 : Int) (t30 : Bool) (h : Heap) : Prop :=
  ifT t30 (
    rg (j1 - 1) (
      rg (j1 - 1) (
        ixS 1 data3 (j1 - 1) fun p =>
        ld1 h p fun v =>
        tStr v fun v1 =>
        ixS 1 data3 j1 fun p1 =>
        ld1 h p1 fun v2 =>
        tStr v2 fun v3 =>
        ixS 1 data3 j1 fun p2 =>
        st true h p2 [(.str v1)] fun h_ =>
        ixS 1 data3 (j1 - 1) fun p3 =>
        st true h_ p3 [(.str v3)] fun h_1 =>
        rg (j1 - 1) (
          L2 data3 a3 b3 i2 (j1 - 1) h_1)))) (
    rg (i2 + 1) (
      L1 data3 a3 b3 (i2 + 1) h))

def s112l2 (Ψ : AVal → Heap → Prop) (L1 : s112l1_T) : Nat → s112l2_T
  | 0, _, _, _, _, _, _ => False
  | n1 + 1, data2, a2, b2, i1, j, h =>
    ifT (decide (a2 < j)) (
      ixS 1 data2 j fun p4 =>
      ld1 h p4 fun v4 =>
      tStr v4 fun v5 =>
      rg (j - 1) (
        ixS 1 data2 (j - 1) fun p5 =>
        ld1 h p5 fun v6 =>
        tStr v6 fun v7 =>
        callG prog 118 [(.str v5), (.str v7)] h fun v8 h_2 =>
        tBool v8 fun v9 =>
        s112c3 Ψ L1 (s112l2_G (s112l2 Ψ L1 n1)) data2 a2 b2 i1 j v9 h_2)) (
      s112c3 Ψ L1 (s112l2_G (s112l2 Ψ L1 n1)) data2 a2 b2 i1 j false h)

def s112l1 (Ψ : AVal → Heap → Prop) : Nat → s112l1_T
  | 0, _, _, _, _, _ => False
  | n + 1, data1, a1, b1, i, h =>
    ifT (decide (i < b1)) (
      s112l2_E (s112l2 Ψ (s112l1_G (s112l1 Ψ n))) data1 a1 b1 i i h) (
      retG (.tuple []) h Ψ)

def s112 (Ψ : AVal → Heap → Prop) (data : AVal) (a : Int) (b : Int) (h : Heap) : Prop :=
  rg (a + 1) (
    s112l1_E (s112l1 Ψ) data a b (a + 1) h)

def s112_A (Ψ : AVal → Heap → Prop) : Ann :=
  .seq (rA 3)
  (.block (.loop [(0, .any), (1, .int .i64), (2, .int .i64), (6, .int .i64)] (fun n l h => s112l1_R (s112l1 Ψ n) l h) (fun L1 =>
  .seq (.seq (rA 3)
  (.cond (.leaf)
  (.leaf)))
  (.seq (.block (.seq (rA 2)
  (.block (.loop [(0, .any), (1, .int .i64), (2, .int .i64), (6, .int .i64), (7, .int .i64)] (fun n l h => s112l2_R (s112l2 Ψ (fun y0 y1 y2 y3 h => L1 [y0, (.int .i64 y1), (.int .i64 y2), (.int .i64 y3)] h) n) l h) (fun L2 =>
  .seq (.cut [(0, .any), (1, .int .i64), (2, .int .i64), (6, .int .i64), (7, .int .i64), (30, .bool)] (fun l h => J.cons l fun x0 l => J.cons l fun v l => J.int .i64 v fun x1 => J.cons l fun v l => J.int .i64 v fun x2 => J.cons l fun v l => J.int .i64 v fun x3 => J.cons l fun v l => J.int .i64 v fun x4 => J.cons l fun v l => J.bool v fun x5 => J.nil l (s112c3 Ψ (fun y0 y1 y2 y3 h => L1 [y0, (.int .i64 y1), (.int .i64 y2), (.int .i64 y3)] h) (fun y0 y1 y2 y3 y4 h => L2 [y0, (.int .i64 y1), (.int .i64 y2), (.int .i64 y3), (.int .i64 y4)] h) x0 x1 x2 x3 x4 x5 h)) (.draw [(0, false), (1, false), (2, false), (3, false), (4, false), (5, false), (6, false), (7, false), (8, false), (9, false), (10, false), (11, false), (12, false), (13, false), (14, false)] [0, 0, 3, 7, 15, 15, 63, 127, 15, 15, 527, 1807, 3855, 8191, 16383])
  (.cond (.leaf)
  (.leaf)))
  (.seq (.block (.draw [(0, false), (1, false), (2, false), (3, false), (4, false), (5, false), (6, false), (7, false), (8, false), (9, false), (10, false), (11, false), (12, false), (13, false), (14, false), (15, false), (16, false), (17, false)] [0, 0, 0, 0, 8, 0, 0, 64, 224, 480, 0, 0, 3072, 7168, 16355, 32739, 65535, 131071]))
  (rA 3)))))))
  (rA 3)))))

theorem s112_ok {Ψ : AVal → Heap → Prop} {data : AVal} {a : Int} {b : Int} {h : Heap} (H : s112 Ψ data a b h) : ACalls prog 112 [data, (.int .i64 a), (.int .i64 b)] h Ψ :=
  calls_of_evF func112 (by kernel_rfl) (by kernel_rfl) (by kernel_rfl)
    (Eq.mpr (by as_aux_lemma => kernel_rfl : oblF prog f112 (s112_A Ψ) Ψ = (True ∧ (∀ (h : Heap) (x0 : AVal) (x1 x2 x3 : Int), ON (s112l1 Ψ 0 x0 x1 x2 x3 h)) ∧ ∀ n1 : Nat, (∀ (h : Heap) (x0 : AVal) (x1 x2 x3 : Int), OI (s112l1 Ψ (n1 + 1) x0 x1 x2 x3 h)) ∧ ((True ∧ True ∧ True) ∧ (True ∧ (∀ (h : Heap) (x0 : AVal) (x1 x2 x3 x4 : Int), ON (s112l2 Ψ (s112l1_G (s112l1 Ψ n1)) 0 x0 x1 x2 x3 x4 h)) ∧ ∀ n2 : Nat, (∀ (h : Heap) (x0 : AVal) (x1 x2 x3 x4 : Int), OI (s112l2 Ψ (s112l1_G (s112l1 Ψ n1)) (n2 + 1) x0 x1 x2 x3 x4 h)) ∧ (((True) ∧ (∀ (h : Heap) (x0 : AVal) (x1 x2 x3 x4 : Int) (x5 : Bool), OI (s112c3 Ψ (s112l1_G (s112l1 Ψ n1)) (s112l2_G (s112l2 Ψ (s112l1_G (s112l1 Ψ n1)) n2)) x0 x1 x2 x3 x4 x5 h)) ∧ (True ∧ True)) ∧ True ∧ True)) ∧ True))) ⟨trivial, ⟨fun _ _ _ _ _ H => H, fun _ => ⟨fun _ _ _ _ _ H => H, ⟨⟨trivial, ⟨trivial, trivial⟩⟩, ⟨⟨trivial, ⟨fun _ _ _ _ _ _ H => H, fun _ => ⟨fun _ _ _ _ _ _ H => H, ⟨⟨trivial, fun _ _ _ _ _ _ _ H => H, ⟨trivial, trivial⟩⟩, ⟨trivial, trivial⟩⟩⟩⟩⟩, trivial⟩⟩⟩⟩⟩)
    (Eq.mpr (by as_aux_lemma => kernel_rfl : evF prog f112 (s112_A Ψ) Ψ [data, (.int .i64 a), (.int .i64 b)] h = s112 Ψ data a b h) H)

/- 132 slices.Max[[]int,int] -/
abbrev s132l2_T := AVal → Int → Int → Heap → Prop
def s132l2_R (F : s132l2_T) (l : List AVal) (h : Heap) : Prop := J.cons l fun x0 l => J.cons l fun v l => J.int .i64 v fun x1 => J.cons l fun v l => J.int .i64 v fun x2 => J.nil l (F x0 x1 x2 h)
def s132l2_G (F : s132l2_T) (x0 : AVal) (x1 x2 : Int) (h : Heap) : Prop := gJ [.any, .int .i64, .int .i64] [x0, (.int .i64 x1), (.int .i64 x2)] h (s132l2_R F)
def s132l2_E (F : Nat → s132l2_T) (x0 : AVal) (x1 x2 : Int) (h : Heap) : Prop := gJ [.any, .int .i64, .int .i64] [x0, (.int .i64 x1), (.int .i64 x2)] h (fun l h => ∃ n, s132l2_R (F n) l h)
theorem s132l2_go {F : s132l2_T} {x0 : AVal} {x1 x2 : Int} {h : Heap} (H : F x0 x1 x2 h) : s132l2_G F x0 x1 x2 h := gJ_plain rfl H
theorem s132l2_in {F : Nat → s132l2_T} {x0 : AVal} {x1 x2 : Int} {h : Heap} (n : Nat) (H : F n x0 x1 x2 h) : s132l2_E F x0 x1 x2 h := gJ_plain rfl ⟨n, H⟩

def s132l2 (Ψ : AVal → Heap → Prop) : Nat → s132l2_T
  | 0, _, _, _, _ => False
  | n + 1, x2, m, i, h =>
    lenN x2 fun n1 =>
    ifT (decide (i < n1)) (
      ixS 1 x2 i fun p1 =>
      ld1 h p1 fun v2 =>
      tInt .i64 v2 fun v3 =>
      rg (i + 1) (
        s132l2_G (s132l2 Ψ n) x2 (max m v3) (i + 1) h)) (
      retG (.int .i64 m) h Ψ)

def s132c1 (Ψ : AVal → Heap → Prop) (x1 : AVal) (h : Heap) : Prop :=
  ixS 1 x1 0 fun p =>
  ld1 h p fun v =>
  tInt .i64 v fun v1 =>
  s132l2_E (s132l2 Ψ) x1 v1 1 h

def s132 (Ψ : AVal → Heap → Prop) (x : AVal) (h : Heap) : Prop :=
  lenN x fun n3 =>
  ifT (decide (n3 < 1)) (
    False) (
    s132c1 Ψ x h)

def s132_A (Ψ : AVal → Heap → Prop) : Ann :=
  .seq (rA 1)
  (.cut [(0, .any)] (fun l h => J.cons l fun x0 l => J.nil l (s132c1 Ψ x0 h)) (.seq (rA 3)
  (.cond (rA 2)
  (.leaf)))
  (.seq (rA 4)
  (.seq (.seq (rA 1)
  (.block (.loop [(0, .any), (3, .int .i64), (4, .int .i64)] (fun n l h => s132l2_R (s132l2 Ψ n) l h) (fun L2 =>
  .seq (.seq (rA 4)
  (.cond (.leaf)
  (.leaf)))
  (.seq (.block (rA 7))
  (rA 3))))))
  (.seq (rA 2)
  (.leaf)))))

theorem s132_ok {Ψ : AVal → Heap → Prop} {x : AVal} {h : Heap} (H : s132 Ψ x h) : ACalls prog 132 [x] h Ψ :=
  calls_of_evF func132 (by kernel_rfl) (by kernel_rfl) (by kernel_rfl)
    (Eq.mpr (by as_aux_lemma => kernel_rfl : oblF prog f132 (s132_A Ψ) Ψ = (True ∧ (True ∧ True ∧ True) ∧ (∀ (h : Heap) (x0 : AVal), OI (s132c1 Ψ x0 h)) ∧ (True ∧ (True ∧ (∀ (h : Heap) (x0 : AVal) (x1 x2 : Int), ON (s132l2 Ψ 0 x0 x1 x2 h)) ∧ ∀ n2 : Nat, (∀ (h : Heap) (x0 : AVal) (x1 x2 : Int), OI (s132l2 Ψ (n2 + 1) x0 x1 x2 h)) ∧ ((True ∧ True ∧ True) ∧ True ∧ True)) ∧ True ∧ True))) ⟨trivial, ⟨⟨trivial, ⟨trivial, trivial⟩⟩, fun _ _ H => H, ⟨trivial, ⟨⟨trivial, ⟨fun _ _ _ _ H => H, fun _ => ⟨fun _ _ _ _ H => H, ⟨⟨trivial, ⟨trivial, trivial⟩⟩, ⟨trivial, trivial⟩⟩⟩⟩⟩, ⟨trivial, trivial⟩⟩⟩⟩⟩)
    (Eq.mpr (by as_aux_lemma => kernel_rfl : evF prog f132 (s132_A Ψ) Ψ [x] h = s132 Ψ x h) H)

/- 144 dictum/worlds.reckon -/
abbrev s144l1_T := AVal → Int → AVal → Int → Int → Heap → Prop
def s144l1_R (F : s144l1_T) (l : List AVal) (h : Heap) : Prop := J.cons l fun x0 l => J.cons l fun v l => J.int .i64 v fun x1 => J.cons l fun x2 l => J.cons l fun v l => J.int .i64 v fun x3 => J.cons l fun v l => J.int .i64 v fun x4 => J.nil l (F x0 x1 x2 x3 x4 h)
def s144l1_G (F : s144l1_T) (x0 : AVal) (x1 : Int) (x2 : AVal) (x3 x4 : Int) (h : Heap) : Prop := gJ [.any, .int .i64, .any, .int .i64, .int .i64] [x0, (.int .i64 x1), x2, (.int .i64 x3), (.int .i64 x4)] h (s144l1_R F)
def s144l1_E (F : Nat → s144l1_T) (x0 : AVal) (x1 : Int) (x2 : AVal) (x3 x4 : Int) (h : Heap) : Prop := gJ [.any, .int .i64, .any, .int .i64, .int .i64] [x0, (.int .i64 x1), x2, (.int .i64 x3), (.int .i64 x4)] h (fun l h => ∃ n, s144l1_R (F n) l h)
theorem s144l1_go {F : s144l1_T} {x0 : AVal} {x1 : Int} {x2 : AVal} {x3 x4 : Int} {h : Heap} (H : F x0 x1 x2 x3 x4 h) : s144l1_G F x0 x1 x2 x3 x4 h := gJ_plain rfl H
theorem s144l1_in {F : Nat → s144l1_T} {x0 : AVal} {x1 : Int} {x2 : AVal} {x3 x4 : Int} {h : Heap} (n : Nat) (H : F n x0 x1 x2 x3 x4 h) : s144l1_E F x0 x1 x2 x3 x4 h := gJ_plain rfl ⟨n, H⟩

abbrev s144l2_T := AVal → Int → AVal → AVal → AVal → Int → Int → Heap → Prop
def s144l2_R (F : s144l2_T) (l : List AVal) (h : Heap) : Prop := J.cons l fun x0 l => J.cons l fun v l => J.int .i64 v fun x1 => J.cons l fun x2 l => J.cons l fun x3 l => J.cons l fun x4 l => J.cons l fun v l => J.int .i64 v fun x5 => J.cons l fun v l => J.int .i64 v fun x6 => J.nil l (F x0 x1 x2 x3 x4 x5 x6 h)
def s144l2_G (F : s144l2_T) (x0 : AVal) (x1 : Int) (x2 x3 x4 : AVal) (x5 x6 : Int) (h : Heap) : Prop := gJ [.any, .int .i64, .any, .any, .any, .int .i64, .int .i64] [x0, (.int .i64 x1), x2, x3, x4, (.int .i64 x5), (.int .i64 x6)] h (s144l2_R F)
def s144l2_E (F : Nat → s144l2_T) (x0 : AVal) (x1 : Int) (x2 x3 x4 : AVal) (x5 x6 : Int) (h : Heap) : Prop := gJ [.any, .int .i64, .any, .any, .any, .int .i64, .int .i64] [x0, (.int .i64 x1), x2, x3, x4, (.int .i64 x5), (.int .i64 x6)] h (fun l h => ∃ n, s144l2_R (F n) l h)
theorem s144l2_go {F : s144l2_T} {x0 : AVal} {x1 : Int} {x2 x3 x4 : AVal} {x5 x6 : Int} {h : Heap} (H : F x0 x1 x2 x3 x4 x5 x6 h) : s144l2_G F x0 x1 x2 x3 x4 x5 x6 h := gJ_plain rfl H
theorem s144l2_in {F : Nat → s144l2_T} {x0 : AVal} {x1 : Int} {x2 x3 x4 : AVal} {x5 x6 : Int} {h : Heap} (n : Nat) (H : F n x0 x1 x2 x3 x4 x5 x6 h) : s144l2_E F x0 x1 x2 x3 x4 x5 x6 h := gJ_plain rfl ⟨n, H⟩

abbrev s144l3_T := AVal → Int → AVal → AVal → AVal → Int → Int → AVal → Int → Int → Heap → Prop
def s144l3_R (F : s144l3_T) (l : List AVal) (h : Heap) : Prop := J.cons l fun x0 l => J.cons l fun v l => J.int .i64 v fun x1 => J.cons l fun x2 l => J.cons l fun x3 l => J.cons l fun x4 l => J.cons l fun v l => J.int .i64 v fun x5 => J.cons l fun v l => J.int .i64 v fun x6 => J.cons l fun x7 l => J.cons l fun v l => J.int .i64 v fun x8 => J.cons l fun v l => J.int .i64 v fun x9 => J.nil l (F x0 x1 x2 x3 x4 x5 x6 x7 x8 x9 h)
def s144l3_G (F : s144l3_T) (x0 : AVal) (x1 : Int) (x2 x3 x4 : AVal) (x5 x6 : Int) (x7 : AVal) (x8 x9 : Int) (h : Heap) : Prop := gJ [.any, .int .i64, .any, .any, .any, .int .i64, .int .i64, .any, .int .i64, .int .i64] [x0, (.int .i64 x1), x2, x3, x4, (.int .i64 x5), (.int .i64 x6), x7, (.int .i64 x8), (.int .i64 x9)] h (s144l3_R F)
def s144l3_E (F : Nat → s144l3_T) (x0 : AVal) (x1 : Int) (x2 x3 x4 : AVal) (x5 x6 : Int) (x7 : AVal) (x8 x9 : Int) (h : Heap) : Prop := gJ [.any, .int .i64, .any, .any, .any, .int .i64, .int .i64, .any, .int .i64, .int .i64] [x0, (.int .i64 x1), x2, x3, x4, (.int .i64 x5), (.int .i64 x6), x7, (.int .i64 x8), (.int .i64 x9)] h (fun l h => ∃ n, s144l3_R (F n) l h)
theorem s144l3_go {F : s144l3_T} {x0 : AVal} {x1 : Int} {x2 x3 x4 : AVal} {x5 x6 : Int} {x7 : AVal} {x8 x9 : Int} {h : Heap} (H : F x0 x1 x2 x3 x4 x5 x6 x7 x8 x9 h) : s144l3_G F x0 x1 x2 x3 x4 x5 x6 x7 x8 x9 h := gJ_plain rfl H
theorem s144l3_in {F : Nat → s144l3_T} {x0 : AVal} {x1 : Int} {x2 x3 x4 : AVal} {x5 x6 : Int} {x7 : AVal} {x8 x9 : Int} {h : Heap} (n : Nat) (H : F n x0 x1 x2 x3 x4 x5 x6 x7 x8 x9 h) : s144l3_E F x0 x1 x2 x3 x4 x5 x6 x7 x8 x9 h := gJ_plain rfl ⟨n, H⟩

def s144c4 (Ψ : AVal → Heap → Prop) (L1 : s144l1_T) (L2 : s144l2_T) (L3 : s144l3_T) (m3 : AVal) (n12 : Int) (above3 row2 stack2 : AVal) (t18_3 t19_3 : Int) (t51_1 : AVal) (t52_1 t53_1 : Int) (h : Heap) : Prop :=
  rg (t53_1 + 1) (
    L3 m3 n12 above3 row2 stack2 t18_3 t19_3 t51_1 t52_1 (t53_1 + 1) h)

def s144c5 (Ψ : AVal → Heap → Prop) (L1 : s144l1_T) (L2 : s144l2_T) (L3 : s144l3_T) (m4 : AVal) (n13 : Int) (above4 row3 stack3 : AVal) (b t18_4 t19_4 : Int) (t51_2 : AVal) (t52_2 t53_2 : Int) (t63 : Bool) (h : Heap) : Prop :=
  ifT t63 (
    retG (.tuple [.nilfunc, (.bool false)]) h Ψ) (
    ixS 1 row3 b fun p6 =>
    ld1 h p6 fun v11 =>
    tBool v11 fun v12 =>
    ifT (!v12) (
      ixS 1 row3 b fun p7 =>
      st true h p7 [(.bool true)] fun h_7 =>
      appC 1 8 h_7 stack3 (.lsl 1 [(.int .i64 b)]) fun v13 h_8 =>
      s144c4 Ψ L1 L2 L3 m4 n13 above4 row3 v13 t18_4 t19_4 t51_2 t52_2 t53_2 h_8) (
      s144c4 Ψ L1 L2 L3 m4 n13 above4 row3 stack3 t18_4 t19_4 t51_2 t52_2 t53_2 h))

def s144l3 (Ψ : AVal → Heap → Prop) (L1 : s144l1_T) (L2 : s144l2_T) : Nat → s144l3_T
  | 0, _, _, _, _, _, _, _, _, _, _, _ => False
  | n11 + 1, m2, n10, above2, row1, stack1, t18_2, t19_2, t51, t52, t53, h =>
    ifT (decide (t53 < t52)) (
      ixS 1 t51 t53 fun p5 =>
      ld1 h p5 fun v9 =>
      tInt .i64 v9 fun v10 =>
      ifT (decide (v10 < 0)) (
        s144c5 Ψ L1 L2 (s144l3_G (s144l3 Ψ L1 L2 n11)) m2 n10 above2 row1 stack1 v10 t18_2 t19_2 t51 t52 t53 true h) (
        s144c5 Ψ L1 L2 (s144l3_G (s144l3 Ψ L1 L2 n11)) m2 n10 above2 row1 stack1 v10 t18_2 t19_2 t51 t52 t53 (decide (n10 ≤ v10)) h)) (
      L2 m2 n10 above2 row1 stack1 t18_2 t19_2 h)

def s144l2 (Ψ : AVal → Heap → Prop) (L1 : s144l1_T) : Nat → s144l2_T
  | 0, _, _, _, _, _, _, _, _ => False
  | n5 + 1, m1, n4, above1, row, stack, t18_1, t19_1, h =>
    lenN stack fun n6 =>
    ifT (decide (0 < n6)) (
      lenN stack fun n7 =>
      rg (n7 - 1) (
        ixS 1 stack (n7 - 1) fun p2 =>
        ld1 h p2 fun v4 =>
        tInt .i64 v4 fun v5 =>
        lenN stack fun n8 =>
        rg (n8 - 1) (
          slX 1 stack 0 (some (n8 - 1)) fun v6 =>
          addOff m1 0 fun p3 =>
          ld1 h p3 fun v7 =>
          ixS 1 v7 v5 fun p4 =>
          ld1 h p4 fun v8 =>
          lenN v8 fun n9 =>
          s144l3_E (s144l3 Ψ L1 (s144l2_G (s144l2 Ψ L1 n5))) m1 n4 above1 row v6 t18_1 t19_1 v8 n9 0 h))) (
      rg (t19_1 + 1) (
        L1 m1 n4 above1 t18_1 (t19_1 + 1) h))

def s144l1 (Ψ : AVal → Heap → Prop) : Nat → s144l1_T
  | 0, _, _, _, _, _, _ => False
  | n3 + 1, m, n2, above, t18, t19, h =>
    ifT (decide (t19 < t18)) (
      mkS false 1 1 (.bool false) h n2 n2 fun v2 h_3 =>
      ld1 h_3 above fun v3 =>
      ixS 1 v3 t19 fun p =>
      chk (sc v2) (
        st true h_3 p [v2] fun h_4 =>
        ixS 1 v2 t19 fun p1 =>
        st true h_4 p1 [(.bool true)] fun h_5 =>
        Sym.newRow 1 [(.int .i64 t19)] h_5 fun r1 h_6 =>
        s144l2_E (s144l2 Ψ (s144l1_G (s144l1 Ψ n3))) m n2 above v2 (.sl r1 1 0 1) t18 t19 h_6)) (
      retG (.tuple [(.func (.func 150) [] [above]), (.bool true)]) h Ψ)

def s144 (Ψ : AVal → Heap → Prop) (m_Up : AVal) (m_Val : AVal) (h : Heap) : Prop :=
  lenN m_Up fun n =>
  mkS false 1 24 .nilsl h n n fun v h_ =>
  Sym.newRow 1 [.nilsl] h_ fun r h_1 =>
  chk (sc v) (
    st true h_1 (.ptr r 0 0) [v] fun h_2 =>
    ld1 h_2 (.ptr r 0 0) fun v1 =>
    lenN v1 fun n1 =>
    s144l1_E (s144l1 Ψ) (.lptr [m_Up, m_Val]) n (.ptr r 0 0) n1 0 h_2)

def s144_A (Ψ : AVal → Heap → Prop) : Ann :=
  .seq (.reg [⟨none, [(0, true), (1, false), (2, false)]⟩])
  (.seq (rA 4)
  (.seq (rA 4)
  (.seq (.seq (rA 3)
  (.block (.loop [(1, .any), (4, .int .i64), (5, .any), (18, .int .i64), (19, .int .i64)] (fun n l h => s144l1_R (s144l1 Ψ n) l h) (fun L1 =>
  .seq (rA 1)
  (.seq (.cond (.leaf)
  (.leaf))
  (.seq (.block (.seq (rA 2)
  (.seq (rA 3)
  (.seq (rA 5)
  (.seq (rA 4)
  (.seq (rA 3)
  (.block (.loop [(1, .any), (4, .int .i64), (5, .any), (7, .any), (8, .any), (18, .int .i64), (19, .int .i64)] (fun n l h => s144l2_R (s144l2 Ψ (fun y0 y1 y2 y3 y4 h => L1 [y0, (.int .i64 y1), y2, (.int .i64 y3), (.int .i64 y4)] h) n) l h) (fun L2 =>
  .seq (.seq (rA 3)
  (.cond (.leaf)
  (.leaf)))
  (.block (.seq (rA 7)
  (.seq (rA 6)
  (.seq (rA 7)
  (.block (.loop [(1, .any), (4, .int .i64), (5, .any), (7, .any), (8, .any), (18, .int .i64), (19, .int .i64), (51, .any), (52, .int .i64), (53, .int .i64)] (fun n l h => s144l3_R (s144l3 Ψ (fun y0 y1 y2 y3 y4 h => L1 [y0, (.int .i64 y1), y2, (.int .i64 y3), (.int .i64 y4)] h) (fun y0 y1 y2 y3 y4 y5 y6 h => L2 [y0, (.int .i64 y1), y2, y3, y4, (.int .i64 y5), (.int .i64 y6)] h) n) l h) (fun L3 =>
  .seq (rA 1)
  (.seq (.cond (.leaf)
  (.leaf))
  (.cut [(1, .any), (4, .int .i64), (5, .any), (7, .any), (8, .any), (18, .int .i64), (19, .int .i64), (51, .any), (52, .int .i64), (53, .int .i64)] (fun l h => J.cons l fun x0 l => J.cons l fun v l => J.int .i64 v fun x1 => J.cons l fun x2 l => J.cons l fun x3 l => J.cons l fun x4 l => J.cons l fun v l => J.int .i64 v fun x5 => J.cons l fun v l => J.int .i64 v fun x6 => J.cons l fun x7 l => J.cons l fun v l => J.int .i64 v fun x8 => J.cons l fun v l => J.int .i64 v fun x9 => J.nil l (s144c4 Ψ (fun y0 y1 y2 y3 y4 h => L1 [y0, (.int .i64 y1), y2, (.int .i64 y3), (.int .i64 y4)] h) (fun y0 y1 y2 y3 y4 y5 y6 h => L2 [y0, (.int .i64 y1), y2, y3, y4, (.int .i64 y5), (.int .i64 y6)] h) (fun y0 y1 y2 y3 y4 y5 y6 y7 y8 y9 h => L3 [y0, (.int .i64 y1), y2, y3, y4, (.int .i64 y5), (.int .i64 y6), y7, (.int .i64 y8), (.int .i64 y9)] h) x0 x1 x2 x3 x4 x5 x6 x7 x8 x9 h)) (.block (.seq (rA 3)
  (.seq (.cut [(1, .any), (4, .int .i64), (5, .any), (7, .any), (8, .any), (11, .int .i64), (18, .int .i64), (19, .int .i64), (51, .any), (52, .int .i64), (53, .int .i64), (63, .bool)] (fun l h => J.cons l fun x0 l => J.cons l fun v l => J.int .i64 v fun x1 => J.cons l fun x2 l => J.cons l fun x3 l => J.cons l fun x4 l => J.cons l fun v l => J.int .i64 v fun x5 => J.cons l fun v l => J.int .i64 v fun x6 => J.cons l fun v l => J.int .i64 v fun x7 => J.cons l fun x8 l => J.cons l fun v l => J.int .i64 v fun x9 => J.cons l fun v l => J.int .i64 v fun x10 => J.cons l fun v l => J.bool v fun x11 => J.nil l (s144c5 Ψ (fun y0 y1 y2 y3 y4 h => L1 [y0, (.int .i64 y1), y2, (.int .i64 y3), (.int .i64 y4)] h) (fun y0 y1 y2 y3 y4 y5 y6 h => L2 [y0, (.int .i64 y1), y2, y3, y4, (.int .i64 y5), (.int .i64 y6)] h) (fun y0 y1 y2 y3 y4 y5 y6 y7 y8 y9 h => L3 [y0, (.int .i64 y1), y2, y3, y4, (.int .i64 y5), (.int .i64 y6), y7, (.int .i64 y8), (.int .i64 y9)] h) x0 x1 x2 x3 x4 x5 x6 x7 x8 x9 x10 x11 h)) (.reg [⟨none, [(0, false), (1, false), (2, false)]⟩, ⟨some (59, false), [(3, false), (4, false), (5, false)]⟩, ⟨none, [(6, false)]⟩])
  (.cond (.seq (rA 2)
  (.leaf))
  (.leaf)))
  (.seq (rA 5)
  (.cond (.seq (rA 4)
  (.reg [⟨none, [(0, false), (1, false), (2, true), (3, false), (4, false)]⟩]))
  (.leaf))))))
  (rA 2)))))))))))))))))))
  (rA 2)))))))
  (.seq (rA 3)
  (.leaf)))))

theorem s144_ok {Ψ : AVal → Heap → Prop} {m_Up : AVal} {m_Val : AVal} {h : Heap} (H : s144 Ψ m_Up m_Val h) : ACalls prog 144 [(.agg [m_Up, m_Val])] h Ψ :=
  calls_of_evF func144 (by kernel_rfl) (by kernel_rfl) (by kernel_rfl)
    (Eq.mpr (by as_aux_lemma => kernel_rfl : oblF prog f144 (s144_A Ψ) Ψ = (True ∧ True ∧ True ∧ (True ∧ (∀ (h : Heap) (x0 : AVal) (x1 : Int) (x2 : AVal) (x3 x4 : Int), ON (s144l1 Ψ 0 x0 x1 x2 x3 x4 h)) ∧ ∀ n1 : Nat, (∀ (h : Heap) (x0 : AVal) (x1 : Int) (x2 : AVal) (x3 x4 : Int), OI (s144l1 Ψ (n1 + 1) x0 x1 x2 x3 x4 h)) ∧ (True ∧ (True ∧ True) ∧ (True ∧ True ∧ True ∧ True ∧ True ∧ (∀ (h : Heap) (x0 : AVal) (x1 : Int) (x2 x3 x4 : AVal) (x5 x6 : Int), ON (s144l2 Ψ (s144l1_G (s144l1 Ψ n1)) 0 x0 x1 x2 x3 x4 x5 x6 h)) ∧ ∀ n2 : Nat, (∀ (h : Heap) (x0 : AVal) (x1 : Int) (x2 x3 x4 : AVal) (x5 x6 : Int), OI (s144l2 Ψ (s144l1_G (s144l1 Ψ n1)) (n2 + 1) x0 x1 x2 x3 x4 x5 x6 h)) ∧ ((True ∧ True ∧ True) ∧ True ∧ True ∧ True ∧ (∀ (h : Heap) (x0 : AVal) (x1 : Int) (x2 x3 x4 : AVal) (x5 x6 : Int) (x7 : AVal) (x8 x9 : Int), ON (s144l3 Ψ (s144l1_G (s144l1 Ψ n1)) (s144l2_G (s144l2 Ψ (s144l1_G (s144l1 Ψ n1)) n2)) 0 x0 x1 x2 x3 x4 x5 x6 x7 x8 x9 h)) ∧ ∀ n3 : Nat, (∀ (h : Heap) (x0 : AVal) (x1 : Int) (x2 x3 x4 : AVal) (x5 x6 : Int) (x7 : AVal) (x8 x9 : Int), OI (s144l3 Ψ (s144l1_G (s144l1 Ψ n1)) (s144l2_G (s144l2 Ψ (s144l1_G (s144l1 Ψ n1)) n2)) (n3 + 1) x0 x1 x2 x3 x4 x5 x6 x7 x8 x9 h)) ∧ (True ∧ (True ∧ True) ∧ (True ∧ ((True) ∧ (∀ (h : Heap) (x0 : AVal) (x1 : Int) (x2 x3 x4 : AVal) (x5 x6 x7 : Int) (x8 : AVal) (x9 x10 : Int) (x11 : Bool), OI (s144c5 Ψ (s144l1_G (s144l1 Ψ n1)) (s144l2_G (s144l2 Ψ (s144l1_G (s144l1 Ψ n1)) n2)) (s144l3_G (s144l3 Ψ (s144l1_G (s144l1 Ψ n1)) (s144l2_G (s144l2 Ψ (s144l1_G (s144l1 Ψ n1)) n2)) n3)) x0 x1 x2 x3 x4 x5 x6 x7 x8 x9 x10 x11 h)) ∧ ((True ∧ True) ∧ True)) ∧ True ∧ (True ∧ True) ∧ True) ∧ (∀ (h : Heap) (x0 : AVal) (x1 : Int) (x2 x3 x4 : AVal) (x5 x6 : Int) (x7 : AVal) (x8 x9 : Int), OI (s144c4 Ψ (s144l1_G (s144l1 Ψ n1)) (s144l2_G (s144l2 Ψ (s144l1_G (s144l1 Ψ n1)) n2)) (s144l3_G (s144l3 Ψ (s144l1_G (s144l1 Ψ n1)) (s144l2_G (s144l2 Ψ (s144l1_G (s144l1 Ψ n1)) n2)) n3)) x0 x1 x2 x3 x4 x5 x6 x7 x8 x9 h)) ∧ (True)))) ∧ True)) ∧ True ∧ True)) ⟨trivial, ⟨trivial, ⟨trivial, ⟨⟨trivial, ⟨fun _ _ _ _ _ _ H => H, fun _ => ⟨fun _ _ _ _ _ _ H => H, ⟨trivial, ⟨⟨trivial, trivial⟩, ⟨⟨trivial, ⟨trivial, ⟨trivial, ⟨trivial, ⟨trivial, ⟨fun _ _ _ _ _ _ _ _ H => H, fun _ => ⟨fun _ _ _ _ _ _ _ _ H => H, ⟨⟨trivial, ⟨trivial, trivial⟩⟩, ⟨trivial, ⟨trivial, ⟨trivial, ⟨fun _ _ _ _ _ _ _ _ _ _ _ H => H, fun _ => ⟨fun _ _ _ _ _ _ _ _ _ _ _ H => H, ⟨trivial, ⟨⟨trivial, trivial⟩, ⟨⟨trivial, ⟨⟨trivial, fun _ _ _ _ _ _ _ _ _ _ _ _ _ H => H, ⟨⟨trivial, trivial⟩, trivial⟩⟩, ⟨trivial, ⟨⟨trivial, trivial⟩, trivial⟩⟩⟩⟩, fun _ _ _ _ _ _ _ _ _ _ _ H => H, trivial⟩⟩⟩⟩⟩⟩⟩⟩⟩⟩⟩⟩⟩⟩⟩⟩, trivial⟩⟩⟩⟩⟩⟩, ⟨trivial, trivial⟩⟩⟩⟩⟩)
    (Eq.mpr (by as_aux_lemma => kernel_rfl : evF prog f144 (s144_A Ψ) Ψ [(.agg [m_Up, m_Val])] h = s144 Ψ m_Up m_Val h) H)

/- 146 slices.ContainsFunc[[]string,string] -/
def s146 (Ψ : AVal → Heap → Prop) (s : AVal) (f : AVal) (h : Heap) : Prop :=
  callG prog 151 [s, f] h fun v h_ =>
  tInt .i64 v fun v1 =>
  retG (.bool (decide (0 ≤ v1))) h_ Ψ

def s146_A (Ψ : AVal → Heap → Prop) : Ann :=
  .seq (rA 1)
  (.seq (rA 5)
  (.leaf))

theorem s146_ok {Ψ : AVal → Heap → Prop} {s : AVal} {f : AVal} {h : Heap} (H : s146 Ψ s f h) : ACalls prog 146 [s, f] h Ψ :=
  calls_of_evF func146 (by kernel_rfl) (by kernel_rfl) (by kernel_rfl)
    (Eq.mpr (by as_aux_lemma => kernel_rfl : oblF prog f146 (s146_A Ψ) Ψ = (True ∧ True ∧ True)) ⟨trivial, ⟨trivial, trivial⟩⟩)
    (Eq.mpr (by as_aux_lemma => kernel_rfl : evF prog f146 (s146_A Ψ) Ψ [s, f] h = s146 Ψ s f h) H)

/- 150 dictum/worlds.reckon$1 -/
def s150 (Ψ : AVal → Heap → Prop) (a : Int) (b : Int) (c0 : AVal) (h : Heap) : Prop :=
  ld1 h c0 fun v =>
  ixS 1 v a fun p =>
  ld1 h p fun v1 =>
  ixS 1 v1 b fun p1 =>
  ld1 h p1 fun v2 =>
  tBool v2 fun v3 =>
  retG (.bool v3) h Ψ

def s150_A (Ψ : AVal → Heap → Prop) : Ann :=
  .seq (rA 1)
  (.seq (rA 8)
  (.leaf))

theorem s150_ok {Ψ : AVal → Heap → Prop} {a : Int} {b : Int} {c0 : AVal} {h : Heap} (H : s150 Ψ a b c0 h) : ACalls prog 150 [(.int .i64 a), (.int .i64 b), c0] h Ψ :=
  calls_of_evF func150 (by kernel_rfl) (by kernel_rfl) (by kernel_rfl)
    (Eq.mpr (by as_aux_lemma => kernel_rfl : oblF prog f150 (s150_A Ψ) Ψ = (True ∧ True ∧ True)) ⟨trivial, ⟨trivial, trivial⟩⟩)
    (Eq.mpr (by as_aux_lemma => kernel_rfl : evF prog f150 (s150_A Ψ) Ψ [(.int .i64 a), (.int .i64 b), c0] h = s150 Ψ a b c0 h) H)

end Go.Proofs.YtobpfhmjdoekfaaGreat

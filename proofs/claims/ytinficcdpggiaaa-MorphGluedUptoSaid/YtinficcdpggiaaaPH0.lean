/- The functions that the proof meets, each as a text that Lean has checked against the program. No condition. -/
import Derived.Test.YtinficcdpggiaaaM3
import Derived.Test.YtinficcdpggiaaaChecked
namespace Go.Proofs.Ytinficcdpggiaaa
open Go Go.Sym Go.Proofs.Try
set_option maxRecDepth 100000
set_option linter.unusedVariables false

/- 4 dictum/dictumlaw19.MorphGlues -/
def s4l1_R (F : AVal → AVal → AVal → Int → Heap → Prop) (l : List AVal) (h : Heap) : Prop := J.cons l fun x0 l => J.cons l fun x1 l => J.cons l fun x2 l => J.cons l fun v l => J.int .i64 v fun x3 => J.nil l (F x0 x1 x2 x3 h)
def s4l1_G (F : AVal → AVal → AVal → Int → Heap → Prop) (x0 : AVal) (x1 : AVal) (x2 : AVal) (x3 : Int) (h : Heap) : Prop := gJ [.any, .any, .any, .int .i64] [x0, x1, x2, (.int .i64 x3)] h (s4l1_R F)
def s4l1_E (F : Nat → AVal → AVal → AVal → Int → Heap → Prop) (x0 : AVal) (x1 : AVal) (x2 : AVal) (x3 : Int) (h : Heap) : Prop := gJ [.any, .any, .any, .int .i64] [x0, x1, x2, (.int .i64 x3)] h (fun l h => ∃ n, s4l1_R (F n) l h)
theorem s4l1_go {F : AVal → AVal → AVal → Int → Heap → Prop} {x0 : AVal} {x1 : AVal} {x2 : AVal} {x3 : Int} {h : Heap} (H : F x0 x1 x2 x3 h) : s4l1_G F x0 x1 x2 x3 h := gJ_plain rfl H
theorem s4l1_in {F : Nat → AVal → AVal → AVal → Int → Heap → Prop} {x0 : AVal} {x1 : AVal} {x2 : AVal} {x3 : Int} {h : Heap} (n : Nat) (H : F n x0 x1 x2 x3 h) : s4l1_E F x0 x1 x2 x3 h := gJ_plain rfl ⟨n, H⟩

def s4l3_R (F : AVal → AVal → Int → Heap → Prop) (l : List AVal) (h : Heap) : Prop := J.cons l fun x0 l => J.cons l fun x1 l => J.cons l fun v l => J.int .i64 v fun x2 => J.nil l (F x0 x1 x2 h)
def s4l3_G (F : AVal → AVal → Int → Heap → Prop) (x0 : AVal) (x1 : AVal) (x2 : Int) (h : Heap) : Prop := gJ [.any, .any, .int .i64] [x0, x1, (.int .i64 x2)] h (s4l3_R F)
def s4l3_E (F : Nat → AVal → AVal → Int → Heap → Prop) (x0 : AVal) (x1 : AVal) (x2 : Int) (h : Heap) : Prop := gJ [.any, .any, .int .i64] [x0, x1, (.int .i64 x2)] h (fun l h => ∃ n, s4l3_R (F n) l h)
theorem s4l3_go {F : AVal → AVal → Int → Heap → Prop} {x0 : AVal} {x1 : AVal} {x2 : Int} {h : Heap} (H : F x0 x1 x2 h) : s4l3_G F x0 x1 x2 h := gJ_plain rfl H
theorem s4l3_in {F : Nat → AVal → AVal → Int → Heap → Prop} {x0 : AVal} {x1 : AVal} {x2 : Int} {h : Heap} (n : Nat) (H : F n x0 x1 x2 h) : s4l3_E F x0 x1 x2 h := gJ_plain rfl ⟨n, H⟩

def s4l3 (Ψ : AVal → Heap → Prop) : Nat → AVal → AVal → Int → Heap → Prop
  | 0, _, _, _, _ => False
  | n2 + 1, l_23, own2, i1, h =>
    lenN l_23 fun n3 =>
    ifT (decide (i1 < n3)) (
      ixS 2 own2 i1 fun p1 =>
      ldN 2 h p1 fun l_24 =>
      tCons l_24 fun v21 l_25 =>
      tCons l_25 fun v22 l_26 =>
      tNil l_26 (
        ixS 2 l_23 i1 fun p2 =>
        ldN 2 h p2 fun l_27 =>
        tCons l_27 fun v23 l_28 =>
        tCons l_28 fun v24 l_29 =>
        tNil l_29 (
          callG prog 19 [(.agg [v21, v22]), (.agg [v23, v24])] h fun v25 h_10 =>
          tBool v25 fun v26 =>
          ifT (!v26) (
            retG (.bool false) h_10 Ψ) (
            rg (i1 + 1) (
              s4l3_G (s4l3 Ψ n2) l_23 own2 (i1 + 1) h_10))))) (
      callG prog 20 [] h fun v27 h_11 =>
      tBool v27 fun v28 =>
      retG (.bool v28) h_11 Ψ)

def s4c2 (Ψ : AVal → Heap → Prop) (l_22 : AVal) (own1 : AVal) (t59 : Bool) (h : Heap) : Prop :=
  ifT t59 (
    retG (.bool false) h Ψ) (
    s4l3_E (s4l3 Ψ) l_22 own1 0 h)

def s4l1 (Ψ : AVal → Heap → Prop) : Nat → AVal → AVal → AVal → Int → Heap → Prop
  | 0, _, _, _, _, _ => False
  | n + 1, l_1, atoms1, own, i, h =>
    lenN l_1 fun n1 =>
    ifT (decide (i < n1)) (
      ixS 2 l_1 i fun p =>
      ldN 2 h p fun l_2 =>
      tCons l_2 fun v l_3 =>
      tCons l_3 fun v1 l_4 =>
      tNil l_4 (
        callG prog 8 [(.agg [v, v1])] h fun v2 h_ =>
        tAgg v2 fun l_5 =>
        tCons l_5 fun v3 l_6 =>
        tCons l_6 fun v4 l_7 =>
        tNil l_7 (
          appC 2 48 h_ own (.lsl 2 [(.agg [v3, v4])]) fun v5 h_1 =>
          rg (i + 1) (
            s4l1_G (s4l1 Ψ n) l_1 atoms1 v5 (i + 1) h_1)))) (
      Sym.newRow 1 [] h fun r h_2 =>
      appC 1 16 h_2 (.sl r 1 0 0) atoms1 (litG true fun v6 h_3 =>
      callG prog 21 [own, v6] h_3 fun v7 h_4 =>
      tTup v7 fun l_8 =>
      tCons l_8 fun v8 l_9 =>
      tCons l_9 fun v9 l_10 =>
      tCons l_10 fun v10 l_11 =>
      tInt .i64 v10 fun v11 =>
      tNil l_11 (
        tAgg v8 fun l_12 =>
        tCons l_12 fun v12 l_13 =>
        tCons l_13 fun v13 l_14 =>
        tNil l_14 (
          Sym.newRow 2 [(.agg [.nilsl, .nilsl])] h_4 fun r1 h_5 =>
          st false h_5 (.ptr r1 0 0) [v12, v13] fun h_6 =>
          callG prog 22 [l_1, atoms1] h_6 fun v14 h_7 =>
          tTup v14 fun l_15 =>
          tCons l_15 fun v15 l_16 =>
          tCons l_16 fun v16 l_17 =>
          tCons l_17 fun v17 l_18 =>
          tInt .i64 v17 fun v18 =>
          tNil l_18 (
            tAgg v15 fun l_19 =>
            tCons l_19 fun v19 l_20 =>
            tCons l_20 fun v20 l_21 =>
            tNil l_21 (
              Sym.newRow 2 [(.agg [.nilsl, .nilsl])] h_7 fun r2 h_8 =>
              st false h_8 (.ptr r2 0 0) [v19, v20] fun h_9 =>
              ldN 2 h_9 (.ptr r1 0 0) fun l_30 =>
              tCons l_30 fun v29 l_31 =>
              tCons l_31 fun v30 l_32 =>
              tNil l_32 (
                ldN 2 h_9 (.ptr r2 0 0) fun l_33 =>
                tCons l_33 fun v31 l_34 =>
                tCons l_34 fun v32 l_35 =>
                tNil l_35 (
                  callG prog 11 [(.agg [v29, v30]), v9, (.int .i64 v11), (.agg [v31, v32]), v16, (.int .i64 v18)] h_9 fun v33 h_12 =>
                  tBool v33 fun v34 =>
                  ifT (!v34) (
                    s4c2 Ψ l_1 own true h_12) (
                    callG prog 23 [v6, atoms1] h_12 fun v35 h_13 =>
                    tBool v35 fun v36 =>
                    s4c2 Ψ l_1 own (!v36) h_13)))))))))

def s4 (Ψ : AVal → Heap → Prop) (l_ : AVal) (atoms : AVal) (h : Heap) : Prop :=
  s4l1_E (s4l1 Ψ) l_ atoms .nilsl 0 h

def s4_A (Ψ : AVal → Heap → Prop) : Ann :=
  .seq (.reg [⟨none, [(0, false)]⟩])
  (.seq (.reg [⟨none, [(0, false)]⟩])
  (.seq (.seq (.reg [⟨none, [(0, false)]⟩])
  (.block (.loop [(0, .any), (1, .any), (5, .any), (6, .int .i64)] (fun n l h => s4l1_R (s4l1 Ψ n) l h) (fun L1 =>
  .seq (.seq (.reg [⟨none, [(0, false), (1, false), (2, false), (3, false)]⟩])
  (.cond (.leaf)
  (.leaf)))
  (.seq (.block (.reg [⟨none, [(0, false), (1, false), (2, false), (3, false), (4, false), (5, false), (6, true), (7, false), (8, false)]⟩]))
  (.reg [⟨none, [(0, false), (1, false), (2, false)]⟩]))))))
  (.seq (.reg [⟨none, [(0, false), (1, false), (2, true), (3, false)]⟩])
  (.seq (.reg [⟨none, [(0, false), (1, false), (2, false), (3, false), (4, false), (5, false), (6, false), (7, false), (8, false), (9, false), (10, false)]⟩])
  (.seq (.reg [⟨none, [(0, false), (1, false), (2, false), (3, false), (4, false), (5, false), (6, false), (7, false), (8, false), (9, false), (10, false)]⟩])
  (.seq (.cut [(0, .any), (5, .any), (59, .bool)] (fun l h => J.cons l fun x0 l => J.cons l fun x1 l => J.cons l fun v l => J.bool v fun x2 => J.nil l (s4c2 Ψ x0 x1 x2 h)) (.reg [⟨none, [(0, false), (1, false), (2, false), (3, false), (4, false), (5, false), (6, false), (7, false), (8, false)]⟩, ⟨some (54, false), [(9, false), (10, false), (11, false), (12, false)]⟩, ⟨none, [(13, false)]⟩])
  (.cond (.seq (.reg [⟨none, [(0, false)]⟩])
  (.leaf))
  (.leaf)))
  (.seq (.seq (.reg [⟨none, [(0, false)]⟩])
  (.block (.loop [(0, .any), (5, .any), (14, .int .i64)] (fun n l h => s4l3_R (s4l3 Ψ n) l h) (fun L3 =>
  .seq (.seq (.reg [⟨none, [(0, false), (1, false), (2, false), (3, false)]⟩])
  (.cond (.leaf)
  (.leaf)))
  (.seq (.block (.seq (.draw [(0, false), (1, false), (2, false), (3, false), (4, false), (5, false), (6, false), (7, false), (8, false), (9, false)] [0, 0, 3, 7, 0, 0, 48, 112, 255, 511])
  (.cond (.seq (.reg [⟨none, [(0, false)]⟩])
  (.leaf))
  (.leaf))))
  (.reg [⟨none, [(0, false), (1, false), (2, false)]⟩]))))))
  (.seq (.reg [⟨none, [(0, false), (1, false)]⟩])
  (.leaf)))))))))

theorem s4_ok {Ψ : AVal → Heap → Prop} {l_ : AVal} {atoms : AVal} {h : Heap} (H : s4 Ψ l_ atoms h) : ACalls prog 4 [l_, atoms] h Ψ :=
  calls_of_evF func4 (by kernel_rfl) (by kernel_rfl) (by kernel_rfl)
    (Eq.mpr (by as_aux_lemma => kernel_rfl : oblF prog f4 (s4_A Ψ) Ψ = (True ∧ True ∧ (True ∧ (∀ (h : Heap) (x0 x1 x2 : AVal) (x3 : Int), ON (s4l1 Ψ 0 x0 x1 x2 x3 h)) ∧ ∀ n1 : Nat, (∀ (h : Heap) (x0 x1 x2 : AVal) (x3 : Int), OI (s4l1 Ψ (n1 + 1) x0 x1 x2 x3 h)) ∧ ((True ∧ True ∧ True) ∧ True ∧ True)) ∧ True ∧ True ∧ True ∧ ((True) ∧ (∀ (h : Heap) (x0 x1 : AVal) (x2 : Bool), OI (s4c2 Ψ x0 x1 x2 h)) ∧ ((True ∧ True) ∧ True)) ∧ (True ∧ (∀ (h : Heap) (x0 x1 : AVal) (x2 : Int), ON (s4l3 Ψ 0 x0 x1 x2 h)) ∧ ∀ n3 : Nat, (∀ (h : Heap) (x0 x1 : AVal) (x2 : Int), OI (s4l3 Ψ (n3 + 1) x0 x1 x2 h)) ∧ ((True ∧ True ∧ True) ∧ (True ∧ (True ∧ True) ∧ True) ∧ True)) ∧ True ∧ True)) ⟨trivial, ⟨trivial, ⟨⟨trivial, ⟨fun _ _ _ _ _ H => H, fun _ => ⟨fun _ _ _ _ _ H => H, ⟨⟨trivial, ⟨trivial, trivial⟩⟩, ⟨trivial, trivial⟩⟩⟩⟩⟩, ⟨trivial, ⟨trivial, ⟨trivial, ⟨⟨trivial, fun _ _ _ _ H => H, ⟨⟨trivial, trivial⟩, trivial⟩⟩, ⟨⟨trivial, ⟨fun _ _ _ _ H => H, fun _ => ⟨fun _ _ _ _ H => H, ⟨⟨trivial, ⟨trivial, trivial⟩⟩, ⟨⟨trivial, ⟨⟨trivial, trivial⟩, trivial⟩⟩, trivial⟩⟩⟩⟩⟩, ⟨trivial, trivial⟩⟩⟩⟩⟩⟩⟩⟩⟩)
    (Eq.mpr (by as_aux_lemma => kernel_rfl : evF prog f4 (s4_A Ψ) Ψ [l_, atoms] h = s4 Ψ l_ atoms h) H)

/- 8 dictum/dictumref17.Copy -/
def s8l1_R (F : AVal → AVal → AVal → Int → Heap → Prop) (l : List AVal) (h : Heap) : Prop := J.cons l fun x0 l => J.cons l fun x1 l => J.cons l fun x2 l => J.cons l fun v l => J.int .i64 v fun x3 => J.nil l (F x0 x1 x2 x3 h)
def s8l1_G (F : AVal → AVal → AVal → Int → Heap → Prop) (x0 : AVal) (x1 : AVal) (x2 : AVal) (x3 : Int) (h : Heap) : Prop := gJ [.any, .any, .any, .int .i64] [x0, x1, x2, (.int .i64 x3)] h (s8l1_R F)
def s8l1_E (F : Nat → AVal → AVal → AVal → Int → Heap → Prop) (x0 : AVal) (x1 : AVal) (x2 : AVal) (x3 : Int) (h : Heap) : Prop := gJ [.any, .any, .any, .int .i64] [x0, x1, x2, (.int .i64 x3)] h (fun l h => ∃ n, s8l1_R (F n) l h)
theorem s8l1_go {F : AVal → AVal → AVal → Int → Heap → Prop} {x0 : AVal} {x1 : AVal} {x2 : AVal} {x3 : Int} {h : Heap} (H : F x0 x1 x2 x3 h) : s8l1_G F x0 x1 x2 x3 h := gJ_plain rfl H
theorem s8l1_in {F : Nat → AVal → AVal → AVal → Int → Heap → Prop} {x0 : AVal} {x1 : AVal} {x2 : AVal} {x3 : Int} {h : Heap} (n : Nat) (H : F n x0 x1 x2 x3 h) : s8l1_E F x0 x1 x2 x3 h := gJ_plain rfl ⟨n, H⟩

def s8l2_R (F : AVal → AVal → AVal → Int → Heap → Prop) (l : List AVal) (h : Heap) : Prop := J.cons l fun x0 l => J.cons l fun x1 l => J.cons l fun x2 l => J.cons l fun v l => J.int .i64 v fun x3 => J.nil l (F x0 x1 x2 x3 h)
def s8l2_G (F : AVal → AVal → AVal → Int → Heap → Prop) (x0 : AVal) (x1 : AVal) (x2 : AVal) (x3 : Int) (h : Heap) : Prop := gJ [.any, .any, .any, .int .i64] [x0, x1, x2, (.int .i64 x3)] h (s8l2_R F)
def s8l2_E (F : Nat → AVal → AVal → AVal → Int → Heap → Prop) (x0 : AVal) (x1 : AVal) (x2 : AVal) (x3 : Int) (h : Heap) : Prop := gJ [.any, .any, .any, .int .i64] [x0, x1, x2, (.int .i64 x3)] h (fun l h => ∃ n, s8l2_R (F n) l h)
theorem s8l2_go {F : AVal → AVal → AVal → Int → Heap → Prop} {x0 : AVal} {x1 : AVal} {x2 : AVal} {x3 : Int} {h : Heap} (H : F x0 x1 x2 x3 h) : s8l2_G F x0 x1 x2 x3 h := gJ_plain rfl H
theorem s8l2_in {F : Nat → AVal → AVal → AVal → Int → Heap → Prop} {x0 : AVal} {x1 : AVal} {x2 : AVal} {x3 : Int} {h : Heap} (n : Nat) (H : F n x0 x1 x2 x3 h) : s8l2_E F x0 x1 x2 x3 h := gJ_plain rfl ⟨n, H⟩

def s8l2 (Ψ : AVal → Heap → Prop) : Nat → AVal → AVal → AVal → Int → Heap → Prop
  | 0, _, _, _, _, _ => False
  | n2 + 1, m1, t2_1, out1, i1, h =>
    addOff m1 1 fun p5 =>
    ld1 h p5 fun v11 =>
    lenN v11 fun n3 =>
    ifT (decide (i1 < n3)) (
      addOff out1 1 fun p6 =>
      ld1 h p6 fun v12 =>
      addOff m1 1 fun p7 =>
      ld1 h p7 fun v13 =>
      ixS 1 v13 i1 fun p8 =>
      ld1 h p8 fun v14 =>
      Sym.newRow 1 [] h fun r3 h_7 =>
      (ld1 h_7 p8 fun v15 =>
      v15 = v14) ∧
      (ld1 h_7 p7 fun v16 =>
      v16 = v13) ∧
      (ld1 h_7 p6 fun v17 =>
      v17 = v12) ∧
      appC 1 16 h_7 (.sl r3 1 0 0) v14 fun v18 h_8 =>
      (ld1 h_8 p6 fun v19 =>
      v19 = v12) ∧
      chk (sc v18) (
        (ld1 h_8 p6 fun v20 =>
        v20 = v12) ∧
        appC 1 24 h_8 v12 (.lsl 1 [v18]) fun v21 h_9 =>
        addOff out1 1 fun p9 =>
        chk (sc v21) (
          st true h_9 p9 [v21] fun h_10 =>
          rg (i1 + 1) (
            s8l2_G (s8l2 Ψ n2) m1 t2_1 out1 (i1 + 1) h_10)))) (
      ldN 2 h out1 fun l_ =>
      tCons l_ fun v22 l_1 =>
      tCons l_1 fun v23 l_2 =>
      tNil l_2 (
        st false h t2_1 [v22, v23] fun h_11 =>
        ldN 2 h_11 t2_1 fun l_3 =>
        tCons l_3 fun v24 l_4 =>
        tCons l_4 fun v25 l_5 =>
        tNil l_5 (
          retG (.agg [v24, v25]) h_11 Ψ)))

def s8l1 (Ψ : AVal → Heap → Prop) : Nat → AVal → AVal → AVal → Int → Heap → Prop
  | 0, _, _, _, _, _ => False
  | n + 1, m, t2, out, i, h =>
    addOff m 0 fun p =>
    ld1 h p fun v =>
    lenN v fun n1 =>
    ifT (decide (i < n1)) (
      addOff out 0 fun p1 =>
      ld1 h p1 fun v1 =>
      addOff m 0 fun p2 =>
      ld1 h p2 fun v2 =>
      ixS 1 v2 i fun p3 =>
      ld1 h p3 fun v3 =>
      Sym.newRow 1 [] h fun r2 h_3 =>
      (ld1 h_3 p3 fun v4 =>
      v4 = v3) ∧
      (ld1 h_3 p2 fun v5 =>
      v5 = v2) ∧
      (ld1 h_3 p1 fun v6 =>
      v6 = v1) ∧
      appC 1 8 h_3 (.sl r2 1 0 0) v3 fun v7 h_4 =>
      (ld1 h_4 p1 fun v8 =>
      v8 = v1) ∧
      chk (sc v7) (
        (ld1 h_4 p1 fun v9 =>
        v9 = v1) ∧
        appC 1 24 h_4 v1 (.lsl 1 [v7]) fun v10 h_5 =>
        addOff out 0 fun p4 =>
        chk (sc v10) (
          st true h_5 p4 [v10] fun h_6 =>
          rg (i + 1) (
            s8l1_G (s8l1 Ψ n) m t2 out (i + 1) h_6)))) (
      s8l2_E (s8l2 Ψ) m t2 out 0 h)

def s8 (Ψ : AVal → Heap → Prop) (m_Up : AVal) (m_Val : AVal) (h : Heap) : Prop :=
  Sym.newRow 2 [(.agg [.nilsl, .nilsl])] h fun r h_ =>
  Sym.newRow 2 [(.agg [.nilsl, .nilsl])] h_ fun r1 h_1 =>
  st false h_1 (.ptr r1 0 0) [.nilsl, .nilsl] fun h_2 =>
  s8l1_E (s8l1 Ψ) (.lptr [m_Up, m_Val]) (.ptr r 0 0) (.ptr r1 0 0) 0 h_2

def s8_A (Ψ : AVal → Heap → Prop) : Ann :=
  .seq (.reg [⟨none, [(0, true), (1, false)]⟩])
  (.seq (.reg [⟨none, [(0, false), (1, false), (2, false)]⟩])
  (.seq (.seq (.reg [⟨none, [(0, false)]⟩])
  (.block (.loop [(1, .any), (2, .any), (3, .any), (4, .int .i64)] (fun n l h => s8l1_R (s8l1 Ψ n) l h) (fun L1 =>
  .seq (.seq (.reg [⟨none, [(0, false), (1, false), (2, false), (3, false), (4, false)]⟩])
  (.cond (.leaf)
  (.leaf)))
  (.seq (.block (.draw [(0, false), (1, false), (3, false), (4, false), (5, false), (6, false), (7, false), (2, false), (8, false), (9, true), (10, false), (11, false), (12, false)] [0, 1, 0, 0, 8, 0, 56, 120, 252, 508, 1023, 2047, 4095]))
  (.reg [⟨none, [(0, false), (1, false), (2, false)]⟩]))))))
  (.seq (.seq (.reg [⟨none, [(0, false)]⟩])
  (.block (.loop [(1, .any), (2, .any), (3, .any), (5, .int .i64)] (fun n l h => s8l2_R (s8l2 Ψ n) l h) (fun L2 =>
  .seq (.seq (.reg [⟨none, [(0, false), (1, false), (2, false), (3, false), (4, false)]⟩])
  (.cond (.leaf)
  (.leaf)))
  (.seq (.block (.draw [(0, false), (1, false), (3, false), (4, false), (5, false), (6, false), (7, false), (2, false), (8, false), (9, true), (10, false), (11, false), (12, false)] [0, 1, 0, 0, 8, 0, 56, 120, 252, 508, 1023, 2047, 4095]))
  (.reg [⟨none, [(0, false), (1, false), (2, false)]⟩]))))))
  (.seq (.reg [⟨none, [(0, false), (1, false)]⟩])
  (.leaf)))))

theorem s8_ok {Ψ : AVal → Heap → Prop} {m_Up : AVal} {m_Val : AVal} {h : Heap} (H : s8 Ψ m_Up m_Val h) : ACalls prog 8 [(.agg [m_Up, m_Val])] h Ψ :=
  calls_of_evF func8 (by kernel_rfl) (by kernel_rfl) (by kernel_rfl)
    (Eq.mpr (by as_aux_lemma => kernel_rfl : oblF prog f8 (s8_A Ψ) Ψ = (True ∧ True ∧ (True ∧ (∀ (h : Heap) (x0 x1 x2 : AVal) (x3 : Int), ON (s8l1 Ψ 0 x0 x1 x2 x3 h)) ∧ ∀ n1 : Nat, (∀ (h : Heap) (x0 x1 x2 : AVal) (x3 : Int), OI (s8l1 Ψ (n1 + 1) x0 x1 x2 x3 h)) ∧ ((True ∧ True ∧ True) ∧ True ∧ True)) ∧ (True ∧ (∀ (h : Heap) (x0 x1 x2 : AVal) (x3 : Int), ON (s8l2 Ψ 0 x0 x1 x2 x3 h)) ∧ ∀ n2 : Nat, (∀ (h : Heap) (x0 x1 x2 : AVal) (x3 : Int), OI (s8l2 Ψ (n2 + 1) x0 x1 x2 x3 h)) ∧ ((True ∧ True ∧ True) ∧ True ∧ True)) ∧ True ∧ True)) ⟨trivial, ⟨trivial, ⟨⟨trivial, ⟨fun _ _ _ _ _ H => H, fun _ => ⟨fun _ _ _ _ _ H => H, ⟨⟨trivial, ⟨trivial, trivial⟩⟩, ⟨trivial, trivial⟩⟩⟩⟩⟩, ⟨⟨trivial, ⟨fun _ _ _ _ _ H => H, fun _ => ⟨fun _ _ _ _ _ H => H, ⟨⟨trivial, ⟨trivial, trivial⟩⟩, ⟨trivial, trivial⟩⟩⟩⟩⟩, ⟨trivial, trivial⟩⟩⟩⟩⟩)
    (Eq.mpr (by as_aux_lemma => kernel_rfl : evF prog f8 (s8_A Ψ) Ψ [(.agg [m_Up, m_Val])] h = s8 Ψ m_Up m_Val h) H)

/- 16 dictum/dictumref03.Ints -/
def s16l1_R (F : AVal → AVal → Int → Heap → Prop) (l : List AVal) (h : Heap) : Prop := J.cons l fun x0 l => J.cons l fun x1 l => J.cons l fun v l => J.int .i64 v fun x2 => J.nil l (F x0 x1 x2 h)
def s16l1_G (F : AVal → AVal → Int → Heap → Prop) (x0 : AVal) (x1 : AVal) (x2 : Int) (h : Heap) : Prop := gJ [.any, .any, .int .i64] [x0, x1, (.int .i64 x2)] h (s16l1_R F)
def s16l1_E (F : Nat → AVal → AVal → Int → Heap → Prop) (x0 : AVal) (x1 : AVal) (x2 : Int) (h : Heap) : Prop := gJ [.any, .any, .int .i64] [x0, x1, (.int .i64 x2)] h (fun l h => ∃ n, s16l1_R (F n) l h)
theorem s16l1_go {F : AVal → AVal → Int → Heap → Prop} {x0 : AVal} {x1 : AVal} {x2 : Int} {h : Heap} (H : F x0 x1 x2 h) : s16l1_G F x0 x1 x2 h := gJ_plain rfl H
theorem s16l1_in {F : Nat → AVal → AVal → Int → Heap → Prop} {x0 : AVal} {x1 : AVal} {x2 : Int} {h : Heap} (n : Nat) (H : F n x0 x1 x2 h) : s16l1_E F x0 x1 x2 h := gJ_plain rfl ⟨n, H⟩

def s16l1 (Ψ : AVal → Heap → Prop) : Nat → AVal → AVal → Int → Heap → Prop
  | 0, _, _, _, _ => False
  | n2 + 1, a1, b1, i, h =>
    lenN a1 fun n3 =>
    ifT (decide (i < n3)) (
      ixS 1 a1 i fun p =>
      ld1 h p fun v =>
      tInt .i64 v fun v1 =>
      ixS 1 b1 i fun p1 =>
      ld1 h p1 fun v2 =>
      tInt .i64 v2 fun v3 =>
      ifT (v1 != v3) (
        retG (.bool false) h Ψ) (
        rg (i + 1) (
          s16l1_G (s16l1 Ψ n2) a1 b1 (i + 1) h))) (
      retG (.bool true) h Ψ)

def s16 (Ψ : AVal → Heap → Prop) (a : AVal) (b : AVal) (h : Heap) : Prop :=
  lenN a fun n =>
  lenN b fun n1 =>
  ifT (n != n1) (
    retG (.bool false) h Ψ) (
    s16l1_E (s16l1 Ψ) a b 0 h)

def s16_A (Ψ : AVal → Heap → Prop) : Ann :=
  .seq (.reg [⟨none, [(0, false)]⟩])
  (.seq (.seq (.reg [⟨none, [(0, false), (1, false), (2, false), (3, false), (4, false)]⟩])
  (.cond (.seq (.reg [⟨none, [(0, false)]⟩])
  (.leaf))
  (.leaf)))
  (.seq (.seq (.reg [⟨none, [(0, false)]⟩])
  (.block (.loop [(0, .any), (1, .any), (5, .int .i64)] (fun n l h => s16l1_R (s16l1 Ψ n) l h) (fun L1 =>
  .seq (.seq (.reg [⟨none, [(0, false), (1, false), (2, false), (3, false)]⟩])
  (.cond (.leaf)
  (.leaf)))
  (.seq (.block (.seq (.draw [(0, false), (1, false), (2, false), (3, false), (4, false), (5, false), (6, false), (7, false), (8, false)] [0, 0, 3, 7, 0, 0, 48, 112, 255])
  (.cond (.seq (.reg [⟨none, [(0, false)]⟩])
  (.leaf))
  (.leaf))))
  (.reg [⟨none, [(0, false), (1, false), (2, false)]⟩]))))))
  (.seq (.reg [⟨none, [(0, false)]⟩])
  (.leaf))))

theorem s16_ok {Ψ : AVal → Heap → Prop} {a : AVal} {b : AVal} {h : Heap} (H : s16 Ψ a b h) : ACalls prog 16 [a, b] h Ψ :=
  calls_of_evF func16 (by kernel_rfl) (by kernel_rfl) (by kernel_rfl)
    (Eq.mpr (by as_aux_lemma => kernel_rfl : oblF prog f16 (s16_A Ψ) Ψ = (True ∧ (True ∧ (True ∧ True) ∧ True) ∧ (True ∧ (∀ (h : Heap) (x0 x1 : AVal) (x2 : Int), ON (s16l1 Ψ 0 x0 x1 x2 h)) ∧ ∀ n1 : Nat, (∀ (h : Heap) (x0 x1 : AVal) (x2 : Int), OI (s16l1 Ψ (n1 + 1) x0 x1 x2 h)) ∧ ((True ∧ True ∧ True) ∧ (True ∧ (True ∧ True) ∧ True) ∧ True)) ∧ True ∧ True)) ⟨trivial, ⟨⟨trivial, ⟨⟨trivial, trivial⟩, trivial⟩⟩, ⟨⟨trivial, ⟨fun _ _ _ _ H => H, fun _ => ⟨fun _ _ _ _ H => H, ⟨⟨trivial, ⟨trivial, trivial⟩⟩, ⟨⟨trivial, ⟨⟨trivial, trivial⟩, trivial⟩⟩, trivial⟩⟩⟩⟩⟩, ⟨trivial, trivial⟩⟩⟩⟩)
    (Eq.mpr (by as_aux_lemma => kernel_rfl : evF prog f16 (s16_A Ψ) Ψ [a, b] h = s16 Ψ a b h) H)

/- 21 dictum/morph.Glue -/
def s21l1_R (F : AVal → AVal → AVal → AVal → Int → Int → Heap → Prop) (l : List AVal) (h : Heap) : Prop := J.cons l fun x0 l => J.cons l fun x1 l => J.cons l fun x2 l => J.cons l fun x3 l => J.cons l fun v l => J.int .i64 v fun x4 => J.cons l fun v l => J.int .i64 v fun x5 => J.nil l (F x0 x1 x2 x3 x4 x5 h)
def s21l1_G (F : AVal → AVal → AVal → AVal → Int → Int → Heap → Prop) (x0 : AVal) (x1 : AVal) (x2 : AVal) (x3 : AVal) (x4 : Int) (x5 : Int) (h : Heap) : Prop := gJ [.any, .any, .any, .any, .int .i64, .int .i64] [x0, x1, x2, x3, (.int .i64 x4), (.int .i64 x5)] h (s21l1_R F)
def s21l1_E (F : Nat → AVal → AVal → AVal → AVal → Int → Int → Heap → Prop) (x0 : AVal) (x1 : AVal) (x2 : AVal) (x3 : AVal) (x4 : Int) (x5 : Int) (h : Heap) : Prop := gJ [.any, .any, .any, .any, .int .i64, .int .i64] [x0, x1, x2, x3, (.int .i64 x4), (.int .i64 x5)] h (fun l h => ∃ n, s21l1_R (F n) l h)
theorem s21l1_go {F : AVal → AVal → AVal → AVal → Int → Int → Heap → Prop} {x0 : AVal} {x1 : AVal} {x2 : AVal} {x3 : AVal} {x4 : Int} {x5 : Int} {h : Heap} (H : F x0 x1 x2 x3 x4 x5 h) : s21l1_G F x0 x1 x2 x3 x4 x5 h := gJ_plain rfl H
theorem s21l1_in {F : Nat → AVal → AVal → AVal → AVal → Int → Int → Heap → Prop} {x0 : AVal} {x1 : AVal} {x2 : AVal} {x3 : AVal} {x4 : Int} {x5 : Int} {h : Heap} (n : Nat) (H : F n x0 x1 x2 x3 x4 x5 h) : s21l1_E F x0 x1 x2 x3 x4 x5 h := gJ_plain rfl ⟨n, H⟩

def s21l2_R (F : AVal → AVal → AVal → Int → AVal → Int → Int → Heap → Prop) (l : List AVal) (h : Heap) : Prop := J.cons l fun x0 l => J.cons l fun x1 l => J.cons l fun x2 l => J.cons l fun v l => J.int .i64 v fun x3 => J.cons l fun x4 l => J.cons l fun v l => J.int .i64 v fun x5 => J.cons l fun v l => J.int .i64 v fun x6 => J.nil l (F x0 x1 x2 x3 x4 x5 x6 h)
def s21l2_G (F : AVal → AVal → AVal → Int → AVal → Int → Int → Heap → Prop) (x0 : AVal) (x1 : AVal) (x2 : AVal) (x3 : Int) (x4 : AVal) (x5 : Int) (x6 : Int) (h : Heap) : Prop := gJ [.any, .any, .any, .int .i64, .any, .int .i64, .int .i64] [x0, x1, x2, (.int .i64 x3), x4, (.int .i64 x5), (.int .i64 x6)] h (s21l2_R F)
def s21l2_E (F : Nat → AVal → AVal → AVal → Int → AVal → Int → Int → Heap → Prop) (x0 : AVal) (x1 : AVal) (x2 : AVal) (x3 : Int) (x4 : AVal) (x5 : Int) (x6 : Int) (h : Heap) : Prop := gJ [.any, .any, .any, .int .i64, .any, .int .i64, .int .i64] [x0, x1, x2, (.int .i64 x3), x4, (.int .i64 x5), (.int .i64 x6)] h (fun l h => ∃ n, s21l2_R (F n) l h)
theorem s21l2_go {F : AVal → AVal → AVal → Int → AVal → Int → Int → Heap → Prop} {x0 : AVal} {x1 : AVal} {x2 : AVal} {x3 : Int} {x4 : AVal} {x5 : Int} {x6 : Int} {h : Heap} (H : F x0 x1 x2 x3 x4 x5 x6 h) : s21l2_G F x0 x1 x2 x3 x4 x5 x6 h := gJ_plain rfl H
theorem s21l2_in {F : Nat → AVal → AVal → AVal → Int → AVal → Int → Int → Heap → Prop} {x0 : AVal} {x1 : AVal} {x2 : AVal} {x3 : Int} {x4 : AVal} {x5 : Int} {x6 : Int} {h : Heap} (n : Nat) (H : F n x0 x1 x2 x3 x4 x5 x6 h) : s21l2_E F x0 x1 x2 x3 x4 x5 x6 h := gJ_plain rfl ⟨n, H⟩

def s21c3 (Ψ : AVal → Heap → Prop) (L2 : AVal → AVal → AVal → Int → AVal → Int → Int → Heap → Prop) (l_12 : AVal) (atoms3 : AVal) (t4_2 : AVal) (n5 : Int) (t40_1 : AVal) (t41_1 : Int) (t42_1 : Int) (t62 : Bool) (h : Heap) : Prop :=
  ifT t62 (
    st false h t4_2 [.nilsl, .nilsl] fun h_5 =>
    ldN 2 h_5 t4_2 fun l_13 =>
    tCons l_13 fun v10 l_14 =>
    tCons l_14 fun v11 l_15 =>
    tNil l_15 (
      retG (.tuple [(.agg [v10, v11]), .nilsl, (.int .i64 190)]) h_5 Ψ)) (
    rg (t42_1 + 1) (
      L2 l_12 atoms3 t4_2 n5 t40_1 t41_1 (t42_1 + 1) h))

def s21l4_R (F : AVal → AVal → AVal → Int → AVal → Int → Int → Heap → Prop) (l : List AVal) (h : Heap) : Prop := J.cons l fun x0 l => J.cons l fun x1 l => J.cons l fun x2 l => J.cons l fun v l => J.int .i64 v fun x3 => J.cons l fun x4 l => J.cons l fun v l => J.int .i64 v fun x5 => J.cons l fun v l => J.int .i64 v fun x6 => J.nil l (F x0 x1 x2 x3 x4 x5 x6 h)
def s21l4_G (F : AVal → AVal → AVal → Int → AVal → Int → Int → Heap → Prop) (x0 : AVal) (x1 : AVal) (x2 : AVal) (x3 : Int) (x4 : AVal) (x5 : Int) (x6 : Int) (h : Heap) : Prop := gJ [.any, .any, .any, .int .i64, .any, .int .i64, .int .i64] [x0, x1, x2, (.int .i64 x3), x4, (.int .i64 x5), (.int .i64 x6)] h (s21l4_R F)
def s21l4_E (F : Nat → AVal → AVal → AVal → Int → AVal → Int → Int → Heap → Prop) (x0 : AVal) (x1 : AVal) (x2 : AVal) (x3 : Int) (x4 : AVal) (x5 : Int) (x6 : Int) (h : Heap) : Prop := gJ [.any, .any, .any, .int .i64, .any, .int .i64, .int .i64] [x0, x1, x2, (.int .i64 x3), x4, (.int .i64 x5), (.int .i64 x6)] h (fun l h => ∃ n, s21l4_R (F n) l h)
theorem s21l4_go {F : AVal → AVal → AVal → Int → AVal → Int → Int → Heap → Prop} {x0 : AVal} {x1 : AVal} {x2 : AVal} {x3 : Int} {x4 : AVal} {x5 : Int} {x6 : Int} {h : Heap} (H : F x0 x1 x2 x3 x4 x5 x6 h) : s21l4_G F x0 x1 x2 x3 x4 x5 x6 h := gJ_plain rfl H
theorem s21l4_in {F : Nat → AVal → AVal → AVal → Int → AVal → Int → Int → Heap → Prop} {x0 : AVal} {x1 : AVal} {x2 : AVal} {x3 : Int} {x4 : AVal} {x5 : Int} {x6 : Int} {h : Heap} (n : Nat) (H : F n x0 x1 x2 x3 x4 x5 x6 h) : s21l4_E F x0 x1 x2 x3 x4 x5 x6 h := gJ_plain rfl ⟨n, H⟩

def s21c5 (Ψ : AVal → Heap → Prop) (L4 : AVal → AVal → AVal → Int → AVal → Int → Int → Heap → Prop) (l_26 : AVal) (atoms5 : AVal) (t4_4 : AVal) (n9 : Int) (m : AVal) (t65_1 : AVal) (t66_1 : Int) (t67_1 : Int) (t82 : Bool) (h : Heap) : Prop :=
  ifT t82 (
    st false h t4_4 [.nilsl, .nilsl] fun h_12 =>
    ldN 2 h_12 t4_4 fun l_27 =>
    tCons l_27 fun v25 l_28 =>
    tCons l_28 fun v26 l_29 =>
    tNil l_29 (
      retG (.tuple [(.agg [v25, v26]), .nilsl, (.int .i64 190)]) h_12 Ψ)) (
    addOff m 0 fun p4 =>
    ld1 h p4 fun v27 =>
    lenN v27 fun n10 =>
    rg (n9 + n10) (
      ifT (decide (512 < (n9 + n10))) (
        st false h t4_4 [.nilsl, .nilsl] fun h_13 =>
        ldN 2 h_13 t4_4 fun l_30 =>
        tCons l_30 fun v28 l_31 =>
        tCons l_31 fun v29 l_32 =>
        tNil l_32 (
          retG (.tuple [(.agg [v28, v29]), .nilsl, (.int .i64 190)]) h_13 Ψ)) (
        rg (t67_1 + 1) (
          L4 l_26 atoms5 t4_4 (n9 + n10) t65_1 t66_1 (t67_1 + 1) h))))

def s21l6_R (F : AVal → AVal → AVal → AVal → Int → Int → Heap → Prop) (l : List AVal) (h : Heap) : Prop := J.cons l fun x0 l => J.cons l fun x1 l => J.cons l fun x2 l => J.cons l fun x3 l => J.cons l fun v l => J.int .i64 v fun x4 => J.cons l fun v l => J.int .i64 v fun x5 => J.nil l (F x0 x1 x2 x3 x4 x5 h)
def s21l6_G (F : AVal → AVal → AVal → AVal → Int → Int → Heap → Prop) (x0 : AVal) (x1 : AVal) (x2 : AVal) (x3 : AVal) (x4 : Int) (x5 : Int) (h : Heap) : Prop := gJ [.any, .any, .any, .any, .int .i64, .int .i64] [x0, x1, x2, x3, (.int .i64 x4), (.int .i64 x5)] h (s21l6_R F)
def s21l6_E (F : Nat → AVal → AVal → AVal → AVal → Int → Int → Heap → Prop) (x0 : AVal) (x1 : AVal) (x2 : AVal) (x3 : AVal) (x4 : Int) (x5 : Int) (h : Heap) : Prop := gJ [.any, .any, .any, .any, .int .i64, .int .i64] [x0, x1, x2, x3, (.int .i64 x4), (.int .i64 x5)] h (fun l h => ∃ n, s21l6_R (F n) l h)
theorem s21l6_go {F : AVal → AVal → AVal → AVal → Int → Int → Heap → Prop} {x0 : AVal} {x1 : AVal} {x2 : AVal} {x3 : AVal} {x4 : Int} {x5 : Int} {h : Heap} (H : F x0 x1 x2 x3 x4 x5 h) : s21l6_G F x0 x1 x2 x3 x4 x5 h := gJ_plain rfl H
theorem s21l6_in {F : Nat → AVal → AVal → AVal → AVal → Int → Int → Heap → Prop} {x0 : AVal} {x1 : AVal} {x2 : AVal} {x3 : AVal} {x4 : Int} {x5 : Int} {h : Heap} (n : Nat) (H : F n x0 x1 x2 x3 x4 x5 h) : s21l6_E F x0 x1 x2 x3 x4 x5 h := gJ_plain rfl ⟨n, H⟩

def s21l7_R (F : AVal → AVal → AVal → AVal → Int → AVal → Int → Int → AVal → Int → Int → Heap → Prop) (l : List AVal) (h : Heap) : Prop := J.cons l fun x0 l => J.cons l fun x1 l => J.cons l fun x2 l => J.cons l fun x3 l => J.cons l fun v l => J.int .i64 v fun x4 => J.cons l fun x5 l => J.cons l fun v l => J.int .i64 v fun x6 => J.cons l fun v l => J.int .i64 v fun x7 => J.cons l fun x8 l => J.cons l fun v l => J.int .i64 v fun x9 => J.cons l fun v l => J.int .i64 v fun x10 => J.nil l (F x0 x1 x2 x3 x4 x5 x6 x7 x8 x9 x10 h)
def s21l7_G (F : AVal → AVal → AVal → AVal → Int → AVal → Int → Int → AVal → Int → Int → Heap → Prop) (x0 : AVal) (x1 : AVal) (x2 : AVal) (x3 : AVal) (x4 : Int) (x5 : AVal) (x6 : Int) (x7 : Int) (x8 : AVal) (x9 : Int) (x10 : Int) (h : Heap) : Prop := gJ [.any, .any, .any, .any, .int .i64, .any, .int .i64, .int .i64, .any, .int .i64, .int .i64] [x0, x1, x2, x3, (.int .i64 x4), x5, (.int .i64 x6), (.int .i64 x7), x8, (.int .i64 x9), (.int .i64 x10)] h (s21l7_R F)
def s21l7_E (F : Nat → AVal → AVal → AVal → AVal → Int → AVal → Int → Int → AVal → Int → Int → Heap → Prop) (x0 : AVal) (x1 : AVal) (x2 : AVal) (x3 : AVal) (x4 : Int) (x5 : AVal) (x6 : Int) (x7 : Int) (x8 : AVal) (x9 : Int) (x10 : Int) (h : Heap) : Prop := gJ [.any, .any, .any, .any, .int .i64, .any, .int .i64, .int .i64, .any, .int .i64, .int .i64] [x0, x1, x2, x3, (.int .i64 x4), x5, (.int .i64 x6), (.int .i64 x7), x8, (.int .i64 x9), (.int .i64 x10)] h (fun l h => ∃ n, s21l7_R (F n) l h)
theorem s21l7_go {F : AVal → AVal → AVal → AVal → Int → AVal → Int → Int → AVal → Int → Int → Heap → Prop} {x0 : AVal} {x1 : AVal} {x2 : AVal} {x3 : AVal} {x4 : Int} {x5 : AVal} {x6 : Int} {x7 : Int} {x8 : AVal} {x9 : Int} {x10 : Int} {h : Heap} (H : F x0 x1 x2 x3 x4 x5 x6 x7 x8 x9 x10 h) : s21l7_G F x0 x1 x2 x3 x4 x5 x6 x7 x8 x9 x10 h := gJ_plain rfl H
theorem s21l7_in {F : Nat → AVal → AVal → AVal → AVal → Int → AVal → Int → Int → AVal → Int → Int → Heap → Prop} {x0 : AVal} {x1 : AVal} {x2 : AVal} {x3 : AVal} {x4 : Int} {x5 : AVal} {x6 : Int} {x7 : Int} {x8 : AVal} {x9 : Int} {x10 : Int} {h : Heap} (n : Nat) (H : F n x0 x1 x2 x3 x4 x5 x6 x7 x8 x9 x10 h) : s21l7_E F x0 x1 x2 x3 x4 x5 x6 x7 x8 x9 x10 h := gJ_plain rfl ⟨n, H⟩

def s21l8_R (F : AVal → AVal → AVal → AVal → Int → Int → AVal → AVal → Int → Int → AVal → Int → Int → AVal → Int → Int → Heap → Prop) (l : List AVal) (h : Heap) : Prop := J.cons l fun x0 l => J.cons l fun x1 l => J.cons l fun x2 l => J.cons l fun x3 l => J.cons l fun v l => J.int .i64 v fun x4 => J.cons l fun v l => J.int .i64 v fun x5 => J.cons l fun x6 l => J.cons l fun x7 l => J.cons l fun v l => J.int .i64 v fun x8 => J.cons l fun v l => J.int .i64 v fun x9 => J.cons l fun x10 l => J.cons l fun v l => J.int .i64 v fun x11 => J.cons l fun v l => J.int .i64 v fun x12 => J.cons l fun x13 l => J.cons l fun v l => J.int .i64 v fun x14 => J.cons l fun v l => J.int .i64 v fun x15 => J.nil l (F x0 x1 x2 x3 x4 x5 x6 x7 x8 x9 x10 x11 x12 x13 x14 x15 h)
def s21l8_G (F : AVal → AVal → AVal → AVal → Int → Int → AVal → AVal → Int → Int → AVal → Int → Int → AVal → Int → Int → Heap → Prop) (x0 : AVal) (x1 : AVal) (x2 : AVal) (x3 : AVal) (x4 : Int) (x5 : Int) (x6 : AVal) (x7 : AVal) (x8 : Int) (x9 : Int) (x10 : AVal) (x11 : Int) (x12 : Int) (x13 : AVal) (x14 : Int) (x15 : Int) (h : Heap) : Prop := gJ [.any, .any, .any, .any, .int .i64, .int .i64, .any, .any, .int .i64, .int .i64, .any, .int .i64, .int .i64, .any, .int .i64, .int .i64] [x0, x1, x2, x3, (.int .i64 x4), (.int .i64 x5), x6, x7, (.int .i64 x8), (.int .i64 x9), x10, (.int .i64 x11), (.int .i64 x12), x13, (.int .i64 x14), (.int .i64 x15)] h (s21l8_R F)
def s21l8_E (F : Nat → AVal → AVal → AVal → AVal → Int → Int → AVal → AVal → Int → Int → AVal → Int → Int → AVal → Int → Int → Heap → Prop) (x0 : AVal) (x1 : AVal) (x2 : AVal) (x3 : AVal) (x4 : Int) (x5 : Int) (x6 : AVal) (x7 : AVal) (x8 : Int) (x9 : Int) (x10 : AVal) (x11 : Int) (x12 : Int) (x13 : AVal) (x14 : Int) (x15 : Int) (h : Heap) : Prop := gJ [.any, .any, .any, .any, .int .i64, .int .i64, .any, .any, .int .i64, .int .i64, .any, .int .i64, .int .i64, .any, .int .i64, .int .i64] [x0, x1, x2, x3, (.int .i64 x4), (.int .i64 x5), x6, x7, (.int .i64 x8), (.int .i64 x9), x10, (.int .i64 x11), (.int .i64 x12), x13, (.int .i64 x14), (.int .i64 x15)] h (fun l h => ∃ n, s21l8_R (F n) l h)
theorem s21l8_go {F : AVal → AVal → AVal → AVal → Int → Int → AVal → AVal → Int → Int → AVal → Int → Int → AVal → Int → Int → Heap → Prop} {x0 : AVal} {x1 : AVal} {x2 : AVal} {x3 : AVal} {x4 : Int} {x5 : Int} {x6 : AVal} {x7 : AVal} {x8 : Int} {x9 : Int} {x10 : AVal} {x11 : Int} {x12 : Int} {x13 : AVal} {x14 : Int} {x15 : Int} {h : Heap} (H : F x0 x1 x2 x3 x4 x5 x6 x7 x8 x9 x10 x11 x12 x13 x14 x15 h) : s21l8_G F x0 x1 x2 x3 x4 x5 x6 x7 x8 x9 x10 x11 x12 x13 x14 x15 h := gJ_plain rfl H
theorem s21l8_in {F : Nat → AVal → AVal → AVal → AVal → Int → Int → AVal → AVal → Int → Int → AVal → Int → Int → AVal → Int → Int → Heap → Prop} {x0 : AVal} {x1 : AVal} {x2 : AVal} {x3 : AVal} {x4 : Int} {x5 : Int} {x6 : AVal} {x7 : AVal} {x8 : Int} {x9 : Int} {x10 : AVal} {x11 : Int} {x12 : Int} {x13 : AVal} {x14 : Int} {x15 : Int} {h : Heap} (n : Nat) (H : F n x0 x1 x2 x3 x4 x5 x6 x7 x8 x9 x10 x11 x12 x13 x14 x15 h) : s21l8_E F x0 x1 x2 x3 x4 x5 x6 x7 x8 x9 x10 x11 x12 x13 x14 x15 h := gJ_plain rfl ⟨n, H⟩

def s21l8 (Ψ : AVal → Heap → Prop) (L6 : AVal → AVal → AVal → AVal → Int → Int → Heap → Prop) (L7 : AVal → AVal → AVal → AVal → Int → AVal → Int → Int → AVal → Int → Int → Heap → Prop) : Nat → AVal → AVal → AVal → AVal → Int → Int → AVal → AVal → Int → Int → AVal → Int → Int → AVal → Int → Int → Heap → Prop
  | 0, _, _, _, _, _, _, _, _, _, _, _, _, _, _, _, _, _ => False
  | n17 + 1, t4_7, out2, places2, m2, first1, w, up, t98_2, t99_2, t100_2, t112_1, t113_1, t114_1, t119, t120, t121, h =>
    ifT (decide (t121 < t120)) (
      ixS 1 t119 t121 fun p8 =>
      ld1 h p8 fun v39 =>
      tInt .i64 v39 fun v40 =>
      rg (first1 + v40) (
        appC 1 8 h up (.lsl 1 [(.int .i64 (first1 + v40))]) fun v41 h_23 =>
        rg (t121 + 1) (
          s21l8_G (s21l8 Ψ L6 L7 n17) t4_7 out2 places2 m2 first1 w v41 t98_2 t99_2 t100_2 t112_1 t113_1 t114_1 t119 t120 (t121 + 1) h_23))) (
      addOff out2 0 fun p9 =>
      ld1 h p9 fun v42 =>
      addOff out2 0 fun p10 =>
      ld1 h p10 fun v43 =>
      ixS 1 v43 0 fun p11 =>
      ld1 h p11 fun v44 =>
      rg (first1 + w) (
        (ld1 h p11 fun v45 =>
        v45 = v44) ∧
        (ld1 h p10 fun v46 =>
        v46 = v43) ∧
        (ld1 h p9 fun v47 =>
        v47 = v42) ∧
        appC 1 8 h v44 (.lsl 1 [(.int .i64 (first1 + w))]) fun v48 h_24 =>
        (ld1 h_24 p9 fun v49 =>
        v49 = v42) ∧
        ixS 1 v42 0 fun p12 =>
        chk (sc v48) (
          st true h_24 p12 [v48] fun h_25 =>
          addOff out2 0 fun p13 =>
          ld1 h_25 p13 fun v50 =>
          chk (sc up) (
            appC 1 24 h_25 v50 (.lsl 1 [up]) fun v51 h_26 =>
            addOff out2 0 fun p14 =>
            chk (sc v51) (
              st true h_26 p14 [v51] fun h_27 =>
              addOff out2 1 fun p15 =>
              ld1 h_27 p15 fun v52 =>
              addOff m2 1 fun p16 =>
              ld1 h_27 p16 fun v53 =>
              ixS 1 v53 w fun p17 =>
              ld1 h_27 p17 fun v54 =>
              callG prog 35 [v54] h_27 fun v55 h_28 =>
              (ld1 h_28 p15 fun v56 =>
              v56 = v52) ∧
              chk (sc v55) (
                (ld1 h_28 p15 fun v57 =>
                v57 = v52) ∧
                appC 1 24 h_28 v52 (.lsl 1 [v55]) fun v58 h_29 =>
                addOff out2 1 fun p18 =>
                chk (sc v58) (
                  st true h_29 p18 [v58] fun h_30 =>
                  rg (t114_1 + 1) (
                    L7 t4_7 out2 places2 m2 first1 t98_2 t99_2 t100_2 t112_1 t113_1 (t114_1 + 1) h_30))))))))

def s21l7 (Ψ : AVal → Heap → Prop) (L6 : AVal → AVal → AVal → AVal → Int → Int → Heap → Prop) : Nat → AVal → AVal → AVal → AVal → Int → AVal → Int → Int → AVal → Int → Int → Heap → Prop
  | 0, _, _, _, _, _, _, _, _, _, _, _, _ => False
  | n15 + 1, t4_6, out1, places1, m1, first, t98_1, t99_1, t100_1, t112, t113, t114, h =>
    ifT (decide (t114 < t113)) (
      ixS 1 t112 t114 fun p7 =>
      ld1 h p7 fun v38 =>
      lenN v38 fun n16 =>
      s21l8_E (s21l8 Ψ L6 (s21l7_G (s21l7 Ψ L6 n15))) t4_6 out1 places1 m1 first t114 .nilsl t98_1 t99_1 t100_1 t112 t113 t114 v38 n16 0 h) (
      rg (t100_1 + 1) (
        L6 t4_6 out1 places1 t98_1 t99_1 (t100_1 + 1) h))

def s21l6 (Ψ : AVal → Heap → Prop) : Nat → AVal → AVal → AVal → AVal → Int → Int → Heap → Prop
  | 0, _, _, _, _, _, _, _ => False
  | n12 + 1, t4_5, out, places, t98, t99, t100, h =>
    ifT (decide (t100 < t99)) (
      ixS 2 t98 t100 fun p5 =>
      ldN 2 h p5 fun l_33 =>
      tCons l_33 fun v33 l_34 =>
      tCons l_34 fun v34 l_35 =>
      tNil l_35 (
        Sym.newRow 2 [(.agg [.nilsl, .nilsl])] h fun r7 h_20 =>
        st false h_20 (.ptr r7 0 0) [v33, v34] fun h_21 =>
        addOff out 0 fun p6 =>
        ld1 h_21 p6 fun v35 =>
        lenN v35 fun n13 =>
        appC 1 8 h_21 places (.lsl 1 [(.int .i64 n13)]) fun v36 h_22 =>
        ld1 h_22 (.ptr r7 0 0) fun v37 =>
        lenN v37 fun n14 =>
        s21l7_E (s21l7 Ψ (s21l6_G (s21l6 Ψ n12))) t4_5 out v36 (.ptr r7 0 0) n13 t98 t99 t100 v37 n14 0 h_22)) (
      ldN 2 h out fun l_36 =>
      tCons l_36 fun v59 l_37 =>
      tCons l_37 fun v60 l_38 =>
      tNil l_38 (
        callG prog 36 [(.agg [v59, v60])] h fun v61 h_31 =>
        tAgg v61 fun l_39 =>
        tCons l_39 fun v62 l_40 =>
        tCons l_40 fun v63 l_41 =>
        tNil l_41 (
          st false h_31 t4_5 [v62, v63] fun h_32 =>
          ldN 2 h_32 t4_5 fun l_42 =>
          tCons l_42 fun v64 l_43 =>
          tCons l_43 fun v65 l_44 =>
          tNil l_44 (
            retG (.tuple [(.agg [v64, v65]), places, (.int .i64 0)]) h_32 Ψ))))

def s21l4 (Ψ : AVal → Heap → Prop) : Nat → AVal → AVal → AVal → Int → AVal → Int → Int → Heap → Prop
  | 0, _, _, _, _, _, _, _, _ => False
  | n8 + 1, l_16, atoms4, t4_3, n7, t65, t66, t67, h =>
    ifT (decide (t67 < t66)) (
      ixS 2 t65 t67 fun p3 =>
      ldN 2 h p3 fun l_17 =>
      tCons l_17 fun v16 l_18 =>
      tCons l_18 fun v17 l_19 =>
      tNil l_19 (
        Sym.newRow 2 [(.agg [.nilsl, .nilsl])] h fun r2 h_7 =>
        st false h_7 (.ptr r2 0 0) [v16, v17] fun h_8 =>
        ldN 2 h_8 (.ptr r2 0 0) fun l_20 =>
        tCons l_20 fun v18 l_21 =>
        tCons l_21 fun v19 l_22 =>
        tNil l_22 (
          callG prog 43 [(.agg [v18, v19])] h_8 fun v20 h_9 =>
          tTup v20 fun l_23 =>
          tCons l_23 fun v21 l_24 =>
          tInt .i64 v21 fun v22 =>
          tCons l_24 fun v23 l_25 =>
          tBool v23 fun v24 =>
          tNil l_25 (
            Sym.newRow 1 [(.int .i64 0)] h_9 fun r3 h_10 =>
            st true h_10 (.ptr r3 0 0) [(.int .i64 v22)] fun h_11 =>
            ifT (!v24) (
              s21c5 Ψ (s21l4_G (s21l4 Ψ n8)) l_16 atoms4 t4_3 n7 (.ptr r2 0 0) t65 t66 t67 true h_11) (
              callG prog 44 [atoms4, (.func (.func 45) [] [(.ptr r2 0 0), (.ptr r3 0 0)])] h_11 fun v30 h_14 =>
              tBool v30 fun v31 =>
              s21c5 Ψ (s21l4_G (s21l4 Ψ n8)) l_16 atoms4 t4_3 n7 (.ptr r2 0 0) t65 t66 t67 v31 h_14))))) (
      Sym.newRow 1 [.nilsl] h fun r4 h_15 =>
      callG prog 35 [atoms4] h_15 fun v32 h_16 =>
      chk (sc v32) (
        Sym.newRow 1 [v32] h_16 fun r5 h_17 =>
        Sym.newRow 2 [(.agg [.nilsl, .nilsl])] h_17 fun r6 h_18 =>
        st false h_18 (.ptr r6 0 0) [(.sl r4 1 0 1), (.sl r5 1 0 1)] fun h_19 =>
        lenN l_16 fun n11 =>
        s21l6_E (s21l6 Ψ) t4_3 (.ptr r6 0 0) .nilsl l_16 n11 0 h_19))

def s21l2 (Ψ : AVal → Heap → Prop) : Nat → AVal → AVal → AVal → Int → AVal → Int → Int → Heap → Prop
  | 0, _, _, _, _, _, _, _, _ => False
  | n4 + 1, l_11, atoms2, t4_1, n3, t40, t41, t42, h =>
    ifT (decide (t42 < t41)) (
      ixS 1 t40 t42 fun p1 =>
      ld1 h p1 fun v8 =>
      tStr v8 fun v9 =>
      callG prog 42 [(.str v9)] h fun v12 h_6 =>
      tBool v12 fun v13 =>
      ifT (!v13) (
        s21c3 Ψ (s21l2_G (s21l2 Ψ n4)) l_11 atoms2 t4_1 n3 t40 t41 t42 true h_6) (
        ifT (decide (0 < t42)) (
          rg (t42 - 1) (
            ixS 1 atoms2 (t42 - 1) fun p2 =>
            ld1 h_6 p2 fun v14 =>
            tStr v14 fun v15 =>
            s21c3 Ψ (s21l2_G (s21l2 Ψ n4)) l_11 atoms2 t4_1 n3 t40 t41 t42 (!strLt v15 v9) h_6)) (
          s21c3 Ψ (s21l2_G (s21l2 Ψ n4)) l_11 atoms2 t4_1 n3 t40 t41 t42 false h_6))) (
      lenN l_11 fun n6 =>
      s21l4_E (s21l4 Ψ) l_11 atoms2 t4_1 n3 l_11 n6 0 h)

def s21l1 (Ψ : AVal → Heap → Prop) : Nat → AVal → AVal → AVal → AVal → Int → Int → Heap → Prop
  | 0, _, _, _, _, _, _, _ => False
  | n1 + 1, l_1, atoms1, t4, t27, t28, t29, h =>
    ifT (decide (t29 < t28)) (
      ixS 2 t27 t29 fun p =>
      ldN 2 h p fun l_2 =>
      tCons l_2 fun v l_3 =>
      tCons l_3 fun v1 l_4 =>
      tNil l_4 (
        Sym.newRow 2 [(.agg [.nilsl, .nilsl])] h fun r1 h_1 =>
        st false h_1 (.ptr r1 0 0) [v, v1] fun h_2 =>
        ldN 2 h_2 (.ptr r1 0 0) fun l_5 =>
        tCons l_5 fun v2 l_6 =>
        tCons l_6 fun v3 l_7 =>
        tNil l_7 (
          callG prog 41 [(.agg [v2, v3])] h_2 fun v4 h_3 =>
          tInt .i64 v4 fun v5 =>
          ifT (v5 != 0) (
            st false h_3 t4 [.nilsl, .nilsl] fun h_4 =>
            ldN 2 h_4 t4 fun l_8 =>
            tCons l_8 fun v6 l_9 =>
            tCons l_9 fun v7 l_10 =>
            tNil l_10 (
              retG (.tuple [(.agg [v6, v7]), .nilsl, (.int .i64 v5)]) h_4 Ψ)) (
            rg (t29 + 1) (
              s21l1_G (s21l1 Ψ n1) l_1 atoms1 t4 t27 t28 (t29 + 1) h_3))))) (
      lenN atoms1 fun n2 =>
      s21l2_E (s21l2 Ψ) l_1 atoms1 t4 1 atoms1 n2 0 h)

def s21 (Ψ : AVal → Heap → Prop) (l_ : AVal) (atoms : AVal) (h : Heap) : Prop :=
  Sym.newRow 2 [(.agg [.nilsl, .nilsl])] h fun r h_ =>
  lenN l_ fun n =>
  s21l1_E (s21l1 Ψ) l_ atoms (.ptr r 0 0) l_ n 0 h_

def s21_A (Ψ : AVal → Heap → Prop) : Ann :=
  .seq (.reg [⟨none, [(0, false), (1, false), (2, false)]⟩])
  (.seq (.seq (.reg [⟨none, [(0, false), (1, false), (2, false)]⟩])
  (.block (.loop [(0, .any), (1, .any), (4, .any), (27, .any), (28, .int .i64), (29, .int .i64)] (fun n l h => s21l1_R (s21l1 Ψ n) l h) (fun L1 =>
  .seq (.reg [⟨none, [(0, false)]⟩])
  (.seq (.cond (.leaf)
  (.leaf))
  (.seq (.block (.seq (.reg [⟨none, [(0, false), (1, false), (2, false), (3, false)]⟩])
  (.seq (.reg [⟨none, [(0, false), (1, false), (2, false)]⟩])
  (.seq (.reg [⟨none, [(0, false), (1, false)]⟩])
  (.cond (.seq (.reg [⟨none, [(0, false), (1, false), (2, false), (3, false), (4, false)]⟩])
  (.leaf))
  (.leaf))))))
  (.reg [⟨none, [(0, false), (1, false)]⟩])))))))
  (.seq (.reg [⟨none, [(0, false)]⟩])
  (.seq (.seq (.reg [⟨none, [(0, false), (1, false), (2, false)]⟩])
  (.block (.loop [(0, .any), (1, .any), (4, .any), (10, .int .i64), (40, .any), (41, .int .i64), (42, .int .i64)] (fun n l h => s21l2_R (s21l2 Ψ n) l h) (fun L2 =>
  .seq (.reg [⟨none, [(0, false)]⟩])
  (.seq (.cond (.leaf)
  (.leaf))
  (.seq (.block (.seq (.reg [⟨none, [(0, false), (1, false), (2, false), (3, false), (4, false)]⟩])
  (.cut [(0, .any), (1, .any), (4, .any), (10, .int .i64), (40, .any), (41, .int .i64), (42, .int .i64), (62, .bool)] (fun l h => J.cons l fun x0 l => J.cons l fun x1 l => J.cons l fun x2 l => J.cons l fun v l => J.int .i64 v fun x3 => J.cons l fun x4 l => J.cons l fun v l => J.int .i64 v fun x5 => J.cons l fun v l => J.int .i64 v fun x6 => J.cons l fun v l => J.bool v fun x7 => J.nil l (s21c3 Ψ (fun y0 y1 y2 y3 y4 y5 y6 h => L2 [y0, y1, y2, (.int .i64 y3), y4, (.int .i64 y5), (.int .i64 y6)] h) x0 x1 x2 x3 x4 x5 x6 x7 h)) (.reg [⟨none, [(0, false), (1, false), (2, false), (3, false)]⟩, ⟨some (50, false), [(4, false), (5, false), (6, false)]⟩, ⟨some (53, true), [(7, false), (8, false), (9, false), (10, false), (11, false), (12, false), (13, false)]⟩, ⟨some (50, false), [(14, false)]⟩, ⟨none, [(15, false)]⟩])
  (.cond (.seq (.reg [⟨none, [(0, false), (1, false), (2, false), (3, false)]⟩])
  (.leaf))
  (.leaf)))))
  (.reg [⟨none, [(0, false), (1, false)]⟩])))))))
  (.seq (.seq (.reg [⟨none, [(0, false), (1, false), (2, false)]⟩])
  (.block (.loop [(0, .any), (1, .any), (4, .any), (10, .int .i64), (65, .any), (66, .int .i64), (67, .int .i64)] (fun n l h => s21l4_R (s21l4 Ψ n) l h) (fun L4 =>
  .seq (.reg [⟨none, [(0, false)]⟩])
  (.seq (.cond (.leaf)
  (.leaf))
  (.seq (.block (.seq (.reg [⟨none, [(0, false), (1, false), (2, false), (3, false)]⟩])
  (.seq (.reg [⟨none, [(0, false), (1, false), (2, false), (3, false), (4, false), (5, false), (6, false), (7, false)]⟩])
  (.seq (.cut [(0, .any), (1, .any), (4, .any), (10, .int .i64), (14, .any), (65, .any), (66, .int .i64), (67, .int .i64), (82, .bool)] (fun l h => J.cons l fun x0 l => J.cons l fun x1 l => J.cons l fun x2 l => J.cons l fun v l => J.int .i64 v fun x3 => J.cons l fun x4 l => J.cons l fun x5 l => J.cons l fun v l => J.int .i64 v fun x6 => J.cons l fun v l => J.int .i64 v fun x7 => J.cons l fun v l => J.bool v fun x8 => J.nil l (s21c5 Ψ (fun y0 y1 y2 y3 y4 y5 y6 h => L4 [y0, y1, y2, (.int .i64 y3), y4, (.int .i64 y5), (.int .i64 y6)] h) x0 x1 x2 x3 x4 x5 x6 x7 x8 h)) (.reg [⟨none, [(0, false), (1, false), (2, false)]⟩, ⟨some (78, false), [(3, false), (4, false), (5, false)]⟩, ⟨none, [(6, false)]⟩])
  (.cond (.seq (.reg [⟨none, [(0, false), (1, false), (2, false), (3, false)]⟩])
  (.leaf))
  (.leaf)))
  (.seq (.reg [⟨none, [(0, false), (1, false), (2, false), (3, false), (4, false), (5, false)]⟩])
  (.seq (.reg [⟨none, [(0, false), (1, false)]⟩])
  (.cond (.seq (.reg [⟨none, [(0, false), (1, false), (2, false), (3, false)]⟩])
  (.leaf))
  (.leaf))))))))
  (.reg [⟨none, [(0, false), (1, false)]⟩])))))))
  (.seq (.reg [⟨none, [(0, false), (1, false), (2, false), (3, false), (4, false), (5, false), (6, false)]⟩])
  (.seq (.reg [⟨none, [(0, false)]⟩])
  (.seq (.seq (.reg [⟨none, [(0, false), (1, false), (2, false)]⟩])
  (.block (.loop [(4, .any), (17, .any), (18, .any), (98, .any), (99, .int .i64), (100, .int .i64)] (fun n l h => s21l6_R (s21l6 Ψ n) l h) (fun L6 =>
  .seq (.reg [⟨none, [(0, false)]⟩])
  (.seq (.cond (.leaf)
  (.leaf))
  (.seq (.block (.seq (.reg [⟨none, [(0, false), (1, false), (2, false), (3, false)]⟩])
  (.seq (.reg [⟨none, [(0, false), (1, false), (2, false), (3, false)]⟩])
  (.seq (.reg [⟨none, [(0, false), (1, false), (2, true), (3, false), (4, false)]⟩])
  (.seq (.reg [⟨none, [(0, false), (1, false), (2, false), (3, false)]⟩])
  (.block (.loop [(4, .any), (17, .any), (18, .any), (20, .any), (21, .int .i64), (98, .any), (99, .int .i64), (100, .int .i64), (112, .any), (113, .int .i64), (114, .int .i64)] (fun n l h => s21l7_R (s21l7 Ψ (fun y0 y1 y2 y3 y4 y5 h => L6 [y0, y1, y2, y3, (.int .i64 y4), (.int .i64 y5)] h) n) l h) (fun L7 =>
  .seq (.reg [⟨none, [(0, false)]⟩])
  (.seq (.cond (.leaf)
  (.leaf))
  (.seq (.block (.seq (.reg [⟨none, [(0, false), (1, false), (2, false), (3, false), (4, false)]⟩])
  (.seq (.reg [⟨none, [(0, false)]⟩])
  (.seq (.seq (.reg [⟨none, [(0, false), (1, false), (2, false)]⟩])
  (.block (.loop [(4, .any), (17, .any), (18, .any), (20, .any), (21, .int .i64), (22, .int .i64), (24, .any), (98, .any), (99, .int .i64), (100, .int .i64), (112, .any), (113, .int .i64), (114, .int .i64), (119, .any), (120, .int .i64), (121, .int .i64)] (fun n l h => s21l8_R (s21l8 Ψ (fun y0 y1 y2 y3 y4 y5 h => L6 [y0, y1, y2, y3, (.int .i64 y4), (.int .i64 y5)] h) (fun y0 y1 y2 y3 y4 y5 y6 y7 y8 y9 y10 h => L7 [y0, y1, y2, y3, (.int .i64 y4), y5, (.int .i64 y6), (.int .i64 y7), y8, (.int .i64 y9), (.int .i64 y10)] h) n) l h) (fun L8 =>
  .seq (.reg [⟨none, [(0, false)]⟩])
  (.seq (.cond (.leaf)
  (.leaf))
  (.seq (.block (.seq (.reg [⟨none, [(0, false), (1, false), (2, false)]⟩])
  (.reg [⟨none, [(0, false), (1, false), (2, false), (3, false), (4, true), (5, false), (6, false)]⟩])))
  (.reg [⟨none, [(0, false), (1, false)]⟩])))))))
  (.seq (.draw [(0, false), (1, false), (2, false), (3, false), (4, false), (5, false), (6, false), (7, false), (8, false), (9, true), (10, false), (11, false), (12, false)] [0, 1, 0, 4, 12, 28, 0, 0, 192, 448, 1020, 2047, 4095])
  (.seq (.reg [⟨none, [(0, false), (1, false), (2, false), (3, true), (4, false), (5, false), (6, false)]⟩])
  (.draw [(0, false), (1, false), (2, false), (3, false), (4, false), (5, false), (6, false), (7, false), (8, true), (9, false), (10, false), (11, false)] [0, 1, 0, 4, 0, 28, 60, 124, 252, 511, 1023, 2047])))))))
  (.reg [⟨none, [(0, false), (1, false)]⟩])))))))))))
  (.reg [⟨none, [(0, false), (1, false)]⟩])))))))
  (.seq (.reg [⟨none, [(0, false), (1, false), (2, false), (3, false), (4, false), (5, false)]⟩])
  (.leaf)))))))))

theorem s21_ok {Ψ : AVal → Heap → Prop} {l_ : AVal} {atoms : AVal} {h : Heap} (H : s21 Ψ l_ atoms h) : ACalls prog 21 [l_, atoms] h Ψ :=
  calls_of_evF func21 (by kernel_rfl) (by kernel_rfl) (by kernel_rfl)
    (Eq.mpr (by as_aux_lemma => kernel_rfl : oblF prog f21 (s21_A Ψ) Ψ = (True ∧ (True ∧ (∀ (h : Heap) (x0 x1 x2 x3 : AVal) (x4 x5 : Int), ON (s21l1 Ψ 0 x0 x1 x2 x3 x4 x5 h)) ∧ ∀ n1 : Nat, (∀ (h : Heap) (x0 x1 x2 x3 : AVal) (x4 x5 : Int), OI (s21l1 Ψ (n1 + 1) x0 x1 x2 x3 x4 x5 h)) ∧ (True ∧ (True ∧ True) ∧ (True ∧ True ∧ True ∧ (True ∧ True) ∧ True) ∧ True)) ∧ True ∧ (True ∧ (∀ (h : Heap) (x0 x1 x2 : AVal) (x3 : Int) (x4 : AVal) (x5 x6 : Int), ON (s21l2 Ψ 0 x0 x1 x2 x3 x4 x5 x6 h)) ∧ ∀ n2 : Nat, (∀ (h : Heap) (x0 x1 x2 : AVal) (x3 : Int) (x4 : AVal) (x5 x6 : Int), OI (s21l2 Ψ (n2 + 1) x0 x1 x2 x3 x4 x5 x6 h)) ∧ (True ∧ (True ∧ True) ∧ (True ∧ (True) ∧ (∀ (h : Heap) (x0 x1 x2 : AVal) (x3 : Int) (x4 : AVal) (x5 x6 : Int) (x7 : Bool), OI (s21c3 Ψ (s21l2_G (s21l2 Ψ n2)) x0 x1 x2 x3 x4 x5 x6 x7 h)) ∧ ((True ∧ True) ∧ True)) ∧ True)) ∧ (True ∧ (∀ (h : Heap) (x0 x1 x2 : AVal) (x3 : Int) (x4 : AVal) (x5 x6 : Int), ON (s21l4 Ψ 0 x0 x1 x2 x3 x4 x5 x6 h)) ∧ ∀ n4 : Nat, (∀ (h : Heap) (x0 x1 x2 : AVal) (x3 : Int) (x4 : AVal) (x5 x6 : Int), OI (s21l4 Ψ (n4 + 1) x0 x1 x2 x3 x4 x5 x6 h)) ∧ (True ∧ (True ∧ True) ∧ (True ∧ True ∧ ((True) ∧ (∀ (h : Heap) (x0 x1 x2 : AVal) (x3 : Int) (x4 x5 : AVal) (x6 x7 : Int) (x8 : Bool), OI (s21c5 Ψ (s21l4_G (s21l4 Ψ n4)) x0 x1 x2 x3 x4 x5 x6 x7 x8 h)) ∧ ((True ∧ True) ∧ True)) ∧ True ∧ True ∧ (True ∧ True) ∧ True) ∧ True)) ∧ True ∧ True ∧ (True ∧ (∀ (h : Heap) (x0 x1 x2 x3 : AVal) (x4 x5 : Int), ON (s21l6 Ψ 0 x0 x1 x2 x3 x4 x5 h)) ∧ ∀ n6 : Nat, (∀ (h : Heap) (x0 x1 x2 x3 : AVal) (x4 x5 : Int), OI (s21l6 Ψ (n6 + 1) x0 x1 x2 x3 x4 x5 h)) ∧ (True ∧ (True ∧ True) ∧ (True ∧ True ∧ True ∧ True ∧ (∀ (h : Heap) (x0 x1 x2 x3 : AVal) (x4 : Int) (x5 : AVal) (x6 x7 : Int) (x8 : AVal) (x9 x10 : Int), ON (s21l7 Ψ (s21l6_G (s21l6 Ψ n6)) 0 x0 x1 x2 x3 x4 x5 x6 x7 x8 x9 x10 h)) ∧ ∀ n7 : Nat, (∀ (h : Heap) (x0 x1 x2 x3 : AVal) (x4 : Int) (x5 : AVal) (x6 x7 : Int) (x8 : AVal) (x9 x10 : Int), OI (s21l7 Ψ (s21l6_G (s21l6 Ψ n6)) (n7 + 1) x0 x1 x2 x3 x4 x5 x6 x7 x8 x9 x10 h)) ∧ (True ∧ (True ∧ True) ∧ (True ∧ True ∧ (True ∧ (∀ (h : Heap) (x0 x1 x2 x3 : AVal) (x4 x5 : Int) (x6 x7 : AVal) (x8 x9 : Int) (x10 : AVal) (x11 x12 : Int) (x13 : AVal) (x14 x15 : Int), ON (s21l8 Ψ (s21l6_G (s21l6 Ψ n6)) (s21l7_G (s21l7 Ψ (s21l6_G (s21l6 Ψ n6)) n7)) 0 x0 x1 x2 x3 x4 x5 x6 x7 x8 x9 x10 x11 x12 x13 x14 x15 h)) ∧ ∀ n8 : Nat, (∀ (h : Heap) (x0 x1 x2 x3 : AVal) (x4 x5 : Int) (x6 x7 : AVal) (x8 x9 : Int) (x10 : AVal) (x11 x12 : Int) (x13 : AVal) (x14 x15 : Int), OI (s21l8 Ψ (s21l6_G (s21l6 Ψ n6)) (s21l7_G (s21l7 Ψ (s21l6_G (s21l6 Ψ n6)) n7)) (n8 + 1) x0 x1 x2 x3 x4 x5 x6 x7 x8 x9 x10 x11 x12 x13 x14 x15 h)) ∧ (True ∧ (True ∧ True) ∧ (True ∧ True) ∧ True)) ∧ True ∧ True ∧ True) ∧ True)) ∧ True)) ∧ True ∧ True)) ⟨trivial, ⟨⟨trivial, ⟨fun _ _ _ _ _ _ _ H => H, fun _ => ⟨fun _ _ _ _ _ _ _ H => H, ⟨trivial, ⟨⟨trivial, trivial⟩, ⟨⟨trivial, ⟨trivial, ⟨trivial, ⟨⟨trivial, trivial⟩, trivial⟩⟩⟩⟩, trivial⟩⟩⟩⟩⟩⟩, ⟨trivial, ⟨⟨trivial, ⟨fun _ _ _ _ _ _ _ _ H => H, fun _ => ⟨fun _ _ _ _ _ _ _ _ H => H, ⟨trivial, ⟨⟨trivial, trivial⟩, ⟨⟨trivial, ⟨trivial, fun _ _ _ _ _ _ _ _ _ H => H, ⟨⟨trivial, trivial⟩, trivial⟩⟩⟩, trivial⟩⟩⟩⟩⟩⟩, ⟨⟨trivial, ⟨fun _ _ _ _ _ _ _ _ H => H, fun _ => ⟨fun _ _ _ _ _ _ _ _ H => H, ⟨trivial, ⟨⟨trivial, trivial⟩, ⟨⟨trivial, ⟨trivial, ⟨⟨trivial, fun _ _ _ _ _ _ _ _ _ _ H => H, ⟨⟨trivial, trivial⟩, trivial⟩⟩, ⟨trivial, ⟨trivial, ⟨⟨trivial, trivial⟩, trivial⟩⟩⟩⟩⟩⟩, trivial⟩⟩⟩⟩⟩⟩, ⟨trivial, ⟨trivial, ⟨⟨trivial, ⟨fun _ _ _ _ _ _ _ H => H, fun _ => ⟨fun _ _ _ _ _ _ _ H => H, ⟨trivial, ⟨⟨trivial, trivial⟩, ⟨⟨trivial, ⟨trivial, ⟨trivial, ⟨trivial, ⟨fun _ _ _ _ _ _ _ _ _ _ _ _ H => H, fun _ => ⟨fun _ _ _ _ _ _ _ _ _ _ _ _ H => H, ⟨trivial, ⟨⟨trivial, trivial⟩, ⟨⟨trivial, ⟨trivial, ⟨⟨trivial, ⟨fun _ _ _ _ _ _ _ _ _ _ _ _ _ _ _ _ _ H => H, fun _ => ⟨fun _ _ _ _ _ _ _ _ _ _ _ _ _ _ _ _ _ H => H, ⟨trivial, ⟨⟨trivial, trivial⟩, ⟨⟨trivial, trivial⟩, trivial⟩⟩⟩⟩⟩⟩, ⟨trivial, ⟨trivial, trivial⟩⟩⟩⟩⟩, trivial⟩⟩⟩⟩⟩⟩⟩⟩⟩, trivial⟩⟩⟩⟩⟩⟩, ⟨trivial, trivial⟩⟩⟩⟩⟩⟩⟩⟩⟩)
    (Eq.mpr (by as_aux_lemma => kernel_rfl : evF prog f21 (s21_A Ψ) Ψ [l_, atoms] h = s21 Ψ l_ atoms h) H)

/- 23 dictum/dictumref17.Names -/
def s23l1_R (F : AVal → AVal → Int → Heap → Prop) (l : List AVal) (h : Heap) : Prop := J.cons l fun x0 l => J.cons l fun x1 l => J.cons l fun v l => J.int .i64 v fun x2 => J.nil l (F x0 x1 x2 h)
def s23l1_G (F : AVal → AVal → Int → Heap → Prop) (x0 : AVal) (x1 : AVal) (x2 : Int) (h : Heap) : Prop := gJ [.any, .any, .int .i64] [x0, x1, (.int .i64 x2)] h (s23l1_R F)
def s23l1_E (F : Nat → AVal → AVal → Int → Heap → Prop) (x0 : AVal) (x1 : AVal) (x2 : Int) (h : Heap) : Prop := gJ [.any, .any, .int .i64] [x0, x1, (.int .i64 x2)] h (fun l h => ∃ n, s23l1_R (F n) l h)
theorem s23l1_go {F : AVal → AVal → Int → Heap → Prop} {x0 : AVal} {x1 : AVal} {x2 : Int} {h : Heap} (H : F x0 x1 x2 h) : s23l1_G F x0 x1 x2 h := gJ_plain rfl H
theorem s23l1_in {F : Nat → AVal → AVal → Int → Heap → Prop} {x0 : AVal} {x1 : AVal} {x2 : Int} {h : Heap} (n : Nat) (H : F n x0 x1 x2 h) : s23l1_E F x0 x1 x2 h := gJ_plain rfl ⟨n, H⟩

def s23l1 (Ψ : AVal → Heap → Prop) : Nat → AVal → AVal → Int → Heap → Prop
  | 0, _, _, _, _ => False
  | n2 + 1, a1, b1, i, h =>
    lenN a1 fun n3 =>
    ifT (decide (i < n3)) (
      ixS 1 a1 i fun p =>
      ld1 h p fun v =>
      tStr v fun v1 =>
      ixS 1 b1 i fun p1 =>
      ld1 h p1 fun v2 =>
      tStr v2 fun v3 =>
      ifT (!strEq v1 v3) (
        retG (.bool false) h Ψ) (
        rg (i + 1) (
          s23l1_G (s23l1 Ψ n2) a1 b1 (i + 1) h))) (
      retG (.bool true) h Ψ)

def s23 (Ψ : AVal → Heap → Prop) (a : AVal) (b : AVal) (h : Heap) : Prop :=
  lenN a fun n =>
  lenN b fun n1 =>
  ifT (n != n1) (
    retG (.bool false) h Ψ) (
    s23l1_E (s23l1 Ψ) a b 0 h)

def s23_A (Ψ : AVal → Heap → Prop) : Ann :=
  .seq (.reg [⟨none, [(0, false)]⟩])
  (.seq (.seq (.reg [⟨none, [(0, false), (1, false), (2, false), (3, false), (4, false)]⟩])
  (.cond (.seq (.reg [⟨none, [(0, false)]⟩])
  (.leaf))
  (.leaf)))
  (.seq (.seq (.reg [⟨none, [(0, false)]⟩])
  (.block (.loop [(0, .any), (1, .any), (5, .int .i64)] (fun n l h => s23l1_R (s23l1 Ψ n) l h) (fun L1 =>
  .seq (.seq (.reg [⟨none, [(0, false), (1, false), (2, false), (3, false)]⟩])
  (.cond (.leaf)
  (.leaf)))
  (.seq (.block (.seq (.draw [(0, false), (1, false), (2, false), (3, false), (4, false), (5, false), (6, false), (7, false), (8, false)] [0, 0, 3, 7, 0, 0, 48, 112, 255])
  (.cond (.seq (.reg [⟨none, [(0, false)]⟩])
  (.leaf))
  (.leaf))))
  (.reg [⟨none, [(0, false), (1, false), (2, false)]⟩]))))))
  (.seq (.reg [⟨none, [(0, false)]⟩])
  (.leaf))))

theorem s23_ok {Ψ : AVal → Heap → Prop} {a : AVal} {b : AVal} {h : Heap} (H : s23 Ψ a b h) : ACalls prog 23 [a, b] h Ψ :=
  calls_of_evF func23 (by kernel_rfl) (by kernel_rfl) (by kernel_rfl)
    (Eq.mpr (by as_aux_lemma => kernel_rfl : oblF prog f23 (s23_A Ψ) Ψ = (True ∧ (True ∧ (True ∧ True) ∧ True) ∧ (True ∧ (∀ (h : Heap) (x0 x1 : AVal) (x2 : Int), ON (s23l1 Ψ 0 x0 x1 x2 h)) ∧ ∀ n1 : Nat, (∀ (h : Heap) (x0 x1 : AVal) (x2 : Int), OI (s23l1 Ψ (n1 + 1) x0 x1 x2 h)) ∧ ((True ∧ True ∧ True) ∧ (True ∧ (True ∧ True) ∧ True) ∧ True)) ∧ True ∧ True)) ⟨trivial, ⟨⟨trivial, ⟨⟨trivial, trivial⟩, trivial⟩⟩, ⟨⟨trivial, ⟨fun _ _ _ _ H => H, fun _ => ⟨fun _ _ _ _ H => H, ⟨⟨trivial, ⟨trivial, trivial⟩⟩, ⟨⟨trivial, ⟨⟨trivial, trivial⟩, trivial⟩⟩, trivial⟩⟩⟩⟩⟩, ⟨trivial, trivial⟩⟩⟩⟩)
    (Eq.mpr (by as_aux_lemma => kernel_rfl : evF prog f23 (s23_A Ψ) Ψ [a, b] h = s23 Ψ a b h) H)

/- 25 dictum/morph.Bounded -/
def s25l2_R (F : AVal → AVal → AVal → AVal → AVal → Int → Int → Heap → Prop) (l : List AVal) (h : Heap) : Prop := J.cons l fun x0 l => J.cons l fun x1 l => J.cons l fun x2 l => J.cons l fun x3 l => J.cons l fun x4 l => J.cons l fun v l => J.int .i64 v fun x5 => J.cons l fun v l => J.int .i64 v fun x6 => J.nil l (F x0 x1 x2 x3 x4 x5 x6 h)
def s25l2_G (F : AVal → AVal → AVal → AVal → AVal → Int → Int → Heap → Prop) (x0 : AVal) (x1 : AVal) (x2 : AVal) (x3 : AVal) (x4 : AVal) (x5 : Int) (x6 : Int) (h : Heap) : Prop := gJ [.any, .any, .any, .any, .any, .int .i64, .int .i64] [x0, x1, x2, x3, x4, (.int .i64 x5), (.int .i64 x6)] h (s25l2_R F)
def s25l2_E (F : Nat → AVal → AVal → AVal → AVal → AVal → Int → Int → Heap → Prop) (x0 : AVal) (x1 : AVal) (x2 : AVal) (x3 : AVal) (x4 : AVal) (x5 : Int) (x6 : Int) (h : Heap) : Prop := gJ [.any, .any, .any, .any, .any, .int .i64, .int .i64] [x0, x1, x2, x3, x4, (.int .i64 x5), (.int .i64 x6)] h (fun l h => ∃ n, s25l2_R (F n) l h)
theorem s25l2_go {F : AVal → AVal → AVal → AVal → AVal → Int → Int → Heap → Prop} {x0 : AVal} {x1 : AVal} {x2 : AVal} {x3 : AVal} {x4 : AVal} {x5 : Int} {x6 : Int} {h : Heap} (H : F x0 x1 x2 x3 x4 x5 x6 h) : s25l2_G F x0 x1 x2 x3 x4 x5 x6 h := gJ_plain rfl H
theorem s25l2_in {F : Nat → AVal → AVal → AVal → AVal → AVal → Int → Int → Heap → Prop} {x0 : AVal} {x1 : AVal} {x2 : AVal} {x3 : AVal} {x4 : AVal} {x5 : Int} {x6 : Int} {h : Heap} (n : Nat) (H : F n x0 x1 x2 x3 x4 x5 x6 h) : s25l2_E F x0 x1 x2 x3 x4 x5 x6 h := gJ_plain rfl ⟨n, H⟩

def s25l3_R (F : AVal → AVal → AVal → AVal → AVal → Int → AVal → Int → Int → AVal → Int → Int → Heap → Prop) (l : List AVal) (h : Heap) : Prop := J.cons l fun x0 l => J.cons l fun x1 l => J.cons l fun x2 l => J.cons l fun x3 l => J.cons l fun x4 l => J.cons l fun v l => J.int .i64 v fun x5 => J.cons l fun x6 l => J.cons l fun v l => J.int .i64 v fun x7 => J.cons l fun v l => J.int .i64 v fun x8 => J.cons l fun x9 l => J.cons l fun v l => J.int .i64 v fun x10 => J.cons l fun v l => J.int .i64 v fun x11 => J.nil l (F x0 x1 x2 x3 x4 x5 x6 x7 x8 x9 x10 x11 h)
def s25l3_G (F : AVal → AVal → AVal → AVal → AVal → Int → AVal → Int → Int → AVal → Int → Int → Heap → Prop) (x0 : AVal) (x1 : AVal) (x2 : AVal) (x3 : AVal) (x4 : AVal) (x5 : Int) (x6 : AVal) (x7 : Int) (x8 : Int) (x9 : AVal) (x10 : Int) (x11 : Int) (h : Heap) : Prop := gJ [.any, .any, .any, .any, .any, .int .i64, .any, .int .i64, .int .i64, .any, .int .i64, .int .i64] [x0, x1, x2, x3, x4, (.int .i64 x5), x6, (.int .i64 x7), (.int .i64 x8), x9, (.int .i64 x10), (.int .i64 x11)] h (s25l3_R F)
def s25l3_E (F : Nat → AVal → AVal → AVal → AVal → AVal → Int → AVal → Int → Int → AVal → Int → Int → Heap → Prop) (x0 : AVal) (x1 : AVal) (x2 : AVal) (x3 : AVal) (x4 : AVal) (x5 : Int) (x6 : AVal) (x7 : Int) (x8 : Int) (x9 : AVal) (x10 : Int) (x11 : Int) (h : Heap) : Prop := gJ [.any, .any, .any, .any, .any, .int .i64, .any, .int .i64, .int .i64, .any, .int .i64, .int .i64] [x0, x1, x2, x3, x4, (.int .i64 x5), x6, (.int .i64 x7), (.int .i64 x8), x9, (.int .i64 x10), (.int .i64 x11)] h (fun l h => ∃ n, s25l3_R (F n) l h)
theorem s25l3_go {F : AVal → AVal → AVal → AVal → AVal → Int → AVal → Int → Int → AVal → Int → Int → Heap → Prop} {x0 : AVal} {x1 : AVal} {x2 : AVal} {x3 : AVal} {x4 : AVal} {x5 : Int} {x6 : AVal} {x7 : Int} {x8 : Int} {x9 : AVal} {x10 : Int} {x11 : Int} {h : Heap} (H : F x0 x1 x2 x3 x4 x5 x6 x7 x8 x9 x10 x11 h) : s25l3_G F x0 x1 x2 x3 x4 x5 x6 x7 x8 x9 x10 x11 h := gJ_plain rfl H
theorem s25l3_in {F : Nat → AVal → AVal → AVal → AVal → AVal → Int → AVal → Int → Int → AVal → Int → Int → Heap → Prop} {x0 : AVal} {x1 : AVal} {x2 : AVal} {x3 : AVal} {x4 : AVal} {x5 : Int} {x6 : AVal} {x7 : Int} {x8 : Int} {x9 : AVal} {x10 : Int} {x11 : Int} {h : Heap} (n : Nat) (H : F n x0 x1 x2 x3 x4 x5 x6 x7 x8 x9 x10 x11 h) : s25l3_E F x0 x1 x2 x3 x4 x5 x6 x7 x8 x9 x10 x11 h := gJ_plain rfl ⟨n, H⟩

def s25l3 (Ψ : AVal → Heap → Prop) (L2 : AVal → AVal → AVal → AVal → AVal → Int → Int → Heap → Prop) : Nat → AVal → AVal → AVal → AVal → AVal → Int → AVal → Int → Int → AVal → Int → Int → Heap → Prop
  | 0, _, _, _, _, _, _, _, _, _, _, _, _, _ => False
  | n6 + 1, f3, m2, n5, o2, p8, a, hit, t42_1, t43_1, t65, t66, t67, h =>
    ifT (decide (t67 < t66)) (
      ixS 1 t65 t67 fun p9 =>
      ld1 h p9 fun v17 =>
      tInt .i64 v17 fun v18 =>
      ld1 h hit fun v19 =>
      ixS 1 f3 v18 fun p10 =>
      ld1 h p10 fun v20 =>
      tInt .i64 v20 fun v21 =>
      mapGet (.int .i64 0) h v19 (.int .i64 v21) fun v22 b =>
      tInt .i64 v22 fun v23 =>
      rg (v23 + 1) (
        mapPut h v19 (.int .i64 v21) (.int .i64 (v23 + 1)) fun h_8 =>
        ld1 h_8 p8 fun v24 =>
        ixS 1 f3 a fun p11 =>
        ld1 h_8 p11 fun v25 =>
        tInt .i64 v25 fun v26 =>
        ixS 1 v24 v26 fun p12 =>
        ld1 h_8 p12 fun v27 =>
        ixS 1 f3 v18 fun p13 =>
        ld1 h_8 p13 fun v28 =>
        tInt .i64 v28 fun v29 =>
        callG prog 54 [v27, (.int .i64 v29)] h_8 fun v30 h_9 =>
        tBool v30 fun v31 =>
        ifT (!v31) (
          retG (.tuple [(.bool false), (.int .i64 0)]) h_9 Ψ) (
          rg (t67 + 1) (
            s25l3_G (s25l3 Ψ L2 n6) f3 m2 n5 o2 p8 a hit t42_1 t43_1 t65 t66 (t67 + 1) h_9)))) (
      ld1 h p8 fun v32 =>
      ixS 1 f3 a fun p14 =>
      ld1 h p14 fun v33 =>
      tInt .i64 v33 fun v34 =>
      ixS 1 v32 v34 fun p15 =>
      ld1 h p15 fun v35 =>
      callG prog 51 [v35, (.func (.func 55) [] [hit])] h fun v36 h_10 =>
      tBool v36 fun v37 =>
      ifT v37 (
        retG (.tuple [(.bool false), (.int .i64 0)]) h_10 Ψ) (
        rg (t43_1 + 1) (
          L2 f3 m2 n5 o2 p8 t42_1 (t43_1 + 1) h_10)))

def s25l2 (Ψ : AVal → Heap → Prop) : Nat → AVal → AVal → AVal → AVal → AVal → Int → Int → Heap → Prop
  | 0, _, _, _, _, _, _, _, _ => False
  | n3 + 1, f2, m1, n2, o1, p1, t42, t43, h =>
    ifT (decide (t43 < t42)) (
      addOff m1 1 fun p2 =>
      ld1 h p2 fun v8 =>
      ixS 1 v8 t43 fun p3 =>
      ld1 h p3 fun v9 =>
      addOff n2 1 fun p4 =>
      ld1 h p4 fun v10 =>
      ixS 1 f2 t43 fun p5 =>
      ld1 h p5 fun v11 =>
      tInt .i64 v11 fun v12 =>
      ixS 1 v10 v12 fun p6 =>
      ld1 h p6 fun v13 =>
      callG prog 53 [v9, v13] h fun v14 h_4 =>
      tBool v14 fun v15 =>
      ifT (!v15) (
        retG (.tuple [(.bool false), (.int .i64 0)]) h_4 Ψ) (
        newMap h_4 fun r1 h_5 =>
        Sym.newRow 1 [.nilmap] h_5 fun r2 h_6 =>
        st true h_6 (.ptr r2 0 0) [(.mapr r1)] fun h_7 =>
        ixS 1 o1 t43 fun p7 =>
        ld1 h_7 p7 fun v16 =>
        lenN v16 fun n4 =>
        s25l3_E (s25l3 Ψ (s25l2_G (s25l2 Ψ n3))) f2 m1 n2 o1 p1 t43 (.ptr r2 0 0) t42 t43 v16 n4 0 h_7)) (
      retG (.tuple [(.bool true), (.int .i64 0)]) h Ψ)

def s25c1 (Ψ : AVal → Heap → Prop) (f1 : AVal) (m : AVal) (n : AVal) (o : AVal) (p : AVal) (t40 : Bool) (h : Heap) : Prop :=
  ifT t40 (
    retG (.tuple [(.bool false), (.int .i64 190)]) h Ψ) (
    lenN o fun n1 =>
    s25l2_E (s25l2 Ψ) f1 m n o p n1 0 h)

def s25 (Ψ : AVal → Heap → Prop) (m_Up : AVal) (m_Val : AVal) (n_Up : AVal) (n_Val : AVal) (f : AVal) (h : Heap) : Prop :=
  callG prog 28 [(.agg [m_Up, m_Val])] h fun v h_ =>
  tTup v fun l_ =>
  tCons l_ fun v1 l_1 =>
  tCons l_1 fun v2 l_2 =>
  tInt .i64 v2 fun v3 =>
  tNil l_2 (
    ifT (v3 != 0) (
      retG (.tuple [(.bool false), (.int .i64 v3)]) h_ Ψ) (
      callG prog 28 [(.agg [n_Up, n_Val])] h_ fun v4 h_1 =>
      tTup v4 fun l_3 =>
      tCons l_3 fun v5 l_4 =>
      tCons l_4 fun v6 l_5 =>
      tInt .i64 v6 fun v7 =>
      tNil l_5 (
        Sym.newRow 1 [.nilsl] h_1 fun r h_2 =>
        chk (sc v5) (
          st true h_2 (.ptr r 0 0) [v5] fun h_3 =>
          ifT (v7 != 0) (
            retG (.tuple [(.bool false), (.int .i64 v7)]) h_3 Ψ) (
            lenN f fun n9 =>
            lenN v1 fun n10 =>
            ifT (n9 != n10) (
              s25c1 Ψ f (.lptr [m_Up, m_Val]) (.lptr [n_Up, n_Val]) v1 (.ptr r 0 0) true h_3) (
              callG prog 51 [f, (.func (.func 52) [] [(.ptr r 0 0)])] h_3 fun v38 h_11 =>
              tBool v38 fun v39 =>
              s25c1 Ψ f (.lptr [m_Up, m_Val]) (.lptr [n_Up, n_Val]) v1 (.ptr r 0 0) v39 h_11))))))

def s25_A (Ψ : AVal → Heap → Prop) : Ann :=
  .seq (.reg [⟨none, [(0, true), (1, true), (2, false), (3, false)]⟩])
  (.seq (.reg [⟨none, [(0, false), (1, false), (2, false), (3, false), (4, false), (5, false), (6, false)]⟩])
  (.seq (.seq (.reg [⟨none, [(0, false), (1, false)]⟩])
  (.cond (.seq (.reg [⟨none, [(0, false), (1, false), (2, false)]⟩])
  (.leaf))
  (.leaf)))
  (.seq (.reg [⟨none, [(0, false), (1, false), (2, false), (3, false), (4, false), (5, false), (6, false), (7, false)]⟩])
  (.seq (.seq (.reg [⟨none, [(0, false), (1, false)]⟩])
  (.cond (.seq (.reg [⟨none, [(0, false), (1, false), (2, false)]⟩])
  (.leaf))
  (.leaf)))
  (.seq (.cut [(2, .any), (3, .any), (4, .any), (8, .any), (10, .any), (40, .bool)] (fun l h => J.cons l fun x0 l => J.cons l fun x1 l => J.cons l fun x2 l => J.cons l fun x3 l => J.cons l fun x4 l => J.cons l fun v l => J.bool v fun x5 => J.nil l (s25c1 Ψ x0 x1 x2 x3 x4 x5 h)) (.reg [⟨none, [(0, false), (1, false), (2, false), (3, false), (4, false), (5, false)]⟩, ⟨some (36, false), [(6, false), (7, false), (8, false)]⟩, ⟨none, [(9, false)]⟩])
  (.cond (.seq (.reg [⟨none, [(0, false), (1, false)]⟩])
  (.leaf))
  (.leaf)))
  (.seq (.seq (.reg [⟨none, [(0, false), (1, false), (2, false)]⟩])
  (.block (.loop [(2, .any), (3, .any), (4, .any), (8, .any), (10, .any), (42, .int .i64), (43, .int .i64)] (fun n l h => s25l2_R (s25l2 Ψ n) l h) (fun L2 =>
  .seq (.reg [⟨none, [(0, false)]⟩])
  (.seq (.cond (.leaf)
  (.leaf))
  (.seq (.block (.seq (.reg [⟨none, [(0, false), (1, false)]⟩])
  (.seq (.seq (.draw [(0, false), (1, false), (2, false), (3, false), (4, false), (5, false), (6, false), (7, false), (8, false), (9, false), (10, false), (11, false), (12, false), (13, false), (14, false)] [0, 1, 0, 7, 15, 0, 32, 0, 0, 384, 896, 2016, 4064, 8191, 16383])
  (.cond (.seq (.reg [⟨none, [(0, false), (1, false)]⟩])
  (.leaf))
  (.leaf)))
  (.seq (.reg [⟨none, [(0, false), (1, false), (2, false)]⟩])
  (.seq (.seq (.reg [⟨none, [(0, false), (1, false), (2, false), (3, false), (4, false), (5, false)]⟩])
  (.block (.loop [(2, .any), (3, .any), (4, .any), (8, .any), (10, .any), (11, .int .i64), (12, .any), (42, .int .i64), (43, .int .i64), (65, .any), (66, .int .i64), (67, .int .i64)] (fun n l h => s25l3_R (s25l3 Ψ (fun y0 y1 y2 y3 y4 y5 y6 h => L2 [y0, y1, y2, y3, y4, (.int .i64 y5), (.int .i64 y6)] h) n) l h) (fun L3 =>
  .seq (.reg [⟨none, [(0, false)]⟩])
  (.seq (.cond (.leaf)
  (.leaf))
  (.seq (.block (.seq (.reg [⟨none, [(0, false), (1, false), (2, false)]⟩])
  (.seq (.draw [(0, false), (1, false), (2, false), (3, false), (4, false), (5, false), (6, false), (7, false)] [0, 0, 0, 6, 14, 31, 63, 127])
  (.seq (.draw [(0, false), (1, false), (2, false), (3, false), (4, false), (5, false), (6, false), (7, false), (8, false), (9, false), (10, false), (11, false), (12, false)] [0, 0, 0, 6, 14, 31, 63, 0, 0, 384, 896, 2047, 4095])
  (.cond (.seq (.reg [⟨none, [(0, false), (1, false)]⟩])
  (.leaf))
  (.leaf))))))
  (.reg [⟨none, [(0, false), (1, false)]⟩])))))))
  (.seq (.draw [(0, false), (1, false), (2, false), (3, false), (4, false), (5, false), (6, false), (7, false), (8, false)] [0, 0, 0, 6, 14, 31, 63, 0, 255])
  (.cond (.seq (.reg [⟨none, [(0, false), (1, false)]⟩])
  (.leaf))
  (.leaf))))))))
  (.reg [⟨none, [(0, false), (1, false)]⟩])))))))
  (.seq (.reg [⟨none, [(0, false), (1, false)]⟩])
  (.leaf))))))))

theorem s25_ok {Ψ : AVal → Heap → Prop} {m_Up : AVal} {m_Val : AVal} {n_Up : AVal} {n_Val : AVal} {f : AVal} {h : Heap} (H : s25 Ψ m_Up m_Val n_Up n_Val f h) : ACalls prog 25 [(.agg [m_Up, m_Val]), (.agg [n_Up, n_Val]), f] h Ψ :=
  calls_of_evF func25 (by kernel_rfl) (by kernel_rfl) (by kernel_rfl)
    (Eq.mpr (by as_aux_lemma => kernel_rfl : oblF prog f25 (s25_A Ψ) Ψ = (True ∧ True ∧ (True ∧ (True ∧ True) ∧ True) ∧ True ∧ (True ∧ (True ∧ True) ∧ True) ∧ ((True) ∧ (∀ (h : Heap) (x0 x1 x2 x3 x4 : AVal) (x5 : Bool), OI (s25c1 Ψ x0 x1 x2 x3 x4 x5 h)) ∧ ((True ∧ True) ∧ True)) ∧ (True ∧ (∀ (h : Heap) (x0 x1 x2 x3 x4 : AVal) (x5 x6 : Int), ON (s25l2 Ψ 0 x0 x1 x2 x3 x4 x5 x6 h)) ∧ ∀ n2 : Nat, (∀ (h : Heap) (x0 x1 x2 x3 x4 : AVal) (x5 x6 : Int), OI (s25l2 Ψ (n2 + 1) x0 x1 x2 x3 x4 x5 x6 h)) ∧ (True ∧ (True ∧ True) ∧ (True ∧ (True ∧ (True ∧ True) ∧ True) ∧ True ∧ (True ∧ (∀ (h : Heap) (x0 x1 x2 x3 x4 : AVal) (x5 : Int) (x6 : AVal) (x7 x8 : Int) (x9 : AVal) (x10 x11 : Int), ON (s25l3 Ψ (s25l2_G (s25l2 Ψ n2)) 0 x0 x1 x2 x3 x4 x5 x6 x7 x8 x9 x10 x11 h)) ∧ ∀ n3 : Nat, (∀ (h : Heap) (x0 x1 x2 x3 x4 : AVal) (x5 : Int) (x6 : AVal) (x7 x8 : Int) (x9 : AVal) (x10 x11 : Int), OI (s25l3 Ψ (s25l2_G (s25l2 Ψ n2)) (n3 + 1) x0 x1 x2 x3 x4 x5 x6 x7 x8 x9 x10 x11 h)) ∧ (True ∧ (True ∧ True) ∧ (True ∧ True ∧ True ∧ (True ∧ True) ∧ True) ∧ True)) ∧ True ∧ (True ∧ True) ∧ True) ∧ True)) ∧ True ∧ True)) ⟨trivial, ⟨trivial, ⟨⟨trivial, ⟨⟨trivial, trivial⟩, trivial⟩⟩, ⟨trivial, ⟨⟨trivial, ⟨⟨trivial, trivial⟩, trivial⟩⟩, ⟨⟨trivial, fun _ _ _ _ _ _ _ H => H, ⟨⟨trivial, trivial⟩, trivial⟩⟩, ⟨⟨trivial, ⟨fun _ _ _ _ _ _ _ _ H => H, fun _ => ⟨fun _ _ _ _ _ _ _ _ H => H, ⟨trivial, ⟨⟨trivial, trivial⟩, ⟨⟨trivial, ⟨⟨trivial, ⟨⟨trivial, trivial⟩, trivial⟩⟩, ⟨trivial, ⟨⟨trivial, ⟨fun _ _ _ _ _ _ _ _ _ _ _ _ _ H => H, fun _ => ⟨fun _ _ _ _ _ _ _ _ _ _ _ _ _ H => H, ⟨trivial, ⟨⟨trivial, trivial⟩, ⟨⟨trivial, ⟨trivial, ⟨trivial, ⟨⟨trivial, trivial⟩, trivial⟩⟩⟩⟩, trivial⟩⟩⟩⟩⟩⟩, ⟨trivial, ⟨⟨trivial, trivial⟩, trivial⟩⟩⟩⟩⟩⟩, trivial⟩⟩⟩⟩⟩⟩, ⟨trivial, trivial⟩⟩⟩⟩⟩⟩⟩⟩)
    (Eq.mpr (by as_aux_lemma => kernel_rfl : evF prog f25 (s25_A Ψ) Ψ [(.agg [m_Up, m_Val]), (.agg [n_Up, n_Val]), f] h = s25 Ψ m_Up m_Val n_Up n_Val f h) H)

/- 27 dictum/dictumref17.Root -/
def s27l1_R (F : AVal → Int → Heap → Prop) (l : List AVal) (h : Heap) : Prop := J.cons l fun x0 l => J.cons l fun v l => J.int .i64 v fun x1 => J.nil l (F x0 x1 h)
def s27l1_G (F : AVal → Int → Heap → Prop) (x0 : AVal) (x1 : Int) (h : Heap) : Prop := gJ [.any, .int .i64] [x0, (.int .i64 x1)] h (s27l1_R F)
def s27l1_E (F : Nat → AVal → Int → Heap → Prop) (x0 : AVal) (x1 : Int) (h : Heap) : Prop := gJ [.any, .int .i64] [x0, (.int .i64 x1)] h (fun l h => ∃ n, s27l1_R (F n) l h)
theorem s27l1_go {F : AVal → Int → Heap → Prop} {x0 : AVal} {x1 : Int} {h : Heap} (H : F x0 x1 h) : s27l1_G F x0 x1 h := gJ_plain rfl H
theorem s27l1_in {F : Nat → AVal → Int → Heap → Prop} {x0 : AVal} {x1 : Int} {h : Heap} (n : Nat) (H : F n x0 x1 h) : s27l1_E F x0 x1 h := gJ_plain rfl ⟨n, H⟩

def s27l2_R (F : AVal → Int → Bool → Int → Heap → Prop) (l : List AVal) (h : Heap) : Prop := J.cons l fun x0 l => J.cons l fun v l => J.int .i64 v fun x1 => J.cons l fun v l => J.bool v fun x2 => J.cons l fun v l => J.int .i64 v fun x3 => J.nil l (F x0 x1 x2 x3 h)
def s27l2_G (F : AVal → Int → Bool → Int → Heap → Prop) (x0 : AVal) (x1 : Int) (x2 : Bool) (x3 : Int) (h : Heap) : Prop := gJ [.any, .int .i64, .bool, .int .i64] [x0, (.int .i64 x1), (.bool x2), (.int .i64 x3)] h (s27l2_R F)
def s27l2_E (F : Nat → AVal → Int → Bool → Int → Heap → Prop) (x0 : AVal) (x1 : Int) (x2 : Bool) (x3 : Int) (h : Heap) : Prop := gJ [.any, .int .i64, .bool, .int .i64] [x0, (.int .i64 x1), (.bool x2), (.int .i64 x3)] h (fun l h => ∃ n, s27l2_R (F n) l h)
theorem s27l2_go {F : AVal → Int → Bool → Int → Heap → Prop} {x0 : AVal} {x1 : Int} {x2 : Bool} {x3 : Int} {h : Heap} (H : F x0 x1 x2 x3 h) : s27l2_G F x0 x1 x2 x3 h := gJ_plain rfl H
theorem s27l2_in {F : Nat → AVal → Int → Bool → Int → Heap → Prop} {x0 : AVal} {x1 : Int} {x2 : Bool} {x3 : Int} {h : Heap} (n : Nat) (H : F n x0 x1 x2 x3 h) : s27l2_E F x0 x1 x2 x3 h := gJ_plain rfl ⟨n, H⟩

def s27c3 (Ψ : AVal → Heap → Prop) (L1 : AVal → Int → Heap → Prop) (L2 : AVal → Int → Bool → Int → Heap → Prop) (o2 : AVal) (a2 : Int) (all1 : Bool) (b1 : Int) (h : Heap) : Prop :=
  rg (b1 + 1) (
    L2 o2 a2 all1 (b1 + 1) h)

def s27l2 (Ψ : AVal → Heap → Prop) (L1 : AVal → Int → Heap → Prop) : Nat → AVal → Int → Bool → Int → Heap → Prop
  | 0, _, _, _, _, _ => False
  | n2 + 1, o1, a1, all, b, h =>
    lenN o1 fun n3 =>
    ifT (decide (b < n3)) (
      ifT all (
        ixS 1 o1 a1 fun p =>
        ld1 h p fun v4 =>
        ixS 1 v4 b fun p1 =>
        ld1 h p1 fun v5 =>
        tBool v5 fun v6 =>
        s27c3 Ψ L1 (s27l2_G (s27l2 Ψ L1 n2)) o1 a1 v6 b h) (
        s27c3 Ψ L1 (s27l2_G (s27l2 Ψ L1 n2)) o1 a1 false b h)) (
      ifT all (
        retG (.tuple [(.int .i64 a1), (.bool true)]) h Ψ) (
        rg (a1 + 1) (
          L1 o1 (a1 + 1) h)))

def s27l1 (Ψ : AVal → Heap → Prop) : Nat → AVal → Int → Heap → Prop
  | 0, _, _, _ => False
  | n + 1, o, a, h =>
    lenN o fun n1 =>
    ifT (decide (a < n1)) (
      s27l2_E (s27l2 Ψ (s27l1_G (s27l1 Ψ n))) o a true 0 h) (
      retG (.tuple [(.int .i64 0), (.bool false)]) h Ψ)

def s27 (Ψ : AVal → Heap → Prop) (m_Up : AVal) (m_Val : AVal) (h : Heap) : Prop :=
  callG prog 31 [(.agg [m_Up, m_Val])] h fun v h_ =>
  tTup v fun l_ =>
  tCons l_ fun v1 l_1 =>
  tCons l_1 fun v2 l_2 =>
  tBool v2 fun v3 =>
  tNil l_2 (
    ifT (!v3) (
      retG (.tuple [(.int .i64 0), (.bool false)]) h_ Ψ) (
      s27l1_E (s27l1 Ψ) v1 0 h_))

def s27_A (Ψ : AVal → Heap → Prop) : Ann :=
  .seq (.reg [⟨none, [(0, true), (1, false), (2, false)]⟩])
  (.seq (.reg [⟨none, [(0, false), (1, false), (2, false), (3, false), (4, false), (5, false), (6, false)]⟩])
  (.seq (.seq (.reg [⟨none, [(0, false), (1, false)]⟩])
  (.cond (.seq (.reg [⟨none, [(0, false), (1, false)]⟩])
  (.leaf))
  (.leaf)))
  (.seq (.seq (.reg [⟨none, [(0, false)]⟩])
  (.block (.loop [(4, .any), (6, .int .i64)] (fun n l h => s27l1_R (s27l1 Ψ n) l h) (fun L1 =>
  .seq (.seq (.reg [⟨none, [(0, false), (1, false), (2, false), (3, false)]⟩])
  (.cond (.leaf)
  (.leaf)))
  (.seq (.block (.seq (.reg [⟨none, [(0, false)]⟩])
  (.seq (.seq (.reg [⟨none, [(0, false)]⟩])
  (.block (.loop [(4, .any), (6, .int .i64), (7, .bool), (8, .int .i64)] (fun n l h => s27l2_R (s27l2 Ψ (fun y0 y1 h => L1 [y0, (.int .i64 y1)] h) n) l h) (fun L2 =>
  .seq (.seq (.reg [⟨none, [(0, false), (1, false), (2, false), (3, false)]⟩])
  (.cond (.leaf)
  (.leaf)))
  (.cut [(4, .any), (6, .int .i64), (7, .bool), (8, .int .i64)] (fun l h => J.cons l fun x0 l => J.cons l fun v l => J.int .i64 v fun x1 => J.cons l fun v l => J.bool v fun x2 => J.cons l fun v l => J.int .i64 v fun x3 => J.nil l (s27c3 Ψ (fun y0 y1 h => L1 [y0, (.int .i64 y1)] h) (fun y0 y1 y2 y3 h => L2 [y0, (.int .i64 y1), (.bool y2), (.int .i64 y3)] h) x0 x1 x2 x3 h)) (.block (.reg [⟨none, [(0, false), (1, false)]⟩, ⟨some (29, true), [(2, false), (3, false), (4, false), (5, false), (6, false), (7, false), (8, false)]⟩, ⟨none, [(9, false), (10, false)]⟩]))
  (.reg [⟨none, [(0, false), (1, false), (2, false)]⟩]))))))
  (.seq (.reg [⟨none, [(0, false)]⟩])
  (.cond (.seq (.reg [⟨none, [(0, false), (1, false), (2, false)]⟩])
  (.leaf))
  (.leaf))))))
  (.reg [⟨none, [(0, false), (1, false), (2, false)]⟩]))))))
  (.seq (.reg [⟨none, [(0, false), (1, false)]⟩])
  (.leaf)))))

theorem s27_ok {Ψ : AVal → Heap → Prop} {m_Up : AVal} {m_Val : AVal} {h : Heap} (H : s27 Ψ m_Up m_Val h) : ACalls prog 27 [(.agg [m_Up, m_Val])] h Ψ :=
  calls_of_evF func27 (by kernel_rfl) (by kernel_rfl) (by kernel_rfl)
    (Eq.mpr (by as_aux_lemma => kernel_rfl : oblF prog f27 (s27_A Ψ) Ψ = (True ∧ True ∧ (True ∧ (True ∧ True) ∧ True) ∧ (True ∧ (∀ (h : Heap) (x0 : AVal) (x1 : Int), ON (s27l1 Ψ 0 x0 x1 h)) ∧ ∀ n1 : Nat, (∀ (h : Heap) (x0 : AVal) (x1 : Int), OI (s27l1 Ψ (n1 + 1) x0 x1 h)) ∧ ((True ∧ True ∧ True) ∧ (True ∧ (True ∧ (∀ (h : Heap) (x0 : AVal) (x1 : Int) (x2 : Bool) (x3 : Int), ON (s27l2 Ψ (s27l1_G (s27l1 Ψ n1)) 0 x0 x1 x2 x3 h)) ∧ ∀ n2 : Nat, (∀ (h : Heap) (x0 : AVal) (x1 : Int) (x2 : Bool) (x3 : Int), OI (s27l2 Ψ (s27l1_G (s27l1 Ψ n1)) (n2 + 1) x0 x1 x2 x3 h)) ∧ ((True ∧ True ∧ True) ∧ (True) ∧ (∀ (h : Heap) (x0 : AVal) (x1 : Int) (x2 : Bool) (x3 : Int), OI (s27c3 Ψ (s27l1_G (s27l1 Ψ n1)) (s27l2_G (s27l2 Ψ (s27l1_G (s27l1 Ψ n1)) n2)) x0 x1 x2 x3 h)) ∧ (True))) ∧ True ∧ (True ∧ True) ∧ True) ∧ True)) ∧ True ∧ True)) ⟨trivial, ⟨trivial, ⟨⟨trivial, ⟨⟨trivial, trivial⟩, trivial⟩⟩, ⟨⟨trivial, ⟨fun _ _ _ H => H, fun _ => ⟨fun _ _ _ H => H, ⟨⟨trivial, ⟨trivial, trivial⟩⟩, ⟨⟨trivial, ⟨⟨trivial, ⟨fun _ _ _ _ _ H => H, fun _ => ⟨fun _ _ _ _ _ H => H, ⟨⟨trivial, ⟨trivial, trivial⟩⟩, ⟨trivial, fun _ _ _ _ _ H => H, trivial⟩⟩⟩⟩⟩, ⟨trivial, ⟨⟨trivial, trivial⟩, trivial⟩⟩⟩⟩, trivial⟩⟩⟩⟩⟩, ⟨trivial, trivial⟩⟩⟩⟩⟩)
    (Eq.mpr (by as_aux_lemma => kernel_rfl : evF prog f27 (s27_A Ψ) Ψ [(.agg [m_Up, m_Val])] h = s27 Ψ m_Up m_Val h) H)

/- 29 slices.Clone[[]int,int] -/
def s29 (Ψ : AVal → Heap → Prop) (s : AVal) (h : Heap) : Prop :=
  nilS s fun b =>
  ifT b (
    retG .nilsl h Ψ) (
    Sym.newRow 1 [] h fun r h_ =>
    appC 1 8 h_ (.sl r 1 0 0) s fun v h_1 =>
    retG v h_1 Ψ)

def s29_A (Ψ : AVal → Heap → Prop) : Ann :=
  .seq (.reg [⟨none, [(0, false)]⟩])
  (.seq (.seq (.reg [⟨none, [(0, false), (1, false)]⟩])
  (.cond (.seq (.reg [⟨none, [(0, false)]⟩])
  (.leaf))
  (.leaf)))
  (.seq (.reg [⟨none, [(0, false), (1, false), (2, false), (3, false)]⟩])
  (.leaf)))

theorem s29_ok {Ψ : AVal → Heap → Prop} {s : AVal} {h : Heap} (H : s29 Ψ s h) : ACalls prog 29 [s] h Ψ :=
  calls_of_evF func29 (by kernel_rfl) (by kernel_rfl) (by kernel_rfl)
    (Eq.mpr (by as_aux_lemma => kernel_rfl : oblF prog f29 (s29_A Ψ) Ψ = (True ∧ (True ∧ (True ∧ True) ∧ True) ∧ True ∧ True)) ⟨trivial, ⟨⟨trivial, ⟨⟨trivial, trivial⟩, trivial⟩⟩, ⟨trivial, trivial⟩⟩⟩)
    (Eq.mpr (by as_aux_lemma => kernel_rfl : evF prog f29 (s29_A Ψ) Ψ [s] h = s29 Ψ s h) H)

/- 35 slices.Clone[[]string,string] -/
def s35 (Ψ : AVal → Heap → Prop) (s : AVal) (h : Heap) : Prop :=
  nilS s fun b =>
  ifT b (
    retG .nilsl h Ψ) (
    Sym.newRow 1 [] h fun r h_ =>
    appC 1 16 h_ (.sl r 1 0 0) s fun v h_1 =>
    retG v h_1 Ψ)

def s35_A (Ψ : AVal → Heap → Prop) : Ann :=
  .seq (.reg [⟨none, [(0, false)]⟩])
  (.seq (.seq (.reg [⟨none, [(0, false), (1, false)]⟩])
  (.cond (.seq (.reg [⟨none, [(0, false)]⟩])
  (.leaf))
  (.leaf)))
  (.seq (.reg [⟨none, [(0, false), (1, false), (2, false), (3, false)]⟩])
  (.leaf)))

theorem s35_ok {Ψ : AVal → Heap → Prop} {s : AVal} {h : Heap} (H : s35 Ψ s h) : ACalls prog 35 [s] h Ψ :=
  calls_of_evF func35 (by kernel_rfl) (by kernel_rfl) (by kernel_rfl)
    (Eq.mpr (by as_aux_lemma => kernel_rfl : oblF prog f35 (s35_A Ψ) Ψ = (True ∧ (True ∧ (True ∧ True) ∧ True) ∧ True ∧ True)) ⟨trivial, ⟨⟨trivial, ⟨⟨trivial, trivial⟩, trivial⟩⟩, ⟨trivial, trivial⟩⟩⟩)
    (Eq.mpr (by as_aux_lemma => kernel_rfl : evF prog f35 (s35_A Ψ) Ψ [s] h = s35 Ψ s h) H)

/- 37 dictum/dictumref19.tidy -/
def s37 (Ψ : AVal → Heap → Prop) (m_Up : AVal) (m_Val : AVal) (h : Heap) : Prop :=
  Sym.newRow 2 [(.agg [.nilsl, .nilsl])] h fun r h_ =>
  callG prog 65 [(.agg [m_Up, m_Val])] h_ fun v h_1 =>
  tTup v fun l_ =>
  tCons l_ fun v1 l_1 =>
  tCons l_1 fun v2 l_2 =>
  tInt .i64 v2 fun v3 =>
  tNil l_2 (
    tAgg v1 fun l_3 =>
    tCons l_3 fun v4 l_4 =>
    tCons l_4 fun v5 l_5 =>
    tNil l_5 (
      Sym.newRow 2 [(.agg [.nilsl, .nilsl])] h_1 fun r1 h_2 =>
      st false h_2 (.ptr r1 0 0) [v4, v5] fun h_3 =>
      ldN 2 h_3 (.ptr r1 0 0) fun l_6 =>
      tCons l_6 fun v6 l_7 =>
      tCons l_7 fun v7 l_8 =>
      tNil l_8 (
        st false h_3 (.ptr r 0 0) [v6, v7] fun h_4 =>
        ldN 2 h_4 (.ptr r 0 0) fun l_9 =>
        tCons l_9 fun v8 l_10 =>
        tCons l_10 fun v9 l_11 =>
        tNil l_11 (
          retG (.agg [v8, v9]) h_4 Ψ))))

def s37_A (Ψ : AVal → Heap → Prop) : Ann :=
  .seq (.reg [⟨none, [(0, true), (1, false)]⟩])
  (.seq (.reg [⟨none, [(0, false), (1, false), (2, false), (3, false), (4, false), (5, false), (6, false), (7, false)]⟩])
  (.seq (.reg [⟨none, [(0, false), (1, false)]⟩])
  (.leaf)))

theorem s37_ok {Ψ : AVal → Heap → Prop} {m_Up : AVal} {m_Val : AVal} {h : Heap} (H : s37 Ψ m_Up m_Val h) : ACalls prog 37 [(.agg [m_Up, m_Val])] h Ψ :=
  calls_of_evF func37 (by kernel_rfl) (by kernel_rfl) (by kernel_rfl)
    (Eq.mpr (by as_aux_lemma => kernel_rfl : oblF prog f37 (s37_A Ψ) Ψ = (True ∧ True ∧ True ∧ True)) ⟨trivial, ⟨trivial, ⟨trivial, trivial⟩⟩⟩)
    (Eq.mpr (by as_aux_lemma => kernel_rfl : evF prog f37 (s37_A Ψ) Ψ [(.agg [m_Up, m_Val])] h = s37 Ψ m_Up m_Val h) H)

/- 41 dictum/worlds.Check -/
def s41 (Ψ : AVal → Heap → Prop) (m_Up : AVal) (m_Val : AVal) (h : Heap) : Prop :=
  callG prog 67 [(.agg [m_Up, m_Val]), .nilsl] h fun v h_ =>
  tTup v fun l_ =>
  tCons l_ fun v1 l_1 =>
  tCons l_1 fun v2 l_2 =>
  tInt .i64 v2 fun v3 =>
  tNil l_2 (
    retG (.int .i64 v3) h_ Ψ)

def s41_A (Ψ : AVal → Heap → Prop) : Ann :=
  .seq (.reg [⟨none, [(0, true), (1, false)]⟩])
  (.seq (.reg [⟨none, [(0, false), (1, false), (2, false), (3, false), (4, false), (5, false), (6, false)]⟩])
  (.seq (.reg [⟨none, [(0, false), (1, false)]⟩])
  (.leaf)))

theorem s41_ok {Ψ : AVal → Heap → Prop} {m_Up : AVal} {m_Val : AVal} {h : Heap} (H : s41 Ψ m_Up m_Val h) : ACalls prog 41 [(.agg [m_Up, m_Val])] h Ψ :=
  calls_of_evF func41 (by kernel_rfl) (by kernel_rfl) (by kernel_rfl)
    (Eq.mpr (by as_aux_lemma => kernel_rfl : oblF prog f41 (s41_A Ψ) Ψ = (True ∧ True ∧ True ∧ True)) ⟨trivial, ⟨trivial, ⟨trivial, trivial⟩⟩⟩)
    (Eq.mpr (by as_aux_lemma => kernel_rfl : evF prog f41 (s41_A Ψ) Ψ [(.agg [m_Up, m_Val])] h = s41 Ψ m_Up m_Val h) H)

/- 43 dictum/worlds.Root -/
def s43l1_R (F : AVal → AVal → Int → Int → Heap → Prop) (l : List AVal) (h : Heap) : Prop := J.cons l fun x0 l => J.cons l fun x1 l => J.cons l fun v l => J.int .i64 v fun x2 => J.cons l fun v l => J.int .i64 v fun x3 => J.nil l (F x0 x1 x2 x3 h)
def s43l1_G (F : AVal → AVal → Int → Int → Heap → Prop) (x0 : AVal) (x1 : AVal) (x2 : Int) (x3 : Int) (h : Heap) : Prop := gJ [.any, .any, .int .i64, .int .i64] [x0, x1, (.int .i64 x2), (.int .i64 x3)] h (s43l1_R F)
def s43l1_E (F : Nat → AVal → AVal → Int → Int → Heap → Prop) (x0 : AVal) (x1 : AVal) (x2 : Int) (x3 : Int) (h : Heap) : Prop := gJ [.any, .any, .int .i64, .int .i64] [x0, x1, (.int .i64 x2), (.int .i64 x3)] h (fun l h => ∃ n, s43l1_R (F n) l h)
theorem s43l1_go {F : AVal → AVal → Int → Int → Heap → Prop} {x0 : AVal} {x1 : AVal} {x2 : Int} {x3 : Int} {h : Heap} (H : F x0 x1 x2 x3 h) : s43l1_G F x0 x1 x2 x3 h := gJ_plain rfl H
theorem s43l1_in {F : Nat → AVal → AVal → Int → Int → Heap → Prop} {x0 : AVal} {x1 : AVal} {x2 : Int} {x3 : Int} {h : Heap} (n : Nat) (H : F n x0 x1 x2 x3 h) : s43l1_E F x0 x1 x2 x3 h := gJ_plain rfl ⟨n, H⟩

def s43l1 (Ψ : AVal → Heap → Prop) : Nat → AVal → AVal → Int → Int → Heap → Prop
  | 0, _, _, _, _, _ => False
  | n1 + 1, m, leq, t16, t17, h =>
    ifT (decide (t17 < t16)) (
      Sym.newRow 1 [(.int .i64 0)] h fun r1 h_3 =>
      st true h_3 (.ptr r1 0 0) [(.int .i64 t17)] fun h_4 =>
      ldN 2 h_4 m fun l_3 =>
      tCons l_3 fun v4 l_4 =>
      tCons l_4 fun v5 l_5 =>
      tNil l_5 (
        addOff m 0 fun p =>
        ld1 h_4 p fun v6 =>
        lenN v6 fun n2 =>
        callG prog 68 [(.agg [v4, v5]), (.func (.func 73) [] [leq, (.ptr r1 0 0)])] h_4 fun v7 h_5 =>
        (ld1 h_5 p fun v8 =>
        v8 = v6) ∧
        lenN v7 fun n3 =>
        ifT (n3 == n2) (
          ld1 h_5 (.ptr r1 0 0) fun v9 =>
          tInt .i64 v9 fun v10 =>
          retG (.tuple [(.int .i64 v10), (.bool true)]) h_5 Ψ) (
          rg (t17 + 1) (
            s43l1_G (s43l1 Ψ n1) m leq t16 (t17 + 1) h_5)))) (
      retG (.tuple [(.int .i64 0), (.bool false)]) h Ψ)

def s43 (Ψ : AVal → Heap → Prop) (m_Up : AVal) (m_Val : AVal) (h : Heap) : Prop :=
  callG prog 67 [(.agg [m_Up, m_Val]), .nilsl] h fun v h_ =>
  tTup v fun l_ =>
  tCons l_ fun v1 l_1 =>
  tCons l_1 fun v2 l_2 =>
  tInt .i64 v2 fun v3 =>
  tNil l_2 (
    Sym.newRow 1 [.nilfunc] h_ fun r h_1 =>
    chk (sc v1) (
      st true h_1 (.ptr r 0 0) [v1] fun h_2 =>
      ifT (v3 != 0) (
        retG (.tuple [(.int .i64 0), (.bool false)]) h_2 Ψ) (
        lenN m_Up fun n =>
        s43l1_E (s43l1 Ψ) (.lptr [m_Up, m_Val]) (.ptr r 0 0) n 0 h_2)))

def s43_A (Ψ : AVal → Heap → Prop) : Ann :=
  .seq (.reg [⟨none, [(0, true), (1, false), (2, false)]⟩])
  (.seq (.reg [⟨none, [(0, false), (1, false), (2, false), (3, false), (4, false), (5, false), (6, false), (7, false)]⟩])
  (.seq (.seq (.reg [⟨none, [(0, false), (1, false)]⟩])
  (.cond (.seq (.reg [⟨none, [(0, false), (1, false)]⟩])
  (.leaf))
  (.leaf)))
  (.seq (.seq (.reg [⟨none, [(0, false), (1, false), (2, false), (3, false)]⟩])
  (.block (.loop [(1, .any), (4, .any), (16, .int .i64), (17, .int .i64)] (fun n l h => s43l1_R (s43l1 Ψ n) l h) (fun L1 =>
  .seq (.reg [⟨none, [(0, false)]⟩])
  (.seq (.cond (.leaf)
  (.leaf))
  (.seq (.block (.seq (.reg [⟨none, [(0, false), (1, false), (2, false)]⟩])
  (.seq (.draw [(0, false), (1, false), (4, false), (5, false), (6, false), (2, false), (3, false), (7, false)] [0, 0, 3, 7, 0, 16, 48, 127])
  (.cond (.seq (.reg [⟨none, [(0, false), (1, false), (2, false)]⟩])
  (.leaf))
  (.leaf)))))
  (.reg [⟨none, [(0, false), (1, false)]⟩])))))))
  (.seq (.reg [⟨none, [(0, false), (1, false)]⟩])
  (.leaf)))))

theorem s43_ok {Ψ : AVal → Heap → Prop} {m_Up : AVal} {m_Val : AVal} {h : Heap} (H : s43 Ψ m_Up m_Val h) : ACalls prog 43 [(.agg [m_Up, m_Val])] h Ψ :=
  calls_of_evF func43 (by kernel_rfl) (by kernel_rfl) (by kernel_rfl)
    (Eq.mpr (by as_aux_lemma => kernel_rfl : oblF prog f43 (s43_A Ψ) Ψ = (True ∧ True ∧ (True ∧ (True ∧ True) ∧ True) ∧ (True ∧ (∀ (h : Heap) (x0 x1 : AVal) (x2 x3 : Int), ON (s43l1 Ψ 0 x0 x1 x2 x3 h)) ∧ ∀ n1 : Nat, (∀ (h : Heap) (x0 x1 : AVal) (x2 x3 : Int), OI (s43l1 Ψ (n1 + 1) x0 x1 x2 x3 h)) ∧ (True ∧ (True ∧ True) ∧ (True ∧ True ∧ (True ∧ True) ∧ True) ∧ True)) ∧ True ∧ True)) ⟨trivial, ⟨trivial, ⟨⟨trivial, ⟨⟨trivial, trivial⟩, trivial⟩⟩, ⟨⟨trivial, ⟨fun _ _ _ _ _ H => H, fun _ => ⟨fun _ _ _ _ _ H => H, ⟨trivial, ⟨⟨trivial, trivial⟩, ⟨⟨trivial, ⟨trivial, ⟨⟨trivial, trivial⟩, trivial⟩⟩⟩, trivial⟩⟩⟩⟩⟩⟩, ⟨trivial, trivial⟩⟩⟩⟩⟩)
    (Eq.mpr (by as_aux_lemma => kernel_rfl : evF prog f43 (s43_A Ψ) Ψ [(.agg [m_Up, m_Val])] h = s43 Ψ m_Up m_Val h) H)

/- 45 dictum/morph.Glue$1 -/
def s45 (Ψ : AVal → Heap → Prop) (s : ByteArray) (c0 : AVal) (c1 : AVal) (h : Heap) : Prop :=
  addOff c0 1 fun p =>
  ld1 h p fun v =>
  ld1 h c1 fun v1 =>
  tInt .i64 v1 fun v2 =>
  ixS 1 v v2 fun p1 =>
  ld1 h p1 fun v3 =>
  callG prog 46 [v3, (.str s)] h fun v4 h_ =>
  tBool v4 fun v5 =>
  retG (.bool (!v5)) h_ Ψ

def s45_A (Ψ : AVal → Heap → Prop) : Ann :=
  .seq (.reg [⟨none, [(0, false)]⟩])
  (.seq (.reg [⟨none, [(0, false), (1, false), (2, false), (3, false), (4, false), (5, false), (6, false), (7, false), (8, false)]⟩])
  (.leaf))

theorem s45_ok {Ψ : AVal → Heap → Prop} {s : ByteArray} {c0 : AVal} {c1 : AVal} {h : Heap} (H : s45 Ψ s c0 c1 h) : ACalls prog 45 [(.str s), c0, c1] h Ψ :=
  calls_of_evF func45 (by kernel_rfl) (by kernel_rfl) (by kernel_rfl)
    (Eq.mpr (by as_aux_lemma => kernel_rfl : oblF prog f45 (s45_A Ψ) Ψ = (True ∧ True ∧ True)) ⟨trivial, ⟨trivial, trivial⟩⟩)
    (Eq.mpr (by as_aux_lemma => kernel_rfl : evF prog f45 (s45_A Ψ) Ψ [(.str s), c0, c1] h = s45 Ψ s c0 c1 h) H)

/- 47 dictum/dictumref17.Check -/
def s47 (Ψ : AVal → Heap → Prop) (m_Up : AVal) (m_Val : AVal) (h : Heap) : Prop :=
  callG prog 31 [(.agg [m_Up, m_Val])] h fun v h_ =>
  tTup v fun l_ =>
  tCons l_ fun v1 l_1 =>
  tCons l_1 fun v2 l_2 =>
  tBool v2 fun v3 =>
  tNil l_2 (
    ifT (!v3) (
      retG (.int .i64 170) h_ Ψ) (
      retG (.int .i64 0) h_ Ψ))

def s47_A (Ψ : AVal → Heap → Prop) : Ann :=
  .seq (.reg [⟨none, [(0, true), (1, false)]⟩])
  (.seq (.reg [⟨none, [(0, false), (1, false), (2, false), (3, false), (4, false), (5, false), (6, false)]⟩])
  (.seq (.seq (.reg [⟨none, [(0, false), (1, false)]⟩])
  (.cond (.seq (.reg [⟨none, [(0, false)]⟩])
  (.leaf))
  (.leaf)))
  (.seq (.reg [⟨none, [(0, false)]⟩])
  (.leaf))))

theorem s47_ok {Ψ : AVal → Heap → Prop} {m_Up : AVal} {m_Val : AVal} {h : Heap} (H : s47 Ψ m_Up m_Val h) : ACalls prog 47 [(.agg [m_Up, m_Val])] h Ψ :=
  calls_of_evF func47 (by kernel_rfl) (by kernel_rfl) (by kernel_rfl)
    (Eq.mpr (by as_aux_lemma => kernel_rfl : oblF prog f47 (s47_A Ψ) Ψ = (True ∧ True ∧ (True ∧ (True ∧ True) ∧ True) ∧ True ∧ True)) ⟨trivial, ⟨trivial, ⟨⟨trivial, ⟨⟨trivial, trivial⟩, trivial⟩⟩, ⟨trivial, trivial⟩⟩⟩⟩)
    (Eq.mpr (by as_aux_lemma => kernel_rfl : evF prog f47 (s47_A Ψ) Ψ [(.agg [m_Up, m_Val])] h = s47 Ψ m_Up m_Val h) H)

/- 49 dictum/dictumref19.has -/
def s49l1_R (F : AVal → ByteArray → Int → Heap → Prop) (l : List AVal) (h : Heap) : Prop := J.cons l fun x0 l => J.cons l fun v l => J.str v fun x1 => J.cons l fun v l => J.int .i64 v fun x2 => J.nil l (F x0 x1 x2 h)
def s49l1_G (F : AVal → ByteArray → Int → Heap → Prop) (x0 : AVal) (x1 : ByteArray) (x2 : Int) (h : Heap) : Prop := gJ [.any, .str, .int .i64] [x0, (.str x1), (.int .i64 x2)] h (s49l1_R F)
def s49l1_E (F : Nat → AVal → ByteArray → Int → Heap → Prop) (x0 : AVal) (x1 : ByteArray) (x2 : Int) (h : Heap) : Prop := gJ [.any, .str, .int .i64] [x0, (.str x1), (.int .i64 x2)] h (fun l h => ∃ n, s49l1_R (F n) l h)
theorem s49l1_go {F : AVal → ByteArray → Int → Heap → Prop} {x0 : AVal} {x1 : ByteArray} {x2 : Int} {h : Heap} (H : F x0 x1 x2 h) : s49l1_G F x0 x1 x2 h := gJ_plain rfl H
theorem s49l1_in {F : Nat → AVal → ByteArray → Int → Heap → Prop} {x0 : AVal} {x1 : ByteArray} {x2 : Int} {h : Heap} (n : Nat) (H : F n x0 x1 x2 h) : s49l1_E F x0 x1 x2 h := gJ_plain rfl ⟨n, H⟩

def s49l1 (Ψ : AVal → Heap → Prop) : Nat → AVal → ByteArray → Int → Heap → Prop
  | 0, _, _, _, _ => False
  | n + 1, l_1, s1, i, h =>
    lenN l_1 fun n1 =>
    ifT (decide (i < n1)) (
      ixS 1 l_1 i fun p =>
      ld1 h p fun v =>
      tStr v fun v1 =>
      ifT (strEq v1 s1) (
        retG (.bool true) h Ψ) (
        rg (i + 1) (
          s49l1_G (s49l1 Ψ n) l_1 s1 (i + 1) h))) (
      retG (.bool false) h Ψ)

def s49 (Ψ : AVal → Heap → Prop) (l_ : AVal) (s : ByteArray) (h : Heap) : Prop :=
  s49l1_E (s49l1 Ψ) l_ s 0 h

def s49_A (Ψ : AVal → Heap → Prop) : Ann :=
  .seq (.reg [⟨none, [(0, false)]⟩])
  (.seq (.seq (.reg [⟨none, [(0, false)]⟩])
  (.block (.loop [(0, .any), (1, .str), (5, .int .i64)] (fun n l h => s49l1_R (s49l1 Ψ n) l h) (fun L1 =>
  .seq (.seq (.reg [⟨none, [(0, false), (1, false), (2, false), (3, false)]⟩])
  (.cond (.leaf)
  (.leaf)))
  (.seq (.block (.seq (.reg [⟨none, [(0, false), (1, false), (2, false), (3, false), (4, false), (5, false)]⟩])
  (.cond (.seq (.reg [⟨none, [(0, false)]⟩])
  (.leaf))
  (.leaf))))
  (.reg [⟨none, [(0, false), (1, false), (2, false)]⟩]))))))
  (.seq (.reg [⟨none, [(0, false)]⟩])
  (.leaf)))

theorem s49_ok {Ψ : AVal → Heap → Prop} {l_ : AVal} {s : ByteArray} {h : Heap} (H : s49 Ψ l_ s h) : ACalls prog 49 [l_, (.str s)] h Ψ :=
  calls_of_evF func49 (by kernel_rfl) (by kernel_rfl) (by kernel_rfl)
    (Eq.mpr (by as_aux_lemma => kernel_rfl : oblF prog f49 (s49_A Ψ) Ψ = (True ∧ (True ∧ (∀ (h : Heap) (x0 : AVal) (x1 : ByteArray) (x2 : Int), ON (s49l1 Ψ 0 x0 x1 x2 h)) ∧ ∀ n1 : Nat, (∀ (h : Heap) (x0 : AVal) (x1 : ByteArray) (x2 : Int), OI (s49l1 Ψ (n1 + 1) x0 x1 x2 h)) ∧ ((True ∧ True ∧ True) ∧ (True ∧ (True ∧ True) ∧ True) ∧ True)) ∧ True ∧ True)) ⟨trivial, ⟨⟨trivial, ⟨fun _ _ _ _ H => H, fun _ => ⟨fun _ _ _ _ H => H, ⟨⟨trivial, ⟨trivial, trivial⟩⟩, ⟨⟨trivial, ⟨⟨trivial, trivial⟩, trivial⟩⟩, trivial⟩⟩⟩⟩⟩, ⟨trivial, trivial⟩⟩⟩)
    (Eq.mpr (by as_aux_lemma => kernel_rfl : evF prog f49 (s49_A Ψ) Ψ [l_, (.str s)] h = s49 Ψ l_ s h) H)

/- 51 slices.ContainsFunc[[]int,int] -/
def s51 (Ψ : AVal → Heap → Prop) (s : AVal) (f : AVal) (h : Heap) : Prop :=
  callG prog 79 [s, f] h fun v h_ =>
  tInt .i64 v fun v1 =>
  retG (.bool (decide (0 ≤ v1))) h_ Ψ

def s51_A (Ψ : AVal → Heap → Prop) : Ann :=
  .seq (.reg [⟨none, [(0, false)]⟩])
  (.seq (.reg [⟨none, [(0, false), (1, false), (2, false), (3, false), (4, false)]⟩])
  (.leaf))

theorem s51_ok {Ψ : AVal → Heap → Prop} {s : AVal} {f : AVal} {h : Heap} (H : s51 Ψ s f h) : ACalls prog 51 [s, f] h Ψ :=
  calls_of_evF func51 (by kernel_rfl) (by kernel_rfl) (by kernel_rfl)
    (Eq.mpr (by as_aux_lemma => kernel_rfl : oblF prog f51 (s51_A Ψ) Ψ = (True ∧ True ∧ True)) ⟨trivial, ⟨trivial, trivial⟩⟩)
    (Eq.mpr (by as_aux_lemma => kernel_rfl : evF prog f51 (s51_A Ψ) Ψ [s, f] h = s51 Ψ s f h) H)

/- 53 slices.Equal[[]string,string] -/
def s53l1_R (F : AVal → AVal → Int → Int → Heap → Prop) (l : List AVal) (h : Heap) : Prop := J.cons l fun x0 l => J.cons l fun x1 l => J.cons l fun v l => J.int .i64 v fun x2 => J.cons l fun v l => J.int .i64 v fun x3 => J.nil l (F x0 x1 x2 x3 h)
def s53l1_G (F : AVal → AVal → Int → Int → Heap → Prop) (x0 : AVal) (x1 : AVal) (x2 : Int) (x3 : Int) (h : Heap) : Prop := gJ [.any, .any, .int .i64, .int .i64] [x0, x1, (.int .i64 x2), (.int .i64 x3)] h (s53l1_R F)
def s53l1_E (F : Nat → AVal → AVal → Int → Int → Heap → Prop) (x0 : AVal) (x1 : AVal) (x2 : Int) (x3 : Int) (h : Heap) : Prop := gJ [.any, .any, .int .i64, .int .i64] [x0, x1, (.int .i64 x2), (.int .i64 x3)] h (fun l h => ∃ n, s53l1_R (F n) l h)
theorem s53l1_go {F : AVal → AVal → Int → Int → Heap → Prop} {x0 : AVal} {x1 : AVal} {x2 : Int} {x3 : Int} {h : Heap} (H : F x0 x1 x2 x3 h) : s53l1_G F x0 x1 x2 x3 h := gJ_plain rfl H
theorem s53l1_in {F : Nat → AVal → AVal → Int → Int → Heap → Prop} {x0 : AVal} {x1 : AVal} {x2 : Int} {x3 : Int} {h : Heap} (n : Nat) (H : F n x0 x1 x2 x3 h) : s53l1_E F x0 x1 x2 x3 h := gJ_plain rfl ⟨n, H⟩

def s53l1 (Ψ : AVal → Heap → Prop) : Nat → AVal → AVal → Int → Int → Heap → Prop
  | 0, _, _, _, _, _ => False
  | n3 + 1, s1_1, s2_1, t12, t13, h =>
    ifT (decide (t13 < t12)) (
      ixS 1 s1_1 t13 fun p =>
      ld1 h p fun v =>
      tStr v fun v1 =>
      ixS 1 s2_1 t13 fun p1 =>
      ld1 h p1 fun v2 =>
      tStr v2 fun v3 =>
      ifT (!strEq v1 v3) (
        retG (.bool false) h Ψ) (
        rg (t13 + 1) (
          s53l1_G (s53l1 Ψ n3) s1_1 s2_1 t12 (t13 + 1) h))) (
      retG (.bool true) h Ψ)

def s53 (Ψ : AVal → Heap → Prop) (s1 : AVal) (s2 : AVal) (h : Heap) : Prop :=
  lenN s1 fun n =>
  lenN s2 fun n1 =>
  ifT (n != n1) (
    retG (.bool false) h Ψ) (
    lenN s1 fun n2 =>
    s53l1_E (s53l1 Ψ) s1 s2 n2 0 h)

def s53_A (Ψ : AVal → Heap → Prop) : Ann :=
  .seq (.reg [⟨none, [(0, false)]⟩])
  (.seq (.seq (.reg [⟨none, [(0, false), (1, false), (2, false), (3, false), (4, false)]⟩])
  (.cond (.seq (.reg [⟨none, [(0, false)]⟩])
  (.leaf))
  (.leaf)))
  (.seq (.seq (.reg [⟨none, [(0, false), (1, false), (2, false)]⟩])
  (.block (.loop [(0, .any), (1, .any), (12, .int .i64), (13, .int .i64)] (fun n l h => s53l1_R (s53l1 Ψ n) l h) (fun L1 =>
  .seq (.reg [⟨none, [(0, false)]⟩])
  (.seq (.cond (.leaf)
  (.leaf))
  (.seq (.block (.seq (.reg [⟨none, [(0, false), (1, false)]⟩])
  (.seq (.draw [(0, false), (1, false), (2, false), (3, false), (4, false), (5, false), (6, false), (7, false), (8, false)] [0, 0, 3, 7, 0, 0, 48, 112, 255])
  (.cond (.seq (.reg [⟨none, [(0, false)]⟩])
  (.leaf))
  (.leaf)))))
  (.reg [⟨none, [(0, false), (1, false)]⟩])))))))
  (.seq (.reg [⟨none, [(0, false)]⟩])
  (.leaf))))

theorem s53_ok {Ψ : AVal → Heap → Prop} {s1 : AVal} {s2 : AVal} {h : Heap} (H : s53 Ψ s1 s2 h) : ACalls prog 53 [s1, s2] h Ψ :=
  calls_of_evF func53 (by kernel_rfl) (by kernel_rfl) (by kernel_rfl)
    (Eq.mpr (by as_aux_lemma => kernel_rfl : oblF prog f53 (s53_A Ψ) Ψ = (True ∧ (True ∧ (True ∧ True) ∧ True) ∧ (True ∧ (∀ (h : Heap) (x0 x1 : AVal) (x2 x3 : Int), ON (s53l1 Ψ 0 x0 x1 x2 x3 h)) ∧ ∀ n1 : Nat, (∀ (h : Heap) (x0 x1 : AVal) (x2 x3 : Int), OI (s53l1 Ψ (n1 + 1) x0 x1 x2 x3 h)) ∧ (True ∧ (True ∧ True) ∧ (True ∧ True ∧ (True ∧ True) ∧ True) ∧ True)) ∧ True ∧ True)) ⟨trivial, ⟨⟨trivial, ⟨⟨trivial, trivial⟩, trivial⟩⟩, ⟨⟨trivial, ⟨fun _ _ _ _ _ H => H, fun _ => ⟨fun _ _ _ _ _ H => H, ⟨trivial, ⟨⟨trivial, trivial⟩, ⟨⟨trivial, ⟨trivial, ⟨⟨trivial, trivial⟩, trivial⟩⟩⟩, trivial⟩⟩⟩⟩⟩⟩, ⟨trivial, trivial⟩⟩⟩⟩)
    (Eq.mpr (by as_aux_lemma => kernel_rfl : evF prog f53 (s53_A Ψ) Ψ [s1, s2] h = s53 Ψ s1 s2 h) H)

/- 55 dictum/morph.Bounded$2 -/
def s55 (Ψ : AVal → Heap → Prop) (c : Int) (c0 : AVal) (h : Heap) : Prop :=
  ld1 h c0 fun v =>
  mapGet (.int .i64 0) h v (.int .i64 c) fun v1 b =>
  tInt .i64 v1 fun v2 =>
  retG (.bool (v2 == 0)) h Ψ

def s55_A (Ψ : AVal → Heap → Prop) : Ann :=
  .seq (.reg [⟨none, [(0, false)]⟩])
  (.seq (.reg [⟨none, [(0, false), (1, false), (2, false), (3, false), (4, false)]⟩])
  (.leaf))

theorem s55_ok {Ψ : AVal → Heap → Prop} {c : Int} {c0 : AVal} {h : Heap} (H : s55 Ψ c c0 h) : ACalls prog 55 [(.int .i64 c), c0] h Ψ :=
  calls_of_evF func55 (by kernel_rfl) (by kernel_rfl) (by kernel_rfl)
    (Eq.mpr (by as_aux_lemma => kernel_rfl : oblF prog f55 (s55_A Ψ) Ψ = (True ∧ True ∧ True)) ⟨trivial, ⟨trivial, trivial⟩⟩)
    (Eq.mpr (by as_aux_lemma => kernel_rfl : evF prog f55 (s55_A Ψ) Ψ [(.int .i64 c), c0] h = s55 Ψ c c0 h) H)

/- 57 dictum/morph.reckon$1 -/
def s57l1_R (F : AVal → AVal → Int → Int → Heap → Prop) (l : List AVal) (h : Heap) : Prop := J.cons l fun x0 l => J.cons l fun x1 l => J.cons l fun v l => J.int .i64 v fun x2 => J.cons l fun v l => J.int .i64 v fun x3 => J.nil l (F x0 x1 x2 x3 h)
def s57l1_G (F : AVal → AVal → Int → Int → Heap → Prop) (x0 : AVal) (x1 : AVal) (x2 : Int) (x3 : Int) (h : Heap) : Prop := gJ [.any, .any, .int .i64, .int .i64] [x0, x1, (.int .i64 x2), (.int .i64 x3)] h (s57l1_R F)
def s57l1_E (F : Nat → AVal → AVal → Int → Int → Heap → Prop) (x0 : AVal) (x1 : AVal) (x2 : Int) (x3 : Int) (h : Heap) : Prop := gJ [.any, .any, .int .i64, .int .i64] [x0, x1, (.int .i64 x2), (.int .i64 x3)] h (fun l h => ∃ n, s57l1_R (F n) l h)
theorem s57l1_go {F : AVal → AVal → Int → Int → Heap → Prop} {x0 : AVal} {x1 : AVal} {x2 : Int} {x3 : Int} {h : Heap} (H : F x0 x1 x2 x3 h) : s57l1_G F x0 x1 x2 x3 h := gJ_plain rfl H
theorem s57l1_in {F : Nat → AVal → AVal → Int → Int → Heap → Prop} {x0 : AVal} {x1 : AVal} {x2 : Int} {x3 : Int} {h : Heap} (n : Nat) (H : F n x0 x1 x2 x3 h) : s57l1_E F x0 x1 x2 x3 h := gJ_plain rfl ⟨n, H⟩

def s57l1 (Ψ : AVal → Heap → Prop) : Nat → AVal → AVal → Int → Int → Heap → Prop
  | 0, _, _, _, _, _ => False
  | n1 + 1, t3, t17, t18, t19, h =>
    ifT (decide (t19 < t18)) (
      ixS 1 t17 t19 fun p2 =>
      ld1 h p2 fun v7 =>
      tInt .i64 v7 fun v8 =>
      ld1 h t3 fun v9 =>
      callV prog v9 [(.int .i64 v8)] h fun v10 h_1 =>
      rg (t19 + 1) (
        s57l1_G (s57l1 Ψ n1) t3 t17 t18 (t19 + 1) h_1)) (
      retG (.tuple []) h Ψ)

def s57 (Ψ : AVal → Heap → Prop) (v : Int) (c0 : AVal) (c1 : AVal) (c2 : AVal) (h : Heap) : Prop :=
  ld1 h c0 fun v1 =>
  mapGet (.int .i64 0) h v1 (.int .i64 v) fun v2 b =>
  tInt .i64 v2 fun v3 =>
  ifT (decide (0 < v3)) (
    retG (.tuple []) h Ψ) (
    ld1 h c0 fun v4 =>
    mapPut h v4 (.int .i64 v) (.int .i64 1) fun h_ =>
    addOff c1 0 fun p =>
    ld1 h_ p fun v5 =>
    ixS 1 v5 v fun p1 =>
    ld1 h_ p1 fun v6 =>
    lenN v6 fun n =>
    s57l1_E (s57l1 Ψ) c2 v6 n 0 h_)

def s57_A (Ψ : AVal → Heap → Prop) : Ann :=
  .seq (.seq (.reg [⟨none, [(0, false), (1, false), (2, false), (3, false)]⟩])
  (.cond (.leaf)
  (.leaf)))
  (.seq (.reg [⟨none, [(0, false), (1, false), (2, false)]⟩])
  (.seq (.reg [⟨none, [(0, false), (1, false), (2, false), (3, false), (4, false), (5, false), (6, false)]⟩])
  (.block (.loop [(3, .any), (17, .any), (18, .int .i64), (19, .int .i64)] (fun n l h => s57l1_R (s57l1 Ψ n) l h) (fun L1 =>
  .seq (.reg [⟨none, [(0, false)]⟩])
  (.seq (.cond (.leaf)
  (.leaf))
  (.seq (.block (.seq (.reg [⟨none, [(0, false), (1, false), (2, false)]⟩])
  (.reg [⟨none, [(0, false), (1, false), (2, false)]⟩])))
  (.reg [⟨none, [(0, false), (1, false)]⟩]))))))))

theorem s57_ok {Ψ : AVal → Heap → Prop} {v : Int} {c0 : AVal} {c1 : AVal} {c2 : AVal} {h : Heap} (H : s57 Ψ v c0 c1 c2 h) : ACalls prog 57 [(.int .i64 v), c0, c1, c2] h Ψ :=
  calls_of_evF func57 (by kernel_rfl) (by kernel_rfl) (by kernel_rfl)
    (Eq.mpr (by as_aux_lemma => kernel_rfl : oblF prog f57 (s57_A Ψ) Ψ = ((True ∧ True ∧ True) ∧ True ∧ True ∧ (∀ (h : Heap) (x0 x1 : AVal) (x2 x3 : Int), ON (s57l1 Ψ 0 x0 x1 x2 x3 h)) ∧ ∀ n1 : Nat, (∀ (h : Heap) (x0 x1 : AVal) (x2 x3 : Int), OI (s57l1 Ψ (n1 + 1) x0 x1 x2 x3 h)) ∧ (True ∧ (True ∧ True) ∧ (True ∧ True) ∧ True))) ⟨⟨trivial, ⟨trivial, trivial⟩⟩, ⟨trivial, ⟨trivial, ⟨fun _ _ _ _ _ H => H, fun _ => ⟨fun _ _ _ _ _ H => H, ⟨trivial, ⟨⟨trivial, trivial⟩, ⟨⟨trivial, trivial⟩, trivial⟩⟩⟩⟩⟩⟩⟩⟩)
    (Eq.mpr (by as_aux_lemma => kernel_rfl : evF prog f57 (s57_A Ψ) Ψ [(.int .i64 v), c0, c1, c2] h = s57 Ψ v c0 c1 c2 h) H)

/- 60 dictum/dictumref17.fine -/
def s60l1_R (F : AVal → Int → Heap → Prop) (l : List AVal) (h : Heap) : Prop := J.cons l fun x0 l => J.cons l fun v l => J.int .i64 v fun x1 => J.nil l (F x0 x1 h)
def s60l1_G (F : AVal → Int → Heap → Prop) (x0 : AVal) (x1 : Int) (h : Heap) : Prop := gJ [.any, .int .i64] [x0, (.int .i64 x1)] h (s60l1_R F)
def s60l1_E (F : Nat → AVal → Int → Heap → Prop) (x0 : AVal) (x1 : Int) (h : Heap) : Prop := gJ [.any, .int .i64] [x0, (.int .i64 x1)] h (fun l h => ∃ n, s60l1_R (F n) l h)
theorem s60l1_go {F : AVal → Int → Heap → Prop} {x0 : AVal} {x1 : Int} {h : Heap} (H : F x0 x1 h) : s60l1_G F x0 x1 h := gJ_plain rfl H
theorem s60l1_in {F : Nat → AVal → Int → Heap → Prop} {x0 : AVal} {x1 : Int} {h : Heap} (n : Nat) (H : F n x0 x1 h) : s60l1_E F x0 x1 h := gJ_plain rfl ⟨n, H⟩

def s60c2 (Ψ : AVal → Heap → Prop) (L1 : AVal → Int → Heap → Prop) (l_2 : AVal) (i1 : Int) (t31 : Bool) (h : Heap) : Prop :=
  ifT t31 (
    retG (.bool false) h Ψ) (
    rg (i1 + 1) (
      L1 l_2 (i1 + 1) h))

def s60l1 (Ψ : AVal → Heap → Prop) : Nat → AVal → Int → Heap → Prop
  | 0, _, _, _ => False
  | n + 1, l_1, i, h =>
    lenN l_1 fun n1 =>
    ifT (decide (i < n1)) (
      ixS 1 l_1 i fun p =>
      ld1 h p fun v =>
      tStr v fun v1 =>
      callG prog 48 [(.str v1)] h fun v2 h_ =>
      tBool v2 fun v3 =>
      ifT (!v3) (
        s60c2 Ψ (s60l1_G (s60l1 Ψ n)) l_1 i true h_) (
        ifT (decide (0 < i)) (
          rg (i - 1) (
            ixS 1 l_1 (i - 1) fun p1 =>
            ld1 h_ p1 fun v4 =>
            tStr v4 fun v5 =>
            ixS 1 l_1 i fun p2 =>
            ld1 h_ p2 fun v6 =>
            tStr v6 fun v7 =>
            s60c2 Ψ (s60l1_G (s60l1 Ψ n)) l_1 i (!strLt v5 v7) h_)) (
          s60c2 Ψ (s60l1_G (s60l1 Ψ n)) l_1 i false h_))) (
      retG (.bool true) h Ψ)

def s60 (Ψ : AVal → Heap → Prop) (l_ : AVal) (h : Heap) : Prop :=
  s60l1_E (s60l1 Ψ) l_ 0 h

def s60_A (Ψ : AVal → Heap → Prop) : Ann :=
  .seq (.reg [⟨none, [(0, false)]⟩])
  (.seq (.seq (.reg [⟨none, [(0, false)]⟩])
  (.block (.loop [(0, .any), (3, .int .i64)] (fun n l h => s60l1_R (s60l1 Ψ n) l h) (fun L1 =>
  .seq (.seq (.reg [⟨none, [(0, false), (1, false), (2, false), (3, false)]⟩])
  (.cond (.leaf)
  (.leaf)))
  (.seq (.block (.cut [(0, .any), (3, .int .i64), (31, .bool)] (fun l h => J.cons l fun x0 l => J.cons l fun v l => J.int .i64 v fun x1 => J.cons l fun v l => J.bool v fun x2 => J.nil l (s60c2 Ψ (fun y0 y1 h => L1 [y0, (.int .i64 y1)] h) x0 x1 x2 h)) (.draw [(0, false), (1, false), (2, false), (3, false), (4, false), (5, false), (6, false), (7, false), (8, false), (9, false), (10, false), (11, false), (12, false), (13, false), (14, false), (15, false), (16, false), (17, false), (18, false), (19, false), (20, false), (21, false)] [0, 0, 3, 7, 15, 31, 63, 127, 255, 511, 1023, 1023, 3071, 8191, 16383, 1023, 1023, 99327, 230399, 524287, 1048575, 2097151])
  (.cond (.seq (.reg [⟨none, [(0, false)]⟩])
  (.leaf))
  (.leaf))))
  (.reg [⟨none, [(0, false), (1, false), (2, false)]⟩]))))))
  (.seq (.reg [⟨none, [(0, false)]⟩])
  (.leaf)))

theorem s60_ok {Ψ : AVal → Heap → Prop} {l_ : AVal} {h : Heap} (H : s60 Ψ l_ h) : ACalls prog 60 [l_] h Ψ :=
  calls_of_evF func60 (by kernel_rfl) (by kernel_rfl) (by kernel_rfl)
    (Eq.mpr (by as_aux_lemma => kernel_rfl : oblF prog f60 (s60_A Ψ) Ψ = (True ∧ (True ∧ (∀ (h : Heap) (x0 : AVal) (x1 : Int), ON (s60l1 Ψ 0 x0 x1 h)) ∧ ∀ n1 : Nat, (∀ (h : Heap) (x0 : AVal) (x1 : Int), OI (s60l1 Ψ (n1 + 1) x0 x1 h)) ∧ ((True ∧ True ∧ True) ∧ ((True) ∧ (∀ (h : Heap) (x0 : AVal) (x1 : Int) (x2 : Bool), OI (s60c2 Ψ (s60l1_G (s60l1 Ψ n1)) x0 x1 x2 h)) ∧ ((True ∧ True) ∧ True)) ∧ True)) ∧ True ∧ True)) ⟨trivial, ⟨⟨trivial, ⟨fun _ _ _ H => H, fun _ => ⟨fun _ _ _ H => H, ⟨⟨trivial, ⟨trivial, trivial⟩⟩, ⟨⟨trivial, fun _ _ _ _ H => H, ⟨⟨trivial, trivial⟩, trivial⟩⟩, trivial⟩⟩⟩⟩⟩, ⟨trivial, trivial⟩⟩⟩)
    (Eq.mpr (by as_aux_lemma => kernel_rfl : evF prog f60 (s60_A Ψ) Ψ [l_] h = s60 Ψ l_ h) H)

/- 65 dictum/dictumref17.Tidy -/
def s65l1_R (F : AVal → AVal → AVal → AVal → Int → Heap → Prop) (l : List AVal) (h : Heap) : Prop := J.cons l fun x0 l => J.cons l fun x1 l => J.cons l fun x2 l => J.cons l fun x3 l => J.cons l fun v l => J.int .i64 v fun x4 => J.nil l (F x0 x1 x2 x3 x4 h)
def s65l1_G (F : AVal → AVal → AVal → AVal → Int → Heap → Prop) (x0 : AVal) (x1 : AVal) (x2 : AVal) (x3 : AVal) (x4 : Int) (h : Heap) : Prop := gJ [.any, .any, .any, .any, .int .i64] [x0, x1, x2, x3, (.int .i64 x4)] h (s65l1_R F)
def s65l1_E (F : Nat → AVal → AVal → AVal → AVal → Int → Heap → Prop) (x0 : AVal) (x1 : AVal) (x2 : AVal) (x3 : AVal) (x4 : Int) (h : Heap) : Prop := gJ [.any, .any, .any, .any, .int .i64] [x0, x1, x2, x3, (.int .i64 x4)] h (fun l h => ∃ n, s65l1_R (F n) l h)
theorem s65l1_go {F : AVal → AVal → AVal → AVal → Int → Heap → Prop} {x0 : AVal} {x1 : AVal} {x2 : AVal} {x3 : AVal} {x4 : Int} {h : Heap} (H : F x0 x1 x2 x3 x4 h) : s65l1_G F x0 x1 x2 x3 x4 h := gJ_plain rfl H
theorem s65l1_in {F : Nat → AVal → AVal → AVal → AVal → Int → Heap → Prop} {x0 : AVal} {x1 : AVal} {x2 : AVal} {x3 : AVal} {x4 : Int} {h : Heap} (n : Nat) (H : F n x0 x1 x2 x3 x4 h) : s65l1_E F x0 x1 x2 x3 x4 h := gJ_plain rfl ⟨n, H⟩

def s65l2_R (F : AVal → AVal → AVal → AVal → Int → AVal → Int → Heap → Prop) (l : List AVal) (h : Heap) : Prop := J.cons l fun x0 l => J.cons l fun x1 l => J.cons l fun x2 l => J.cons l fun x3 l => J.cons l fun v l => J.int .i64 v fun x4 => J.cons l fun x5 l => J.cons l fun v l => J.int .i64 v fun x6 => J.nil l (F x0 x1 x2 x3 x4 x5 x6 h)
def s65l2_G (F : AVal → AVal → AVal → AVal → Int → AVal → Int → Heap → Prop) (x0 : AVal) (x1 : AVal) (x2 : AVal) (x3 : AVal) (x4 : Int) (x5 : AVal) (x6 : Int) (h : Heap) : Prop := gJ [.any, .any, .any, .any, .int .i64, .any, .int .i64] [x0, x1, x2, x3, (.int .i64 x4), x5, (.int .i64 x6)] h (s65l2_R F)
def s65l2_E (F : Nat → AVal → AVal → AVal → AVal → Int → AVal → Int → Heap → Prop) (x0 : AVal) (x1 : AVal) (x2 : AVal) (x3 : AVal) (x4 : Int) (x5 : AVal) (x6 : Int) (h : Heap) : Prop := gJ [.any, .any, .any, .any, .int .i64, .any, .int .i64] [x0, x1, x2, x3, (.int .i64 x4), x5, (.int .i64 x6)] h (fun l h => ∃ n, s65l2_R (F n) l h)
theorem s65l2_go {F : AVal → AVal → AVal → AVal → Int → AVal → Int → Heap → Prop} {x0 : AVal} {x1 : AVal} {x2 : AVal} {x3 : AVal} {x4 : Int} {x5 : AVal} {x6 : Int} {h : Heap} (H : F x0 x1 x2 x3 x4 x5 x6 h) : s65l2_G F x0 x1 x2 x3 x4 x5 x6 h := gJ_plain rfl H
theorem s65l2_in {F : Nat → AVal → AVal → AVal → AVal → Int → AVal → Int → Heap → Prop} {x0 : AVal} {x1 : AVal} {x2 : AVal} {x3 : AVal} {x4 : Int} {x5 : AVal} {x6 : Int} {h : Heap} (n : Nat) (H : F n x0 x1 x2 x3 x4 x5 x6 h) : s65l2_E F x0 x1 x2 x3 x4 x5 x6 h := gJ_plain rfl ⟨n, H⟩

def s65c3 (Ψ : AVal → Heap → Prop) (L1 : AVal → AVal → AVal → AVal → Int → Heap → Prop) (L2 : AVal → AVal → AVal → AVal → Int → AVal → Int → Heap → Prop) (m2 : AVal) (t2_2 : AVal) (o2 : AVal) (out2 : AVal) (a2 : Int) (row1 : AVal) (b1 : Int) (h : Heap) : Prop :=
  rg (b1 + 1) (
    L2 m2 t2_2 o2 out2 a2 row1 (b1 + 1) h)

def s65l5_R (F : AVal → AVal → AVal → AVal → Int → AVal → Int → Bool → Int → Heap → Prop) (l : List AVal) (h : Heap) : Prop := J.cons l fun x0 l => J.cons l fun x1 l => J.cons l fun x2 l => J.cons l fun x3 l => J.cons l fun v l => J.int .i64 v fun x4 => J.cons l fun x5 l => J.cons l fun v l => J.int .i64 v fun x6 => J.cons l fun v l => J.bool v fun x7 => J.cons l fun v l => J.int .i64 v fun x8 => J.nil l (F x0 x1 x2 x3 x4 x5 x6 x7 x8 h)
def s65l5_G (F : AVal → AVal → AVal → AVal → Int → AVal → Int → Bool → Int → Heap → Prop) (x0 : AVal) (x1 : AVal) (x2 : AVal) (x3 : AVal) (x4 : Int) (x5 : AVal) (x6 : Int) (x7 : Bool) (x8 : Int) (h : Heap) : Prop := gJ [.any, .any, .any, .any, .int .i64, .any, .int .i64, .bool, .int .i64] [x0, x1, x2, x3, (.int .i64 x4), x5, (.int .i64 x6), (.bool x7), (.int .i64 x8)] h (s65l5_R F)
def s65l5_E (F : Nat → AVal → AVal → AVal → AVal → Int → AVal → Int → Bool → Int → Heap → Prop) (x0 : AVal) (x1 : AVal) (x2 : AVal) (x3 : AVal) (x4 : Int) (x5 : AVal) (x6 : Int) (x7 : Bool) (x8 : Int) (h : Heap) : Prop := gJ [.any, .any, .any, .any, .int .i64, .any, .int .i64, .bool, .int .i64] [x0, x1, x2, x3, (.int .i64 x4), x5, (.int .i64 x6), (.bool x7), (.int .i64 x8)] h (fun l h => ∃ n, s65l5_R (F n) l h)
theorem s65l5_go {F : AVal → AVal → AVal → AVal → Int → AVal → Int → Bool → Int → Heap → Prop} {x0 : AVal} {x1 : AVal} {x2 : AVal} {x3 : AVal} {x4 : Int} {x5 : AVal} {x6 : Int} {x7 : Bool} {x8 : Int} {h : Heap} (H : F x0 x1 x2 x3 x4 x5 x6 x7 x8 h) : s65l5_G F x0 x1 x2 x3 x4 x5 x6 x7 x8 h := gJ_plain rfl H
theorem s65l5_in {F : Nat → AVal → AVal → AVal → AVal → Int → AVal → Int → Bool → Int → Heap → Prop} {x0 : AVal} {x1 : AVal} {x2 : AVal} {x3 : AVal} {x4 : Int} {x5 : AVal} {x6 : Int} {x7 : Bool} {x8 : Int} {h : Heap} (n : Nat) (H : F n x0 x1 x2 x3 x4 x5 x6 x7 x8 h) : s65l5_E F x0 x1 x2 x3 x4 x5 x6 x7 x8 h := gJ_plain rfl ⟨n, H⟩

def s65c7 (Ψ : AVal → Heap → Prop) (L1 : AVal → AVal → AVal → AVal → Int → Heap → Prop) (L2 : AVal → AVal → AVal → AVal → Int → AVal → Int → Heap → Prop) (L5 : AVal → AVal → AVal → AVal → Int → AVal → Int → Bool → Int → Heap → Prop) (m6 : AVal) (t2_6 : AVal) (o6 : AVal) (out6 : AVal) (a6 : Int) (row5 : AVal) (b5 : Int) (next3 : Bool) (c2 : Int) (h : Heap) : Prop :=
  rg (c2 + 1) (
    L5 m6 t2_6 o6 out6 a6 row5 b5 next3 (c2 + 1) h)

def s65c6 (Ψ : AVal → Heap → Prop) (L1 : AVal → AVal → AVal → AVal → Int → Heap → Prop) (L2 : AVal → AVal → AVal → AVal → Int → AVal → Int → Heap → Prop) (L5 : AVal → AVal → AVal → AVal → Int → AVal → Int → Bool → Int → Heap → Prop) (m5 : AVal) (t2_5 : AVal) (o5 : AVal) (out5 : AVal) (a5 : Int) (row4 : AVal) (b4 : Int) (next2 : Bool) (c1 : Int) (t51 : Bool) (h : Heap) : Prop :=
  ifT t51 (
    ifT (c1 == a5) (
      s65c7 Ψ L1 L2 L5 m5 t2_5 o5 out5 a5 row4 b4 true c1 h) (
      ifT (c1 == b4) (
        s65c7 Ψ L1 L2 L5 m5 t2_5 o5 out5 a5 row4 b4 true c1 h) (
        ixS 1 o5 a5 fun p =>
        ld1 h p fun v6 =>
        ixS 1 v6 c1 fun p1 =>
        ld1 h p1 fun v7 =>
        tBool v7 fun v8 =>
        ifT (!v8) (
          s65c7 Ψ L1 L2 L5 m5 t2_5 o5 out5 a5 row4 b4 true c1 h) (
          ixS 1 o5 c1 fun p2 =>
          ld1 h p2 fun v9 =>
          ixS 1 v9 b4 fun p3 =>
          ld1 h p3 fun v10 =>
          tBool v10 fun v11 =>
          s65c7 Ψ L1 L2 L5 m5 t2_5 o5 out5 a5 row4 b4 (!v11) c1 h)))) (
    ifT next2 (
      appC 1 8 h row4 (.lsl 1 [(.int .i64 b4)]) fun v12 h_5 =>
      s65c3 Ψ L1 L2 m5 t2_5 o5 out5 a5 v12 b4 h_5) (
      s65c3 Ψ L1 L2 m5 t2_5 o5 out5 a5 row4 b4 h))

def s65l5 (Ψ : AVal → Heap → Prop) (L1 : AVal → AVal → AVal → AVal → Int → Heap → Prop) (L2 : AVal → AVal → AVal → AVal → Int → AVal → Int → Heap → Prop) : Nat → AVal → AVal → AVal → AVal → Int → AVal → Int → Bool → Int → Heap → Prop
  | 0, _, _, _, _, _, _, _, _, _, _ => False
  | n4 + 1, m4, t2_4, o4, out4, a4, row3, b3, next1, c, h =>
    lenN o4 fun n5 =>
    ifT (decide (c < n5)) (
      s65c6 Ψ L1 L2 (s65l5_G (s65l5 Ψ L1 L2 n4)) m4 t2_4 o4 out4 a4 row3 b3 next1 c next1 h) (
      s65c6 Ψ L1 L2 (s65l5_G (s65l5 Ψ L1 L2 n4)) m4 t2_4 o4 out4 a4 row3 b3 next1 c false h)

def s65c4 (Ψ : AVal → Heap → Prop) (L1 : AVal → AVal → AVal → AVal → Int → Heap → Prop) (L2 : AVal → AVal → AVal → AVal → Int → AVal → Int → Heap → Prop) (m3 : AVal) (t2_3 : AVal) (o3 : AVal) (out3 : AVal) (a3 : Int) (row2 : AVal) (b2 : Int) (next : Bool) (h : Heap) : Prop :=
  s65l5_E (s65l5 Ψ L1 L2) m3 t2_3 o3 out3 a3 row2 b2 next 0 h

def s65l2 (Ψ : AVal → Heap → Prop) (L1 : AVal → AVal → AVal → AVal → Int → Heap → Prop) : Nat → AVal → AVal → AVal → AVal → Int → AVal → Int → Heap → Prop
  | 0, _, _, _, _, _, _, _, _ => False
  | n2 + 1, m1, t2_1, o1, out1, a1, row, b, h =>
    lenN o1 fun n3 =>
    ifT (decide (b < n3)) (
      ifT (a1 != b) (
        ixS 1 o1 a1 fun p4 =>
        ld1 h p4 fun v13 =>
        ixS 1 v13 b fun p5 =>
        ld1 h p5 fun v14 =>
        tBool v14 fun v15 =>
        s65c4 Ψ L1 (s65l2_G (s65l2 Ψ L1 n2)) m1 t2_1 o1 out1 a1 row b v15 h) (
        s65c4 Ψ L1 (s65l2_G (s65l2 Ψ L1 n2)) m1 t2_1 o1 out1 a1 row b false h)) (
      addOff out1 0 fun p6 =>
      ld1 h p6 fun v16 =>
      chk (sc row) (
        appC 1 24 h v16 (.lsl 1 [row]) fun v17 h_6 =>
        addOff out1 0 fun p7 =>
        chk (sc v17) (
          st true h_6 p7 [v17] fun h_7 =>
          addOff out1 1 fun p8 =>
          ld1 h_7 p8 fun v18 =>
          addOff m1 1 fun p9 =>
          ld1 h_7 p9 fun v19 =>
          ixS 1 v19 a1 fun p10 =>
          ld1 h_7 p10 fun v20 =>
          Sym.newRow 1 [] h_7 fun r2 h_8 =>
          (ld1 h_8 p10 fun v21 =>
          v21 = v20) ∧
          (ld1 h_8 p9 fun v22 =>
          v22 = v19) ∧
          (ld1 h_8 p8 fun v23 =>
          v23 = v18) ∧
          appC 1 16 h_8 (.sl r2 1 0 0) v20 fun v24 h_9 =>
          (ld1 h_9 p8 fun v25 =>
          v25 = v18) ∧
          chk (sc v24) (
            (ld1 h_9 p8 fun v26 =>
            v26 = v18) ∧
            appC 1 24 h_9 v18 (.lsl 1 [v24]) fun v27 h_10 =>
            addOff out1 1 fun p11 =>
            chk (sc v27) (
              st true h_10 p11 [v27] fun h_11 =>
              rg (a1 + 1) (
                L1 m1 t2_1 o1 out1 (a1 + 1) h_11))))))

def s65l1 (Ψ : AVal → Heap → Prop) : Nat → AVal → AVal → AVal → AVal → Int → Heap → Prop
  | 0, _, _, _, _, _, _ => False
  | n + 1, m, t2, o, out, a, h =>
    lenN o fun n1 =>
    ifT (decide (a < n1)) (
      s65l2_E (s65l2 Ψ (s65l1_G (s65l1 Ψ n))) m t2 o out a .nilsl 0 h) (
      ldN 2 h out fun l_6 =>
      tCons l_6 fun v28 l_7 =>
      tCons l_7 fun v29 l_8 =>
      tNil l_8 (
        st false h t2 [v28, v29] fun h_12 =>
        ldN 2 h_12 t2 fun l_9 =>
        tCons l_9 fun v30 l_10 =>
        tCons l_10 fun v31 l_11 =>
        tNil l_11 (
          retG (.tuple [(.agg [v30, v31]), (.int .i64 0)]) h_12 Ψ)))

def s65 (Ψ : AVal → Heap → Prop) (m_Up : AVal) (m_Val : AVal) (h : Heap) : Prop :=
  Sym.newRow 2 [(.agg [.nilsl, .nilsl])] h fun r h_ =>
  callG prog 31 [(.agg [m_Up, m_Val])] h_ fun v h_1 =>
  tTup v fun l_ =>
  tCons l_ fun v1 l_1 =>
  tCons l_1 fun v2 l_2 =>
  tBool v2 fun v3 =>
  tNil l_2 (
    ifT (!v3) (
      st false h_1 (.ptr r 0 0) [.nilsl, .nilsl] fun h_2 =>
      ldN 2 h_2 (.ptr r 0 0) fun l_3 =>
      tCons l_3 fun v4 l_4 =>
      tCons l_4 fun v5 l_5 =>
      tNil l_5 (
        retG (.tuple [(.agg [v4, v5]), (.int .i64 170)]) h_2 Ψ)) (
      Sym.newRow 2 [(.agg [.nilsl, .nilsl])] h_1 fun r1 h_3 =>
      st false h_3 (.ptr r1 0 0) [.nilsl, .nilsl] fun h_4 =>
      s65l1_E (s65l1 Ψ) (.lptr [m_Up, m_Val]) (.ptr r 0 0) v1 (.ptr r1 0 0) 0 h_4))

def s65_A (Ψ : AVal → Heap → Prop) : Ann :=
  .seq (.reg [⟨none, [(0, true), (1, false), (2, false)]⟩])
  (.seq (.reg [⟨none, [(0, false), (1, false), (2, false), (3, false), (4, false), (5, false), (6, false)]⟩])
  (.seq (.seq (.reg [⟨none, [(0, false), (1, false)]⟩])
  (.cond (.seq (.reg [⟨none, [(0, false), (1, false), (2, false)]⟩])
  (.leaf))
  (.leaf)))
  (.seq (.reg [⟨none, [(0, false), (1, false), (2, false)]⟩])
  (.seq (.seq (.reg [⟨none, [(0, false)]⟩])
  (.block (.loop [(1, .any), (2, .any), (4, .any), (6, .any), (7, .int .i64)] (fun n l h => s65l1_R (s65l1 Ψ n) l h) (fun L1 =>
  .seq (.seq (.reg [⟨none, [(0, false), (1, false), (2, false), (3, false)]⟩])
  (.cond (.leaf)
  (.leaf)))
  (.seq (.block (.seq (.reg [⟨none, [(0, false)]⟩])
  (.seq (.seq (.reg [⟨none, [(0, false)]⟩])
  (.block (.loop [(1, .any), (2, .any), (4, .any), (6, .any), (7, .int .i64), (8, .any), (9, .int .i64)] (fun n l h => s65l2_R (s65l2 Ψ (fun y0 y1 y2 y3 y4 h => L1 [y0, y1, y2, y3, (.int .i64 y4)] h) n) l h) (fun L2 =>
  .seq (.seq (.reg [⟨none, [(0, false), (1, false), (2, false), (3, false)]⟩])
  (.cond (.leaf)
  (.leaf)))
  (.cut [(1, .any), (2, .any), (4, .any), (6, .any), (7, .int .i64), (8, .any), (9, .int .i64)] (fun l h => J.cons l fun x0 l => J.cons l fun x1 l => J.cons l fun x2 l => J.cons l fun x3 l => J.cons l fun v l => J.int .i64 v fun x4 => J.cons l fun x5 l => J.cons l fun v l => J.int .i64 v fun x6 => J.nil l (s65c3 Ψ (fun y0 y1 y2 y3 y4 h => L1 [y0, y1, y2, y3, (.int .i64 y4)] h) (fun y0 y1 y2 y3 y4 y5 y6 h => L2 [y0, y1, y2, y3, (.int .i64 y4), y5, (.int .i64 y6)] h) x0 x1 x2 x3 x4 x5 x6 h)) (.block (.cut [(1, .any), (2, .any), (4, .any), (6, .any), (7, .int .i64), (8, .any), (9, .int .i64), (10, .bool)] (fun l h => J.cons l fun x0 l => J.cons l fun x1 l => J.cons l fun x2 l => J.cons l fun x3 l => J.cons l fun v l => J.int .i64 v fun x4 => J.cons l fun x5 l => J.cons l fun v l => J.int .i64 v fun x6 => J.cons l fun v l => J.bool v fun x7 => J.nil l (s65c4 Ψ (fun y0 y1 y2 y3 y4 h => L1 [y0, y1, y2, y3, (.int .i64 y4)] h) (fun y0 y1 y2 y3 y4 y5 y6 h => L2 [y0, y1, y2, y3, (.int .i64 y4), y5, (.int .i64 y6)] h) x0 x1 x2 x3 x4 x5 x6 x7 h)) (.reg [⟨none, [(0, false), (1, false), (2, false), (3, false)]⟩, ⟨some (36, true), [(4, false), (5, false), (6, false), (7, false), (8, false), (9, false), (10, false)]⟩, ⟨none, [(11, false), (12, false)]⟩])
  (.seq (.seq (.reg [⟨none, [(0, false)]⟩])
  (.block (.loop [(1, .any), (2, .any), (4, .any), (6, .any), (7, .int .i64), (8, .any), (9, .int .i64), (10, .bool), (11, .int .i64)] (fun n l h => s65l5_R (s65l5 Ψ (fun y0 y1 y2 y3 y4 h => L1 [y0, y1, y2, y3, (.int .i64 y4)] h) (fun y0 y1 y2 y3 y4 y5 y6 h => L2 [y0, y1, y2, y3, (.int .i64 y4), y5, (.int .i64 y6)] h) n) l h) (fun L5 =>
  .seq (.cut [(1, .any), (2, .any), (4, .any), (6, .any), (7, .int .i64), (8, .any), (9, .int .i64), (10, .bool), (11, .int .i64), (51, .bool)] (fun l h => J.cons l fun x0 l => J.cons l fun x1 l => J.cons l fun x2 l => J.cons l fun x3 l => J.cons l fun v l => J.int .i64 v fun x4 => J.cons l fun x5 l => J.cons l fun v l => J.int .i64 v fun x6 => J.cons l fun v l => J.bool v fun x7 => J.cons l fun v l => J.int .i64 v fun x8 => J.cons l fun v l => J.bool v fun x9 => J.nil l (s65c6 Ψ (fun y0 y1 y2 y3 y4 h => L1 [y0, y1, y2, y3, (.int .i64 y4)] h) (fun y0 y1 y2 y3 y4 y5 y6 h => L2 [y0, y1, y2, y3, (.int .i64 y4), y5, (.int .i64 y6)] h) (fun y0 y1 y2 y3 y4 y5 y6 y7 y8 h => L5 [y0, y1, y2, y3, (.int .i64 y4), y5, (.int .i64 y6), (.bool y7), (.int .i64 y8)] h) x0 x1 x2 x3 x4 x5 x6 x7 x8 x9 h)) (.reg [⟨none, [(0, false), (1, false), (2, false), (3, false), (4, false)]⟩, ⟨some (49, true), [(5, false)]⟩, ⟨none, [(6, false)]⟩])
  (.cond (.leaf)
  (.leaf)))
  (.cut [(1, .any), (2, .any), (4, .any), (6, .any), (7, .int .i64), (8, .any), (9, .int .i64), (10, .bool), (11, .int .i64)] (fun l h => J.cons l fun x0 l => J.cons l fun x1 l => J.cons l fun x2 l => J.cons l fun x3 l => J.cons l fun v l => J.int .i64 v fun x4 => J.cons l fun x5 l => J.cons l fun v l => J.int .i64 v fun x6 => J.cons l fun v l => J.bool v fun x7 => J.cons l fun v l => J.int .i64 v fun x8 => J.nil l (s65c7 Ψ (fun y0 y1 y2 y3 y4 h => L1 [y0, y1, y2, y3, (.int .i64 y4)] h) (fun y0 y1 y2 y3 y4 y5 y6 h => L2 [y0, y1, y2, y3, (.int .i64 y4), y5, (.int .i64 y6)] h) (fun y0 y1 y2 y3 y4 y5 y6 y7 y8 h => L5 [y0, y1, y2, y3, (.int .i64 y4), y5, (.int .i64 y6), (.bool y7), (.int .i64 y8)] h) x0 x1 x2 x3 x4 x5 x6 x7 x8 h)) (.block (.reg [⟨none, [(0, false), (1, false), (2, false), (3, false)]⟩, ⟨some (57, false), [(4, false), (5, false), (6, false)]⟩, ⟨none, [(7, false), (8, false)]⟩, ⟨some (62, false), [(9, false), (10, false), (11, false), (12, false), (13, false), (14, false), (15, false), (16, false)]⟩, ⟨none, [(17, false), (18, false)]⟩, ⟨some (72, false), [(19, false), (20, false), (21, false), (22, false), (23, false), (24, false), (25, false), (26, false)]⟩, ⟨none, [(27, false), (28, false)]⟩]))
  (.reg [⟨none, [(0, false), (1, false), (2, false)]⟩]))))))
  (.seq (.reg [⟨none, [(0, false)]⟩])
  (.cond (.reg [⟨none, [(0, false), (1, false), (2, true), (3, false), (4, false)]⟩])
  (.leaf))))))
  (.reg [⟨none, [(0, false), (1, false), (2, false)]⟩]))))))
  (.seq (.reg [⟨none, [(0, false), (1, false), (2, false), (3, true), (4, false), (5, false), (6, false)]⟩])
  (.draw [(0, false), (1, false), (3, false), (4, false), (5, false), (6, false), (7, false), (2, false), (8, false), (9, true), (10, false), (11, false), (12, false)] [0, 1, 0, 0, 8, 0, 56, 120, 252, 508, 1023, 2047, 4095])))))
  (.reg [⟨none, [(0, false), (1, false), (2, false)]⟩]))))))
  (.seq (.reg [⟨none, [(0, false), (1, false), (2, false)]⟩])
  (.leaf))))))

theorem s65_ok {Ψ : AVal → Heap → Prop} {m_Up : AVal} {m_Val : AVal} {h : Heap} (H : s65 Ψ m_Up m_Val h) : ACalls prog 65 [(.agg [m_Up, m_Val])] h Ψ :=
  calls_of_evF func65 (by kernel_rfl) (by kernel_rfl) (by kernel_rfl)
    (Eq.mpr (by as_aux_lemma => kernel_rfl : oblF prog f65 (s65_A Ψ) Ψ = (True ∧ True ∧ (True ∧ (True ∧ True) ∧ True) ∧ True ∧ (True ∧ (∀ (h : Heap) (x0 x1 x2 x3 : AVal) (x4 : Int), ON (s65l1 Ψ 0 x0 x1 x2 x3 x4 h)) ∧ ∀ n1 : Nat, (∀ (h : Heap) (x0 x1 x2 x3 : AVal) (x4 : Int), OI (s65l1 Ψ (n1 + 1) x0 x1 x2 x3 x4 h)) ∧ ((True ∧ True ∧ True) ∧ (True ∧ (True ∧ (∀ (h : Heap) (x0 x1 x2 x3 : AVal) (x4 : Int) (x5 : AVal) (x6 : Int), ON (s65l2 Ψ (s65l1_G (s65l1 Ψ n1)) 0 x0 x1 x2 x3 x4 x5 x6 h)) ∧ ∀ n2 : Nat, (∀ (h : Heap) (x0 x1 x2 x3 : AVal) (x4 : Int) (x5 : AVal) (x6 : Int), OI (s65l2 Ψ (s65l1_G (s65l1 Ψ n1)) (n2 + 1) x0 x1 x2 x3 x4 x5 x6 h)) ∧ ((True ∧ True ∧ True) ∧ ((True) ∧ (∀ (h : Heap) (x0 x1 x2 x3 : AVal) (x4 : Int) (x5 : AVal) (x6 : Int) (x7 : Bool), OI (s65c4 Ψ (s65l1_G (s65l1 Ψ n1)) (s65l2_G (s65l2 Ψ (s65l1_G (s65l1 Ψ n1)) n2)) x0 x1 x2 x3 x4 x5 x6 x7 h)) ∧ ((True ∧ (∀ (h : Heap) (x0 x1 x2 x3 : AVal) (x4 : Int) (x5 : AVal) (x6 : Int) (x7 : Bool) (x8 : Int), ON (s65l5 Ψ (s65l1_G (s65l1 Ψ n1)) (s65l2_G (s65l2 Ψ (s65l1_G (s65l1 Ψ n1)) n2)) 0 x0 x1 x2 x3 x4 x5 x6 x7 x8 h)) ∧ ∀ n5 : Nat, (∀ (h : Heap) (x0 x1 x2 x3 : AVal) (x4 : Int) (x5 : AVal) (x6 : Int) (x7 : Bool) (x8 : Int), OI (s65l5 Ψ (s65l1_G (s65l1 Ψ n1)) (s65l2_G (s65l2 Ψ (s65l1_G (s65l1 Ψ n1)) n2)) (n5 + 1) x0 x1 x2 x3 x4 x5 x6 x7 x8 h)) ∧ (((True) ∧ (∀ (h : Heap) (x0 x1 x2 x3 : AVal) (x4 : Int) (x5 : AVal) (x6 : Int) (x7 : Bool) (x8 : Int) (x9 : Bool), OI (s65c6 Ψ (s65l1_G (s65l1 Ψ n1)) (s65l2_G (s65l2 Ψ (s65l1_G (s65l1 Ψ n1)) n2)) (s65l5_G (s65l5 Ψ (s65l1_G (s65l1 Ψ n1)) (s65l2_G (s65l2 Ψ (s65l1_G (s65l1 Ψ n1)) n2)) n5)) x0 x1 x2 x3 x4 x5 x6 x7 x8 x9 h)) ∧ (True ∧ True)) ∧ (True) ∧ (∀ (h : Heap) (x0 x1 x2 x3 : AVal) (x4 : Int) (x5 : AVal) (x6 : Int) (x7 : Bool) (x8 : Int), OI (s65c7 Ψ (s65l1_G (s65l1 Ψ n1)) (s65l2_G (s65l2 Ψ (s65l1_G (s65l1 Ψ n1)) n2)) (s65l5_G (s65l5 Ψ (s65l1_G (s65l1 Ψ n1)) (s65l2_G (s65l2 Ψ (s65l1_G (s65l1 Ψ n1)) n2)) n5)) x0 x1 x2 x3 x4 x5 x6 x7 x8 h)) ∧ (True))) ∧ True ∧ True ∧ True)) ∧ (∀ (h : Heap) (x0 x1 x2 x3 : AVal) (x4 : Int) (x5 : AVal) (x6 : Int), OI (s65c3 Ψ (s65l1_G (s65l1 Ψ n1)) (s65l2_G (s65l2 Ψ (s65l1_G (s65l1 Ψ n1)) n2)) x0 x1 x2 x3 x4 x5 x6 h)) ∧ (True))) ∧ True ∧ True) ∧ True)) ∧ True ∧ True)) ⟨trivial, ⟨trivial, ⟨⟨trivial, ⟨⟨trivial, trivial⟩, trivial⟩⟩, ⟨trivial, ⟨⟨trivial, ⟨fun _ _ _ _ _ _ H => H, fun _ => ⟨fun _ _ _ _ _ _ H => H, ⟨⟨trivial, ⟨trivial, trivial⟩⟩, ⟨⟨trivial, ⟨⟨trivial, ⟨fun _ _ _ _ _ _ _ _ H => H, fun _ => ⟨fun _ _ _ _ _ _ _ _ H => H, ⟨⟨trivial, ⟨trivial, trivial⟩⟩, ⟨⟨trivial, fun _ _ _ _ _ _ _ _ _ H => H, ⟨⟨trivial, ⟨fun _ _ _ _ _ _ _ _ _ _ H => H, fun _ => ⟨fun _ _ _ _ _ _ _ _ _ _ H => H, ⟨⟨trivial, fun _ _ _ _ _ _ _ _ _ _ _ H => H, ⟨trivial, trivial⟩⟩, ⟨trivial, fun _ _ _ _ _ _ _ _ _ _ H => H, trivial⟩⟩⟩⟩⟩, ⟨trivial, ⟨trivial, trivial⟩⟩⟩⟩, fun _ _ _ _ _ _ _ _ H => H, trivial⟩⟩⟩⟩⟩, ⟨trivial, trivial⟩⟩⟩, trivial⟩⟩⟩⟩⟩, ⟨trivial, trivial⟩⟩⟩⟩⟩⟩)
    (Eq.mpr (by as_aux_lemma => kernel_rfl : evF prog f65 (s65_A Ψ) Ψ [(.agg [m_Up, m_Val])] h = s65 Ψ m_Up m_Val h) H)

/- 68 dictum/worlds.all -/
def s68l1_R (F : AVal → AVal → Int → Int → Heap → Prop) (l : List AVal) (h : Heap) : Prop := J.cons l fun x0 l => J.cons l fun x1 l => J.cons l fun v l => J.int .i64 v fun x2 => J.cons l fun v l => J.int .i64 v fun x3 => J.nil l (F x0 x1 x2 x3 h)
def s68l1_G (F : AVal → AVal → Int → Int → Heap → Prop) (x0 : AVal) (x1 : AVal) (x2 : Int) (x3 : Int) (h : Heap) : Prop := gJ [.any, .any, .int .i64, .int .i64] [x0, x1, (.int .i64 x2), (.int .i64 x3)] h (s68l1_R F)
def s68l1_E (F : Nat → AVal → AVal → Int → Int → Heap → Prop) (x0 : AVal) (x1 : AVal) (x2 : Int) (x3 : Int) (h : Heap) : Prop := gJ [.any, .any, .int .i64, .int .i64] [x0, x1, (.int .i64 x2), (.int .i64 x3)] h (fun l h => ∃ n, s68l1_R (F n) l h)
theorem s68l1_go {F : AVal → AVal → Int → Int → Heap → Prop} {x0 : AVal} {x1 : AVal} {x2 : Int} {x3 : Int} {h : Heap} (H : F x0 x1 x2 x3 h) : s68l1_G F x0 x1 x2 x3 h := gJ_plain rfl H
theorem s68l1_in {F : Nat → AVal → AVal → Int → Int → Heap → Prop} {x0 : AVal} {x1 : AVal} {x2 : Int} {x3 : Int} {h : Heap} (n : Nat) (H : F n x0 x1 x2 x3 h) : s68l1_E F x0 x1 x2 x3 h := gJ_plain rfl ⟨n, H⟩

def s68c2 (Ψ : AVal → Heap → Prop) (L1 : AVal → AVal → Int → Int → Heap → Prop) (is2 : AVal) (l_1 : AVal) (t9_1 : Int) (t10_1 : Int) (h : Heap) : Prop :=
  rg (t10_1 + 1) (
    L1 is2 l_1 t9_1 (t10_1 + 1) h)

def s68l1 (Ψ : AVal → Heap → Prop) : Nat → AVal → AVal → Int → Int → Heap → Prop
  | 0, _, _, _, _, _ => False
  | n1 + 1, is1, l_, t9, t10, h =>
    ifT (decide (t10 < t9)) (
      callV prog is1 [(.int .i64 t10)] h fun v h_ =>
      tBool v fun v1 =>
      ifT v1 (
        appC 1 8 h_ l_ (.lsl 1 [(.int .i64 t10)]) fun v2 h_1 =>
        s68c2 Ψ (s68l1_G (s68l1 Ψ n1)) is1 v2 t9 t10 h_1) (
        s68c2 Ψ (s68l1_G (s68l1 Ψ n1)) is1 l_ t9 t10 h_)) (
      retG l_ h Ψ)

def s68 (Ψ : AVal → Heap → Prop) (m_Up : AVal) (m_Val : AVal) (is : AVal) (h : Heap) : Prop :=
  lenN m_Up fun n =>
  s68l1_E (s68l1 Ψ) is .nilsl n 0 h

def s68_A (Ψ : AVal → Heap → Prop) : Ann :=
  .seq (.reg [⟨none, [(0, true), (1, false)]⟩])
  (.seq (.reg [⟨none, [(0, false)]⟩])
  (.seq (.seq (.reg [⟨none, [(0, false), (1, false), (2, false), (3, false)]⟩])
  (.block (.loop [(1, .any), (5, .any), (9, .int .i64), (10, .int .i64)] (fun n l h => s68l1_R (s68l1 Ψ n) l h) (fun L1 =>
  .seq (.reg [⟨none, [(0, false)]⟩])
  (.seq (.cond (.leaf)
  (.leaf))
  (.cut [(1, .any), (5, .any), (9, .int .i64), (10, .int .i64)] (fun l h => J.cons l fun x0 l => J.cons l fun x1 l => J.cons l fun v l => J.int .i64 v fun x2 => J.cons l fun v l => J.int .i64 v fun x3 => J.nil l (s68c2 Ψ (fun y0 y1 y2 y3 h => L1 [y0, y1, (.int .i64 y2), (.int .i64 y3)] h) x0 x1 x2 x3 h)) (.block (.seq (.reg [⟨none, [(0, false), (1, false)]⟩])
  (.seq (.reg [⟨none, [(0, false), (1, false), (2, false)]⟩])
  (.cond (.reg [⟨none, [(0, false), (1, false), (2, true), (3, false), (4, false)]⟩])
  (.leaf)))))
  (.reg [⟨none, [(0, false), (1, false)]⟩])))))))
  (.seq (.reg [⟨none, [(0, false), (1, false)]⟩])
  (.leaf))))

theorem s68_ok {Ψ : AVal → Heap → Prop} {m_Up : AVal} {m_Val : AVal} {is : AVal} {h : Heap} (H : s68 Ψ m_Up m_Val is h) : ACalls prog 68 [(.agg [m_Up, m_Val]), is] h Ψ :=
  calls_of_evF func68 (by kernel_rfl) (by kernel_rfl) (by kernel_rfl)
    (Eq.mpr (by as_aux_lemma => kernel_rfl : oblF prog f68 (s68_A Ψ) Ψ = (True ∧ True ∧ (True ∧ (∀ (h : Heap) (x0 x1 : AVal) (x2 x3 : Int), ON (s68l1 Ψ 0 x0 x1 x2 x3 h)) ∧ ∀ n1 : Nat, (∀ (h : Heap) (x0 x1 : AVal) (x2 x3 : Int), OI (s68l1 Ψ (n1 + 1) x0 x1 x2 x3 h)) ∧ (True ∧ (True ∧ True) ∧ (True ∧ True ∧ True ∧ True) ∧ (∀ (h : Heap) (x0 x1 : AVal) (x2 x3 : Int), OI (s68c2 Ψ (s68l1_G (s68l1 Ψ n1)) x0 x1 x2 x3 h)) ∧ (True))) ∧ True ∧ True)) ⟨trivial, ⟨trivial, ⟨⟨trivial, ⟨fun _ _ _ _ _ H => H, fun _ => ⟨fun _ _ _ _ _ H => H, ⟨trivial, ⟨⟨trivial, trivial⟩, ⟨⟨trivial, ⟨trivial, ⟨trivial, trivial⟩⟩⟩, fun _ _ _ _ _ H => H, trivial⟩⟩⟩⟩⟩⟩, ⟨trivial, trivial⟩⟩⟩⟩)
    (Eq.mpr (by as_aux_lemma => kernel_rfl : evF prog f68 (s68_A Ψ) Ψ [(.agg [m_Up, m_Val]), is] h = s68 Ψ m_Up m_Val is h) H)

/- 70 dictum/worlds.Tidy$2 -/
def s70 (Ψ : AVal → Heap → Prop) (b : Int) (c0 : AVal) (c1 : AVal) (h : Heap) : Prop :=
  ld1 h c0 fun v =>
  callG prog 51 [v, (.func (.func 71) [] [(.lptr [(.int .i64 b)]), c1])] h fun v1 h_ =>
  tBool v1 fun v2 =>
  retG (.bool (!v2)) h_ Ψ

def s70_A (Ψ : AVal → Heap → Prop) : Ann :=
  .seq (.reg [⟨none, [(0, true), (1, false)]⟩])
  (.seq (.reg [⟨none, [(0, false), (1, false), (2, false), (3, false), (4, false)]⟩])
  (.leaf))

theorem s70_ok {Ψ : AVal → Heap → Prop} {b : Int} {c0 : AVal} {c1 : AVal} {h : Heap} (H : s70 Ψ b c0 c1 h) : ACalls prog 70 [(.int .i64 b), c0, c1] h Ψ :=
  calls_of_evF func70 (by kernel_rfl) (by kernel_rfl) (by kernel_rfl)
    (Eq.mpr (by as_aux_lemma => kernel_rfl : oblF prog f70 (s70_A Ψ) Ψ = (True ∧ True ∧ True)) ⟨trivial, ⟨trivial, trivial⟩⟩)
    (Eq.mpr (by as_aux_lemma => kernel_rfl : evF prog f70 (s70_A Ψ) Ψ [(.int .i64 b), c0, c1] h = s70 Ψ b c0 c1 h) H)

/- 72 dictum/formula.reserved -/
def s72c1 (Ψ : AVal → Heap → Prop) (t4 : Bool) (h : Heap) : Prop :=
  ifT t4 (
    retG (.bool true) h Ψ) (
    retG (.bool false) h Ψ)

def s72 (Ψ : AVal → Heap → Prop) (s : ByteArray) (h : Heap) : Prop :=
  ifT (strEq s (ByteArray.mk #[97, 98, 111, 114, 116])) (
    s72c1 Ψ (strEq s (ByteArray.mk #[97, 98, 111, 114, 116])) h) (
    ifT (strEq s (ByteArray.mk #[99, 97, 115, 101])) (
      s72c1 Ψ (strEq s (ByteArray.mk #[99, 97, 115, 101])) h) (
      ifT (strEq s (ByteArray.mk #[102, 97, 108, 115, 101])) (
        s72c1 Ψ (strEq s (ByteArray.mk #[102, 97, 108, 115, 101])) h) (
        ifT (strEq s (ByteArray.mk #[102, 115, 116])) (
          s72c1 Ψ (strEq s (ByteArray.mk #[102, 115, 116])) h) (
          ifT (strEq s (ByteArray.mk #[102, 117, 110])) (
            s72c1 Ψ (strEq s (ByteArray.mk #[102, 117, 110])) h) (
            ifT (strEq s (ByteArray.mk #[105, 110])) (
              s72c1 Ψ (strEq s (ByteArray.mk #[105, 110])) h) (
              ifT (strEq s (ByteArray.mk #[105, 110, 108])) (
                s72c1 Ψ (strEq s (ByteArray.mk #[105, 110, 108])) h) (
                ifT (strEq s (ByteArray.mk #[105, 110, 114])) (
                  s72c1 Ψ (strEq s (ByteArray.mk #[105, 110, 114])) h) (
                  ifT (strEq s (ByteArray.mk #[108, 101, 116])) (
                    s72c1 Ψ (strEq s (ByteArray.mk #[108, 101, 116])) h) (
                    ifT (strEq s (ByteArray.mk #[111, 102])) (
                      s72c1 Ψ (strEq s (ByteArray.mk #[111, 102])) h) (
                      ifT (strEq s (ByteArray.mk #[115, 110, 100])) (
                        s72c1 Ψ (strEq s (ByteArray.mk #[115, 110, 100])) h) (
                        s72c1 Ψ (strEq s (ByteArray.mk #[116, 114, 117, 101])) h)))))))))))

def s72_A (Ψ : AVal → Heap → Prop) : Ann :=
  .seq (.reg [⟨none, [(0, false)]⟩])
  (.seq (.seq (.reg [⟨none, [(0, false)]⟩])
  (.block (.cut [(4, .bool)] (fun l h => J.cons l fun v l => J.bool v fun x0 => J.nil l (s72c1 Ψ x0 h)) (.seq (.reg [⟨none, [(0, false), (1, false)]⟩])
  (.cond (.leaf)
  (.seq (.reg [⟨none, [(0, false), (1, false)]⟩])
  (.cond (.leaf)
  (.seq (.reg [⟨none, [(0, false), (1, false)]⟩])
  (.cond (.leaf)
  (.seq (.reg [⟨none, [(0, false), (1, false)]⟩])
  (.cond (.leaf)
  (.seq (.reg [⟨none, [(0, false), (1, false)]⟩])
  (.cond (.leaf)
  (.seq (.reg [⟨none, [(0, false), (1, false)]⟩])
  (.cond (.leaf)
  (.seq (.reg [⟨none, [(0, false), (1, false)]⟩])
  (.cond (.leaf)
  (.seq (.reg [⟨none, [(0, false), (1, false)]⟩])
  (.cond (.leaf)
  (.seq (.reg [⟨none, [(0, false), (1, false)]⟩])
  (.cond (.leaf)
  (.seq (.reg [⟨none, [(0, false), (1, false)]⟩])
  (.cond (.leaf)
  (.seq (.reg [⟨none, [(0, false), (1, false)]⟩])
  (.cond (.leaf)
  (.reg [⟨none, [(0, false), (1, false)]⟩])))))))))))))))))))))))
  (.cond (.seq (.reg [⟨none, [(0, false)]⟩])
  (.leaf))
  (.leaf)))))
  (.seq (.reg [⟨none, [(0, false)]⟩])
  (.leaf)))

theorem s72_ok {Ψ : AVal → Heap → Prop} {s : ByteArray} {h : Heap} (H : s72 Ψ s h) : ACalls prog 72 [(.str s)] h Ψ :=
  calls_of_evF func72 (by kernel_rfl) (by kernel_rfl) (by kernel_rfl)
    (Eq.mpr (by as_aux_lemma => kernel_rfl : oblF prog f72 (s72_A Ψ) Ψ = (True ∧ (True ∧ (True ∧ True ∧ True ∧ True ∧ True ∧ True ∧ True ∧ True ∧ True ∧ True ∧ True ∧ True ∧ True ∧ True ∧ True ∧ True ∧ True ∧ True ∧ True ∧ True ∧ True ∧ True ∧ True) ∧ (∀ (h : Heap) (x0 : Bool), OI (s72c1 Ψ x0 h)) ∧ ((True ∧ True) ∧ True)) ∧ True ∧ True)) ⟨trivial, ⟨⟨trivial, ⟨⟨trivial, ⟨trivial, ⟨trivial, ⟨trivial, ⟨trivial, ⟨trivial, ⟨trivial, ⟨trivial, ⟨trivial, ⟨trivial, ⟨trivial, ⟨trivial, ⟨trivial, ⟨trivial, ⟨trivial, ⟨trivial, ⟨trivial, ⟨trivial, ⟨trivial, ⟨trivial, ⟨trivial, ⟨trivial, trivial⟩⟩⟩⟩⟩⟩⟩⟩⟩⟩⟩⟩⟩⟩⟩⟩⟩⟩⟩⟩⟩⟩, fun _ _ H => H, ⟨⟨trivial, trivial⟩, trivial⟩⟩⟩, ⟨trivial, trivial⟩⟩⟩)
    (Eq.mpr (by as_aux_lemma => kernel_rfl : evF prog f72 (s72_A Ψ) Ψ [(.str s)] h = s72 Ψ s h) H)

/- 74 slices.IndexFunc[[]string,string] -/
def s74l1_R (F : AVal → AVal → Int → Int → Heap → Prop) (l : List AVal) (h : Heap) : Prop := J.cons l fun x0 l => J.cons l fun x1 l => J.cons l fun v l => J.int .i64 v fun x2 => J.cons l fun v l => J.int .i64 v fun x3 => J.nil l (F x0 x1 x2 x3 h)
def s74l1_G (F : AVal → AVal → Int → Int → Heap → Prop) (x0 : AVal) (x1 : AVal) (x2 : Int) (x3 : Int) (h : Heap) : Prop := gJ [.any, .any, .int .i64, .int .i64] [x0, x1, (.int .i64 x2), (.int .i64 x3)] h (s74l1_R F)
def s74l1_E (F : Nat → AVal → AVal → Int → Int → Heap → Prop) (x0 : AVal) (x1 : AVal) (x2 : Int) (x3 : Int) (h : Heap) : Prop := gJ [.any, .any, .int .i64, .int .i64] [x0, x1, (.int .i64 x2), (.int .i64 x3)] h (fun l h => ∃ n, s74l1_R (F n) l h)
theorem s74l1_go {F : AVal → AVal → Int → Int → Heap → Prop} {x0 : AVal} {x1 : AVal} {x2 : Int} {x3 : Int} {h : Heap} (H : F x0 x1 x2 x3 h) : s74l1_G F x0 x1 x2 x3 h := gJ_plain rfl H
theorem s74l1_in {F : Nat → AVal → AVal → Int → Int → Heap → Prop} {x0 : AVal} {x1 : AVal} {x2 : Int} {x3 : Int} {h : Heap} (n : Nat) (H : F n x0 x1 x2 x3 h) : s74l1_E F x0 x1 x2 x3 h := gJ_plain rfl ⟨n, H⟩

def s74l1 (Ψ : AVal → Heap → Prop) : Nat → AVal → AVal → Int → Int → Heap → Prop
  | 0, _, _, _, _, _ => False
  | n1 + 1, s1, f1, t7, t8, h =>
    ifT (decide (t8 < t7)) (
      ixS 1 s1 t8 fun p =>
      ld1 h p fun v =>
      tStr v fun v1 =>
      callV prog f1 [(.str v1)] h fun v2 h_ =>
      tBool v2 fun v3 =>
      ifT v3 (
        retG (.int .i64 t8) h_ Ψ) (
        rg (t8 + 1) (
          s74l1_G (s74l1 Ψ n1) s1 f1 t7 (t8 + 1) h_))) (
      retG (.int .i64 (-1)) h Ψ)

def s74 (Ψ : AVal → Heap → Prop) (s : AVal) (f : AVal) (h : Heap) : Prop :=
  lenN s fun n =>
  s74l1_E (s74l1 Ψ) s f n 0 h

def s74_A (Ψ : AVal → Heap → Prop) : Ann :=
  .seq (.reg [⟨none, [(0, false)]⟩])
  (.seq (.seq (.reg [⟨none, [(0, false), (1, false), (2, false)]⟩])
  (.block (.loop [(0, .any), (1, .any), (7, .int .i64), (8, .int .i64)] (fun n l h => s74l1_R (s74l1 Ψ n) l h) (fun L1 =>
  .seq (.reg [⟨none, [(0, false)]⟩])
  (.seq (.cond (.leaf)
  (.leaf))
  (.seq (.block (.seq (.reg [⟨none, [(0, false), (1, false)]⟩])
  (.seq (.reg [⟨none, [(0, false), (1, false), (2, false), (3, false), (4, false), (5, false)]⟩])
  (.cond (.seq (.reg [⟨none, [(0, false), (1, false)]⟩])
  (.leaf))
  (.leaf)))))
  (.reg [⟨none, [(0, false), (1, false)]⟩])))))))
  (.seq (.reg [⟨none, [(0, false)]⟩])
  (.leaf)))

theorem s74_ok {Ψ : AVal → Heap → Prop} {s : AVal} {f : AVal} {h : Heap} (H : s74 Ψ s f h) : ACalls prog 74 [s, f] h Ψ :=
  calls_of_evF func74 (by kernel_rfl) (by kernel_rfl) (by kernel_rfl)
    (Eq.mpr (by as_aux_lemma => kernel_rfl : oblF prog f74 (s74_A Ψ) Ψ = (True ∧ (True ∧ (∀ (h : Heap) (x0 x1 : AVal) (x2 x3 : Int), ON (s74l1 Ψ 0 x0 x1 x2 x3 h)) ∧ ∀ n1 : Nat, (∀ (h : Heap) (x0 x1 : AVal) (x2 x3 : Int), OI (s74l1 Ψ (n1 + 1) x0 x1 x2 x3 h)) ∧ (True ∧ (True ∧ True) ∧ (True ∧ True ∧ (True ∧ True) ∧ True) ∧ True)) ∧ True ∧ True)) ⟨trivial, ⟨⟨trivial, ⟨fun _ _ _ _ _ H => H, fun _ => ⟨fun _ _ _ _ _ H => H, ⟨trivial, ⟨⟨trivial, trivial⟩, ⟨⟨trivial, ⟨trivial, ⟨⟨trivial, trivial⟩, trivial⟩⟩⟩, trivial⟩⟩⟩⟩⟩⟩, ⟨trivial, trivial⟩⟩⟩)
    (Eq.mpr (by as_aux_lemma => kernel_rfl : evF prog f74 (s74_A Ψ) Ψ [s, f] h = s74 Ψ s f h) H)

/- 76 dictum/dictumref03.letter -/
def s76 (Ψ : AVal → Heap → Prop) (c : Int) (h : Heap) : Prop :=
  ifT (decide (97 ≤ c)) (
    ifT (decide (c ≤ 122)) (
      retG (.bool true) h Ψ) (
      ifT (decide (65 ≤ c)) (
        retG (.bool (decide (c ≤ 90))) h Ψ) (
        retG (.bool false) h Ψ))) (
    ifT (decide (65 ≤ c)) (
      retG (.bool (decide (c ≤ 90))) h Ψ) (
      retG (.bool false) h Ψ))

def s76_A (Ψ : AVal → Heap → Prop) : Ann :=
  .seq (.reg [⟨none, [(0, false)]⟩])
  (.seq (.reg [⟨none, [(0, false), (1, false), (2, false)]⟩, ⟨some (5, true), [(3, false), (4, false)]⟩, ⟨none, [(5, false), (6, false)]⟩, ⟨some (9, false), [(7, false), (8, false), (9, false)]⟩, ⟨some (12, true), [(10, false), (11, false)]⟩, ⟨some (9, false), [(12, false)]⟩, ⟨none, [(13, false), (14, false)]⟩])
  (.leaf))

theorem s76_ok {Ψ : AVal → Heap → Prop} {c : Int} {h : Heap} (H : s76 Ψ c h) : ACalls prog 76 [(.int .u8 c)] h Ψ :=
  calls_of_evF func76 (by kernel_rfl) (by kernel_rfl) (by kernel_rfl)
    (Eq.mpr (by as_aux_lemma => kernel_rfl : oblF prog f76 (s76_A Ψ) Ψ = (True ∧ True ∧ True)) ⟨trivial, ⟨trivial, trivial⟩⟩)
    (Eq.mpr (by as_aux_lemma => kernel_rfl : evF prog f76 (s76_A Ψ) Ψ [(.int .u8 c)] h = s76 Ψ c h) H)

/- 78 (*dictum/dictumref03.T).Put -/
def s78c1 (Ψ : AVal → Heap → Prop) (t1 : AVal) (n : AVal) (h : Heap) : Prop :=
  ldN 4 h n fun l_ =>
  tCons l_ fun v l_1 =>
  tInt .i64 v fun v1 =>
  tCons l_1 fun v2 l_2 =>
  tStr v2 fun v3 =>
  tCons l_2 fun v4 l_3 =>
  tInt .i64 v4 fun v5 =>
  tCons l_3 fun v6 l_4 =>
  tInt .i64 v6 fun v7 =>
  tNil l_4 (
    callG prog 85 [t1, (.agg [(.int .i64 v1), (.str v3), (.int .i64 v5), (.int .i64 v7)])] h fun v8 h_ =>
    tTup v8 fun l_5 =>
    tCons l_5 fun v9 l_6 =>
    tInt .i64 v9 fun v10 =>
    tCons l_6 fun v11 l_7 =>
    tBool v11 fun v12 =>
    tNil l_7 (
      ifT v12 (
        retG (.tuple [(.int .i64 v10), (.int .i64 0)]) h_ Ψ) (
        nilCheckA t1 fun p =>
        addOff p 0 fun p1 =>
        ld1 h_ p1 fun v13 =>
        lenN v13 fun n1 =>
        ifT (decide (1024 ≤ n1)) (
          retG (.tuple [(.int .i64 0), (.int .i64 30)]) h_ Ψ) (
          nilCheckA t1 fun p2 =>
          addOff p2 0 fun p3 =>
          ld1 h_ p3 fun v14 =>
          ldN 4 h_ n fun l_8 =>
          tCons l_8 fun v15 l_9 =>
          tInt .i64 v15 fun v16 =>
          tCons l_9 fun v17 l_10 =>
          tStr v17 fun v18 =>
          tCons l_10 fun v19 l_11 =>
          tInt .i64 v19 fun v20 =>
          tCons l_11 fun v21 l_12 =>
          tInt .i64 v21 fun v22 =>
          tNil l_12 (
            (ld1 h_ p3 fun v23 =>
            v23 = v14) ∧
            appC 4 40 h_ v14 (.lsl 4 [(.agg [(.int .i64 v16), (.str v18), (.int .i64 v20), (.int .i64 v22)])]) fun v24 h_1 =>
            nilCheckA t1 fun p4 =>
            addOff p4 0 fun p5 =>
            chk (sc v24) (
              st true h_1 p5 [v24] fun h_2 =>
              nilCheckA t1 fun p6 =>
              addOff p6 0 fun p7 =>
              ld1 h_2 p7 fun v25 =>
              lenN v25 fun n2 =>
              rg (n2 - 1) (
                retG (.tuple [(.int .i64 (n2 - 1)), (.int .i64 0)]) h_2 Ψ)))))))

def s78c2 (Ψ : AVal → Heap → Prop) (t2 : AVal) (n3 : AVal) (t19 : Bool) (h : Heap) : Prop :=
  ifT t19 (
    retG (.tuple [(.int .i64 0), (.int .i64 31)]) h Ψ) (
    addOff n3 1 fun p8 =>
    ld1 h p8 fun v26 =>
    tStr v26 fun v27 =>
    callG prog 48 [(.str v27)] h fun v28 h_3 =>
    tBool v28 fun v29 =>
    ifT (!v29) (
      retG (.tuple [(.int .i64 0), (.int .i64 32)]) h_3 Ψ) (
      s78c1 Ψ t2 n3 h_3))

def s78c3 (Ψ : AVal → Heap → Prop) (t3 : AVal) (n4 : AVal) (t38 : Bool) (h : Heap) : Prop :=
  ifT t38 (
    retG (.tuple [(.int .i64 0), (.int .i64 31)]) h Ψ) (
    s78c1 Ψ t3 n4 h)

def s78c5 (Ψ : AVal → Heap → Prop) (t5 : AVal) (n6 : AVal) (t59 : Bool) (h : Heap) : Prop :=
  ifT t59 (
    retG (.tuple [(.int .i64 0), (.int .i64 31)]) h Ψ) (
    s78c1 Ψ t5 n6 h)

def s78c4 (Ψ : AVal → Heap → Prop) (t4 : AVal) (n5 : AVal) (t39 : Bool) (h : Heap) : Prop :=
  ifT t39 (
    addOff n5 1 fun p9 =>
    ld1 h p9 fun v30 =>
    tStr v30 fun v31 =>
    ifT (!strEq v31 (ByteArray.mk #[])) (
      s78c5 Ψ t4 n5 true h) (
      addOff n5 2 fun p10 =>
      ld1 h p10 fun v32 =>
      tInt .i64 v32 fun v33 =>
      callG prog 84 [t4, (.int .i64 v33)] h fun v34 h_4 =>
      tBool v34 fun v35 =>
      ifT (!v35) (
        s78c5 Ψ t4 n5 true h_4) (
        addOff n5 3 fun p11 =>
        ld1 h_4 p11 fun v36 =>
        tInt .i64 v36 fun v37 =>
        callG prog 84 [t4, (.int .i64 v37)] h_4 fun v38 h_5 =>
        tBool v38 fun v39 =>
        s78c5 Ψ t4 n5 (!v39) h_5))) (
    retG (.tuple [(.int .i64 0), (.int .i64 31)]) h Ψ)

def s78 (Ψ : AVal → Heap → Prop) (t : AVal) (n_Kind : Int) (n_Name : ByteArray) (n_L : Int) (n_R : Int) (h : Heap) : Prop :=
  ifT (n_Kind == 1) (
    ifT (n_L != 0) (
      s78c2 Ψ t (.lptr [(.int .i64 n_Kind), (.str n_Name), (.int .i64 n_L), (.int .i64 n_R)]) true h) (
      s78c2 Ψ t (.lptr [(.int .i64 n_Kind), (.str n_Name), (.int .i64 n_L), (.int .i64 n_R)]) (n_R != 0) h)) (
    ifT (n_Kind == 2) (
      ifT (!strEq n_Name (ByteArray.mk #[])) (
        s78c3 Ψ t (.lptr [(.int .i64 n_Kind), (.str n_Name), (.int .i64 n_L), (.int .i64 n_R)]) true h) (
        ifT (n_L != 0) (
          s78c3 Ψ t (.lptr [(.int .i64 n_Kind), (.str n_Name), (.int .i64 n_L), (.int .i64 n_R)]) true h) (
          s78c3 Ψ t (.lptr [(.int .i64 n_Kind), (.str n_Name), (.int .i64 n_L), (.int .i64 n_R)]) (n_R != 0) h))) (
      ifT (n_Kind == 3) (
        s78c4 Ψ t (.lptr [(.int .i64 n_Kind), (.str n_Name), (.int .i64 n_L), (.int .i64 n_R)]) (n_Kind == 3) h) (
        ifT (n_Kind == 4) (
          s78c4 Ψ t (.lptr [(.int .i64 n_Kind), (.str n_Name), (.int .i64 n_L), (.int .i64 n_R)]) (n_Kind == 4) h) (
          s78c4 Ψ t (.lptr [(.int .i64 n_Kind), (.str n_Name), (.int .i64 n_L), (.int .i64 n_R)]) (n_Kind == 5) h))))

def s78_A (Ψ : AVal → Heap → Prop) : Ann :=
  .seq (.reg [⟨none, [(0, true), (1, false), (2, false)]⟩])
  (.cut [(0, .any), (3, .any)] (fun l h => J.cons l fun x0 l => J.cons l fun x1 l => J.nil l (s78c1 Ψ x0 x1 h)) (.seq (.reg [⟨none, [(0, false), (1, false)]⟩])
  (.block (.seq (.reg [⟨none, [(0, false), (1, false)]⟩])
  (.cond (.seq (.cut [(0, .any), (3, .any), (19, .bool)] (fun l h => J.cons l fun x0 l => J.cons l fun x1 l => J.cons l fun v l => J.bool v fun x2 => J.nil l (s78c2 Ψ x0 x1 x2 h)) (.reg [⟨none, [(0, false), (1, false), (2, false), (3, false)]⟩, ⟨some (15, false), [(4, false), (5, false), (6, false)]⟩, ⟨none, [(7, false)]⟩])
  (.cond (.seq (.reg [⟨none, [(0, false), (1, false)]⟩])
  (.leaf))
  (.leaf)))
  (.seq (.reg [⟨none, [(0, false), (1, false), (2, false), (3, false)]⟩])
  (.cond (.seq (.reg [⟨none, [(0, false), (1, false)]⟩])
  (.leaf))
  (.leaf))))
  (.seq (.reg [⟨none, [(0, false), (1, false)]⟩])
  (.cond (.cut [(0, .any), (3, .any), (38, .bool)] (fun l h => J.cons l fun x0 l => J.cons l fun x1 l => J.cons l fun v l => J.bool v fun x2 => J.nil l (s78c3 Ψ x0 x1 x2 h)) (.reg [⟨none, [(0, false), (1, false), (2, false), (3, false)]⟩, ⟨some (29, false), [(4, false), (5, false), (6, false)]⟩, ⟨none, [(7, false), (8, false)]⟩, ⟨some (34, false), [(9, false), (10, false), (11, false)]⟩, ⟨none, [(12, false)]⟩])
  (.cond (.seq (.reg [⟨none, [(0, false), (1, false)]⟩])
  (.leaf))
  (.leaf)))
  (.cut [(0, .any), (3, .any), (39, .bool)] (fun l h => J.cons l fun x0 l => J.cons l fun x1 l => J.cons l fun v l => J.bool v fun x2 => J.nil l (s78c4 Ψ x0 x1 x2 h)) (.seq (.reg [⟨none, [(0, false), (1, false)]⟩])
  (.cond (.leaf)
  (.seq (.reg [⟨none, [(0, false), (1, false)]⟩])
  (.cond (.leaf)
  (.reg [⟨none, [(0, false), (1, false)]⟩])))))
  (.cond (.cut [(0, .any), (3, .any), (59, .bool)] (fun l h => J.cons l fun x0 l => J.cons l fun x1 l => J.cons l fun v l => J.bool v fun x2 => J.nil l (s78c5 Ψ x0 x1 x2 h)) (.reg [⟨none, [(0, false), (1, false), (2, false), (3, false)]⟩, ⟨some (46, false), [(4, false), (5, false), (6, false), (7, false), (8, false)]⟩, ⟨none, [(9, false), (10, false)]⟩, ⟨some (53, false), [(11, false), (12, false), (13, false), (14, false), (15, false)]⟩, ⟨none, [(16, false)]⟩])
  (.cond (.seq (.reg [⟨none, [(0, false), (1, false)]⟩])
  (.leaf))
  (.leaf)))
  (.seq (.reg [⟨none, [(0, false), (1, false)]⟩])
  (.leaf))))))))))
  (.seq (.reg [⟨none, [(0, false), (1, false), (2, false), (3, false), (4, false), (5, false), (6, false), (7, false)]⟩])
  (.seq (.seq (.reg [⟨none, [(0, false)]⟩])
  (.cond (.seq (.reg [⟨none, [(0, false), (1, false), (2, false)]⟩])
  (.leaf))
  (.leaf)))
  (.seq (.seq (.reg [⟨none, [(0, false), (1, false), (2, false), (3, false), (4, false), (5, false)]⟩])
  (.cond (.seq (.reg [⟨none, [(0, false), (1, false)]⟩])
  (.leaf))
  (.leaf)))
  (.seq (.draw [(0, false), (1, false), (2, false), (3, false), (4, false), (5, false), (6, true), (7, false), (8, false), (9, false), (10, false)] [0, 0, 2, 6, 14, 0, 32, 126, 255, 511, 1023])
  (.seq (.reg [⟨none, [(0, false), (1, false), (2, false), (3, false), (4, false), (5, false), (6, false), (7, false)]⟩])
  (.leaf)))))))

theorem s78_ok {Ψ : AVal → Heap → Prop} {t : AVal} {n_Kind : Int} {n_Name : ByteArray} {n_L : Int} {n_R : Int} {h : Heap} (H : s78 Ψ t n_Kind n_Name n_L n_R h) : ACalls prog 78 [t, (.agg [(.int .i64 n_Kind), (.str n_Name), (.int .i64 n_L), (.int .i64 n_R)])] h Ψ :=
  calls_of_evF func78 (by kernel_rfl) (by kernel_rfl) (by kernel_rfl)
    (Eq.mpr (by as_aux_lemma => kernel_rfl : oblF prog f78 (s78_A Ψ) Ψ = (True ∧ (True ∧ True ∧ (((True) ∧ (∀ (h : Heap) (x0 x1 : AVal) (x2 : Bool), OI (s78c2 Ψ x0 x1 x2 h)) ∧ ((True ∧ True) ∧ True)) ∧ True ∧ (True ∧ True) ∧ True) ∧ True ∧ ((True) ∧ (∀ (h : Heap) (x0 x1 : AVal) (x2 : Bool), OI (s78c3 Ψ x0 x1 x2 h)) ∧ ((True ∧ True) ∧ True)) ∧ (True ∧ True ∧ True ∧ True ∧ True) ∧ (∀ (h : Heap) (x0 x1 : AVal) (x2 : Bool), OI (s78c4 Ψ x0 x1 x2 h)) ∧ (((True) ∧ (∀ (h : Heap) (x0 x1 : AVal) (x2 : Bool), OI (s78c5 Ψ x0 x1 x2 h)) ∧ ((True ∧ True) ∧ True)) ∧ True ∧ True)) ∧ (∀ (h : Heap) (x0 x1 : AVal), OI (s78c1 Ψ x0 x1 h)) ∧ (True ∧ (True ∧ (True ∧ True) ∧ True) ∧ (True ∧ (True ∧ True) ∧ True) ∧ True ∧ True ∧ True))) ⟨trivial, ⟨⟨trivial, ⟨trivial, ⟨⟨⟨trivial, fun _ _ _ _ H => H, ⟨⟨trivial, trivial⟩, trivial⟩⟩, ⟨trivial, ⟨⟨trivial, trivial⟩, trivial⟩⟩⟩, ⟨trivial, ⟨⟨trivial, fun _ _ _ _ H => H, ⟨⟨trivial, trivial⟩, trivial⟩⟩, ⟨⟨trivial, ⟨trivial, ⟨trivial, ⟨trivial, trivial⟩⟩⟩⟩, fun _ _ _ _ H => H, ⟨⟨trivial, fun _ _ _ _ H => H, ⟨⟨trivial, trivial⟩, trivial⟩⟩, ⟨trivial, trivial⟩⟩⟩⟩⟩⟩⟩⟩, fun _ _ _ H => H, ⟨trivial, ⟨⟨trivial, ⟨⟨trivial, trivial⟩, trivial⟩⟩, ⟨⟨trivial, ⟨⟨trivial, trivial⟩, trivial⟩⟩, ⟨trivial, ⟨trivial, trivial⟩⟩⟩⟩⟩⟩⟩)
    (Eq.mpr (by as_aux_lemma => kernel_rfl : evF prog f78 (s78_A Ψ) Ψ [t, (.agg [(.int .i64 n_Kind), (.str n_Name), (.int .i64 n_L), (.int .i64 n_R)])] h = s78 Ψ t n_Kind n_Name n_L n_R h) H)

/- 80 slices.Index[[]int,int] -/
def s80l1_R (F : AVal → Int → Int → Int → Heap → Prop) (l : List AVal) (h : Heap) : Prop := J.cons l fun x0 l => J.cons l fun v l => J.int .i64 v fun x1 => J.cons l fun v l => J.int .i64 v fun x2 => J.cons l fun v l => J.int .i64 v fun x3 => J.nil l (F x0 x1 x2 x3 h)
def s80l1_G (F : AVal → Int → Int → Int → Heap → Prop) (x0 : AVal) (x1 : Int) (x2 : Int) (x3 : Int) (h : Heap) : Prop := gJ [.any, .int .i64, .int .i64, .int .i64] [x0, (.int .i64 x1), (.int .i64 x2), (.int .i64 x3)] h (s80l1_R F)
def s80l1_E (F : Nat → AVal → Int → Int → Int → Heap → Prop) (x0 : AVal) (x1 : Int) (x2 : Int) (x3 : Int) (h : Heap) : Prop := gJ [.any, .int .i64, .int .i64, .int .i64] [x0, (.int .i64 x1), (.int .i64 x2), (.int .i64 x3)] h (fun l h => ∃ n, s80l1_R (F n) l h)
theorem s80l1_go {F : AVal → Int → Int → Int → Heap → Prop} {x0 : AVal} {x1 : Int} {x2 : Int} {x3 : Int} {h : Heap} (H : F x0 x1 x2 x3 h) : s80l1_G F x0 x1 x2 x3 h := gJ_plain rfl H
theorem s80l1_in {F : Nat → AVal → Int → Int → Int → Heap → Prop} {x0 : AVal} {x1 : Int} {x2 : Int} {x3 : Int} {h : Heap} (n : Nat) (H : F n x0 x1 x2 x3 h) : s80l1_E F x0 x1 x2 x3 h := gJ_plain rfl ⟨n, H⟩

def s80l1 (Ψ : AVal → Heap → Prop) : Nat → AVal → Int → Int → Int → Heap → Prop
  | 0, _, _, _, _, _ => False
  | n1 + 1, s1, v1, t7, t8, h =>
    ifT (decide (t8 < t7)) (
      ixS 1 s1 t8 fun p =>
      ld1 h p fun v2 =>
      tInt .i64 v2 fun v3 =>
      ifT (v1 == v3) (
        retG (.int .i64 t8) h Ψ) (
        rg (t8 + 1) (
          s80l1_G (s80l1 Ψ n1) s1 v1 t7 (t8 + 1) h))) (
      retG (.int .i64 (-1)) h Ψ)

def s80 (Ψ : AVal → Heap → Prop) (s : AVal) (v : Int) (h : Heap) : Prop :=
  lenN s fun n =>
  s80l1_E (s80l1 Ψ) s v n 0 h

def s80_A (Ψ : AVal → Heap → Prop) : Ann :=
  .seq (.reg [⟨none, [(0, false)]⟩])
  (.seq (.seq (.reg [⟨none, [(0, false), (1, false), (2, false)]⟩])
  (.block (.loop [(0, .any), (1, .int .i64), (7, .int .i64), (8, .int .i64)] (fun n l h => s80l1_R (s80l1 Ψ n) l h) (fun L1 =>
  .seq (.reg [⟨none, [(0, false)]⟩])
  (.seq (.cond (.leaf)
  (.leaf))
  (.seq (.block (.seq (.reg [⟨none, [(0, false), (1, false)]⟩])
  (.seq (.reg [⟨none, [(0, false), (1, false), (2, false), (3, false), (4, false), (5, false)]⟩])
  (.cond (.seq (.reg [⟨none, [(0, false), (1, false)]⟩])
  (.leaf))
  (.leaf)))))
  (.reg [⟨none, [(0, false), (1, false)]⟩])))))))
  (.seq (.reg [⟨none, [(0, false)]⟩])
  (.leaf)))

theorem s80_ok {Ψ : AVal → Heap → Prop} {s : AVal} {v : Int} {h : Heap} (H : s80 Ψ s v h) : ACalls prog 80 [s, (.int .i64 v)] h Ψ :=
  calls_of_evF func80 (by kernel_rfl) (by kernel_rfl) (by kernel_rfl)
    (Eq.mpr (by as_aux_lemma => kernel_rfl : oblF prog f80 (s80_A Ψ) Ψ = (True ∧ (True ∧ (∀ (h : Heap) (x0 : AVal) (x1 x2 x3 : Int), ON (s80l1 Ψ 0 x0 x1 x2 x3 h)) ∧ ∀ n1 : Nat, (∀ (h : Heap) (x0 : AVal) (x1 x2 x3 : Int), OI (s80l1 Ψ (n1 + 1) x0 x1 x2 x3 h)) ∧ (True ∧ (True ∧ True) ∧ (True ∧ True ∧ (True ∧ True) ∧ True) ∧ True)) ∧ True ∧ True)) ⟨trivial, ⟨⟨trivial, ⟨fun _ _ _ _ _ H => H, fun _ => ⟨fun _ _ _ _ _ H => H, ⟨trivial, ⟨⟨trivial, trivial⟩, ⟨⟨trivial, ⟨trivial, ⟨⟨trivial, trivial⟩, trivial⟩⟩⟩, trivial⟩⟩⟩⟩⟩⟩, ⟨trivial, trivial⟩⟩⟩)
    (Eq.mpr (by as_aux_lemma => kernel_rfl : evF prog f80 (s80_A Ψ) Ψ [s, (.int .i64 v)] h = s80 Ψ s v h) H)

/- 84 (*dictum/dictumref03.T).Has -/
def s84 (Ψ : AVal → Heap → Prop) (t : AVal) (id_ : Int) (h : Heap) : Prop :=
  ifT (decide (0 ≤ id_)) (
    nilCheckA t fun p =>
    addOff p 0 fun p1 =>
    ld1 h p1 fun v =>
    lenN v fun n =>
    retG (.bool (decide (id_ < n))) h Ψ) (
    retG (.bool false) h Ψ)

def s84_A (Ψ : AVal → Heap → Prop) : Ann :=
  .seq (.reg [⟨none, [(0, false)]⟩])
  (.seq (.reg [⟨none, [(0, false), (1, false), (2, false)]⟩, ⟨some (7, true), [(3, false), (4, false), (5, false), (6, false), (7, false), (8, false), (9, false)]⟩, ⟨none, [(10, false), (11, false)]⟩])
  (.leaf))

theorem s84_ok {Ψ : AVal → Heap → Prop} {t : AVal} {id_ : Int} {h : Heap} (H : s84 Ψ t id_ h) : ACalls prog 84 [t, (.int .i64 id_)] h Ψ :=
  calls_of_evF func84 (by kernel_rfl) (by kernel_rfl) (by kernel_rfl)
    (Eq.mpr (by as_aux_lemma => kernel_rfl : oblF prog f84 (s84_A Ψ) Ψ = (True ∧ True ∧ True)) ⟨trivial, ⟨trivial, trivial⟩⟩)
    (Eq.mpr (by as_aux_lemma => kernel_rfl : evF prog f84 (s84_A Ψ) Ψ [t, (.int .i64 id_)] h = s84 Ψ t id_ h) H)

/- 87 dictum/worlds.reckon -/
def s87l1_R (F : AVal → Int → AVal → Int → Int → Heap → Prop) (l : List AVal) (h : Heap) : Prop := J.cons l fun x0 l => J.cons l fun v l => J.int .i64 v fun x1 => J.cons l fun x2 l => J.cons l fun v l => J.int .i64 v fun x3 => J.cons l fun v l => J.int .i64 v fun x4 => J.nil l (F x0 x1 x2 x3 x4 h)
def s87l1_G (F : AVal → Int → AVal → Int → Int → Heap → Prop) (x0 : AVal) (x1 : Int) (x2 : AVal) (x3 : Int) (x4 : Int) (h : Heap) : Prop := gJ [.any, .int .i64, .any, .int .i64, .int .i64] [x0, (.int .i64 x1), x2, (.int .i64 x3), (.int .i64 x4)] h (s87l1_R F)
def s87l1_E (F : Nat → AVal → Int → AVal → Int → Int → Heap → Prop) (x0 : AVal) (x1 : Int) (x2 : AVal) (x3 : Int) (x4 : Int) (h : Heap) : Prop := gJ [.any, .int .i64, .any, .int .i64, .int .i64] [x0, (.int .i64 x1), x2, (.int .i64 x3), (.int .i64 x4)] h (fun l h => ∃ n, s87l1_R (F n) l h)
theorem s87l1_go {F : AVal → Int → AVal → Int → Int → Heap → Prop} {x0 : AVal} {x1 : Int} {x2 : AVal} {x3 : Int} {x4 : Int} {h : Heap} (H : F x0 x1 x2 x3 x4 h) : s87l1_G F x0 x1 x2 x3 x4 h := gJ_plain rfl H
theorem s87l1_in {F : Nat → AVal → Int → AVal → Int → Int → Heap → Prop} {x0 : AVal} {x1 : Int} {x2 : AVal} {x3 : Int} {x4 : Int} {h : Heap} (n : Nat) (H : F n x0 x1 x2 x3 x4 h) : s87l1_E F x0 x1 x2 x3 x4 h := gJ_plain rfl ⟨n, H⟩

def s87l2_R (F : AVal → Int → AVal → AVal → AVal → Int → Int → Heap → Prop) (l : List AVal) (h : Heap) : Prop := J.cons l fun x0 l => J.cons l fun v l => J.int .i64 v fun x1 => J.cons l fun x2 l => J.cons l fun x3 l => J.cons l fun x4 l => J.cons l fun v l => J.int .i64 v fun x5 => J.cons l fun v l => J.int .i64 v fun x6 => J.nil l (F x0 x1 x2 x3 x4 x5 x6 h)
def s87l2_G (F : AVal → Int → AVal → AVal → AVal → Int → Int → Heap → Prop) (x0 : AVal) (x1 : Int) (x2 : AVal) (x3 : AVal) (x4 : AVal) (x5 : Int) (x6 : Int) (h : Heap) : Prop := gJ [.any, .int .i64, .any, .any, .any, .int .i64, .int .i64] [x0, (.int .i64 x1), x2, x3, x4, (.int .i64 x5), (.int .i64 x6)] h (s87l2_R F)
def s87l2_E (F : Nat → AVal → Int → AVal → AVal → AVal → Int → Int → Heap → Prop) (x0 : AVal) (x1 : Int) (x2 : AVal) (x3 : AVal) (x4 : AVal) (x5 : Int) (x6 : Int) (h : Heap) : Prop := gJ [.any, .int .i64, .any, .any, .any, .int .i64, .int .i64] [x0, (.int .i64 x1), x2, x3, x4, (.int .i64 x5), (.int .i64 x6)] h (fun l h => ∃ n, s87l2_R (F n) l h)
theorem s87l2_go {F : AVal → Int → AVal → AVal → AVal → Int → Int → Heap → Prop} {x0 : AVal} {x1 : Int} {x2 : AVal} {x3 : AVal} {x4 : AVal} {x5 : Int} {x6 : Int} {h : Heap} (H : F x0 x1 x2 x3 x4 x5 x6 h) : s87l2_G F x0 x1 x2 x3 x4 x5 x6 h := gJ_plain rfl H
theorem s87l2_in {F : Nat → AVal → Int → AVal → AVal → AVal → Int → Int → Heap → Prop} {x0 : AVal} {x1 : Int} {x2 : AVal} {x3 : AVal} {x4 : AVal} {x5 : Int} {x6 : Int} {h : Heap} (n : Nat) (H : F n x0 x1 x2 x3 x4 x5 x6 h) : s87l2_E F x0 x1 x2 x3 x4 x5 x6 h := gJ_plain rfl ⟨n, H⟩

def s87l3_R (F : AVal → Int → AVal → AVal → AVal → Int → Int → AVal → Int → Int → Heap → Prop) (l : List AVal) (h : Heap) : Prop := J.cons l fun x0 l => J.cons l fun v l => J.int .i64 v fun x1 => J.cons l fun x2 l => J.cons l fun x3 l => J.cons l fun x4 l => J.cons l fun v l => J.int .i64 v fun x5 => J.cons l fun v l => J.int .i64 v fun x6 => J.cons l fun x7 l => J.cons l fun v l => J.int .i64 v fun x8 => J.cons l fun v l => J.int .i64 v fun x9 => J.nil l (F x0 x1 x2 x3 x4 x5 x6 x7 x8 x9 h)
def s87l3_G (F : AVal → Int → AVal → AVal → AVal → Int → Int → AVal → Int → Int → Heap → Prop) (x0 : AVal) (x1 : Int) (x2 : AVal) (x3 : AVal) (x4 : AVal) (x5 : Int) (x6 : Int) (x7 : AVal) (x8 : Int) (x9 : Int) (h : Heap) : Prop := gJ [.any, .int .i64, .any, .any, .any, .int .i64, .int .i64, .any, .int .i64, .int .i64] [x0, (.int .i64 x1), x2, x3, x4, (.int .i64 x5), (.int .i64 x6), x7, (.int .i64 x8), (.int .i64 x9)] h (s87l3_R F)
def s87l3_E (F : Nat → AVal → Int → AVal → AVal → AVal → Int → Int → AVal → Int → Int → Heap → Prop) (x0 : AVal) (x1 : Int) (x2 : AVal) (x3 : AVal) (x4 : AVal) (x5 : Int) (x6 : Int) (x7 : AVal) (x8 : Int) (x9 : Int) (h : Heap) : Prop := gJ [.any, .int .i64, .any, .any, .any, .int .i64, .int .i64, .any, .int .i64, .int .i64] [x0, (.int .i64 x1), x2, x3, x4, (.int .i64 x5), (.int .i64 x6), x7, (.int .i64 x8), (.int .i64 x9)] h (fun l h => ∃ n, s87l3_R (F n) l h)
theorem s87l3_go {F : AVal → Int → AVal → AVal → AVal → Int → Int → AVal → Int → Int → Heap → Prop} {x0 : AVal} {x1 : Int} {x2 : AVal} {x3 : AVal} {x4 : AVal} {x5 : Int} {x6 : Int} {x7 : AVal} {x8 : Int} {x9 : Int} {h : Heap} (H : F x0 x1 x2 x3 x4 x5 x6 x7 x8 x9 h) : s87l3_G F x0 x1 x2 x3 x4 x5 x6 x7 x8 x9 h := gJ_plain rfl H
theorem s87l3_in {F : Nat → AVal → Int → AVal → AVal → AVal → Int → Int → AVal → Int → Int → Heap → Prop} {x0 : AVal} {x1 : Int} {x2 : AVal} {x3 : AVal} {x4 : AVal} {x5 : Int} {x6 : Int} {x7 : AVal} {x8 : Int} {x9 : Int} {h : Heap} (n : Nat) (H : F n x0 x1 x2 x3 x4 x5 x6 x7 x8 x9 h) : s87l3_E F x0 x1 x2 x3 x4 x5 x6 x7 x8 x9 h := gJ_plain rfl ⟨n, H⟩

def s87c4 (Ψ : AVal → Heap → Prop) (L1 : AVal → Int → AVal → Int → Int → Heap → Prop) (L2 : AVal → Int → AVal → AVal → AVal → Int → Int → Heap → Prop) (L3 : AVal → Int → AVal → AVal → AVal → Int → Int → AVal → Int → Int → Heap → Prop) (m3 : AVal) (n12 : Int) (above3 : AVal) (row2 : AVal) (stack2 : AVal) (t18_3 : Int) (t19_3 : Int) (t51_1 : AVal) (t52_1 : Int) (t53_1 : Int) (h : Heap) : Prop :=
  rg (t53_1 + 1) (
    L3 m3 n12 above3 row2 stack2 t18_3 t19_3 t51_1 t52_1 (t53_1 + 1) h)

def s87c5 (Ψ : AVal → Heap → Prop) (L1 : AVal → Int → AVal → Int → Int → Heap → Prop) (L2 : AVal → Int → AVal → AVal → AVal → Int → Int → Heap → Prop) (L3 : AVal → Int → AVal → AVal → AVal → Int → Int → AVal → Int → Int → Heap → Prop) (m4 : AVal) (n13 : Int) (above4 : AVal) (row3 : AVal) (stack3 : AVal) (b : Int) (t18_4 : Int) (t19_4 : Int) (t51_2 : AVal) (t52_2 : Int) (t53_2 : Int) (t63 : Bool) (h : Heap) : Prop :=
  ifT t63 (
    retG (.tuple [.nilfunc, (.bool false)]) h Ψ) (
    ixS 1 row3 b fun p6 =>
    ld1 h p6 fun v11 =>
    tBool v11 fun v12 =>
    ifT (!v12) (
      ixS 1 row3 b fun p7 =>
      st true h p7 [(.bool true)] fun h_7 =>
      appC 1 8 h_7 stack3 (.lsl 1 [(.int .i64 b)]) fun v13 h_8 =>
      s87c4 Ψ L1 L2 L3 m4 n13 above4 row3 v13 t18_4 t19_4 t51_2 t52_2 t53_2 h_8) (
      s87c4 Ψ L1 L2 L3 m4 n13 above4 row3 stack3 t18_4 t19_4 t51_2 t52_2 t53_2 h))

def s87l3 (Ψ : AVal → Heap → Prop) (L1 : AVal → Int → AVal → Int → Int → Heap → Prop) (L2 : AVal → Int → AVal → AVal → AVal → Int → Int → Heap → Prop) : Nat → AVal → Int → AVal → AVal → AVal → Int → Int → AVal → Int → Int → Heap → Prop
  | 0, _, _, _, _, _, _, _, _, _, _, _ => False
  | n11 + 1, m2, n10, above2, row1, stack1, t18_2, t19_2, t51, t52, t53, h =>
    ifT (decide (t53 < t52)) (
      ixS 1 t51 t53 fun p5 =>
      ld1 h p5 fun v9 =>
      tInt .i64 v9 fun v10 =>
      ifT (decide (v10 < 0)) (
        s87c5 Ψ L1 L2 (s87l3_G (s87l3 Ψ L1 L2 n11)) m2 n10 above2 row1 stack1 v10 t18_2 t19_2 t51 t52 t53 true h) (
        s87c5 Ψ L1 L2 (s87l3_G (s87l3 Ψ L1 L2 n11)) m2 n10 above2 row1 stack1 v10 t18_2 t19_2 t51 t52 t53 (decide (n10 ≤ v10)) h)) (
      L2 m2 n10 above2 row1 stack1 t18_2 t19_2 h)

def s87l2 (Ψ : AVal → Heap → Prop) (L1 : AVal → Int → AVal → Int → Int → Heap → Prop) : Nat → AVal → Int → AVal → AVal → AVal → Int → Int → Heap → Prop
  | 0, _, _, _, _, _, _, _, _ => False
  | n5 + 1, m1, n4, above1, row, stack, t18_1, t19_1, h =>
    lenN stack fun n6 =>
    ifT (decide (0 < n6)) (
      lenN stack fun n7 =>
      rg (n7 - 1) (
        ixS 1 stack (n7 - 1) fun p2 =>
        ld1 h p2 fun v4 =>
        tInt .i64 v4 fun v5 =>
        lenN stack fun n8 =>
        rg (n8 - 1) (
          slX 1 stack 0 (some (n8 - 1)) fun v6 =>
          addOff m1 0 fun p3 =>
          ld1 h p3 fun v7 =>
          ixS 1 v7 v5 fun p4 =>
          ld1 h p4 fun v8 =>
          lenN v8 fun n9 =>
          s87l3_E (s87l3 Ψ L1 (s87l2_G (s87l2 Ψ L1 n5))) m1 n4 above1 row v6 t18_1 t19_1 v8 n9 0 h))) (
      rg (t19_1 + 1) (
        L1 m1 n4 above1 t18_1 (t19_1 + 1) h))

def s87l1 (Ψ : AVal → Heap → Prop) : Nat → AVal → Int → AVal → Int → Int → Heap → Prop
  | 0, _, _, _, _, _, _ => False
  | n3 + 1, m, n2, above, t18, t19, h =>
    ifT (decide (t19 < t18)) (
      mkS false 1 1 (.bool false) h n2 n2 fun v2 h_3 =>
      ld1 h_3 above fun v3 =>
      ixS 1 v3 t19 fun p =>
      chk (sc v2) (
        st true h_3 p [v2] fun h_4 =>
        ixS 1 v2 t19 fun p1 =>
        st true h_4 p1 [(.bool true)] fun h_5 =>
        Sym.newRow 1 [(.int .i64 t19)] h_5 fun r1 h_6 =>
        s87l2_E (s87l2 Ψ (s87l1_G (s87l1 Ψ n3))) m n2 above v2 (.sl r1 1 0 1) t18 t19 h_6)) (
      retG (.tuple [(.func (.func 90) [] [above]), (.bool true)]) h Ψ)

def s87 (Ψ : AVal → Heap → Prop) (m_Up : AVal) (m_Val : AVal) (h : Heap) : Prop :=
  lenN m_Up fun n =>
  mkS false 1 24 .nilsl h n n fun v h_ =>
  Sym.newRow 1 [.nilsl] h_ fun r h_1 =>
  chk (sc v) (
    st true h_1 (.ptr r 0 0) [v] fun h_2 =>
    ld1 h_2 (.ptr r 0 0) fun v1 =>
    lenN v1 fun n1 =>
    s87l1_E (s87l1 Ψ) (.lptr [m_Up, m_Val]) n (.ptr r 0 0) n1 0 h_2)

def s87_A (Ψ : AVal → Heap → Prop) : Ann :=
  .seq (.reg [⟨none, [(0, true), (1, false), (2, false)]⟩])
  (.seq (.reg [⟨none, [(0, false), (1, false), (2, false), (3, false)]⟩])
  (.seq (.reg [⟨none, [(0, false), (1, false), (2, false), (3, false)]⟩])
  (.seq (.seq (.reg [⟨none, [(0, false), (1, false), (2, false)]⟩])
  (.block (.loop [(1, .any), (4, .int .i64), (5, .any), (18, .int .i64), (19, .int .i64)] (fun n l h => s87l1_R (s87l1 Ψ n) l h) (fun L1 =>
  .seq (.reg [⟨none, [(0, false)]⟩])
  (.seq (.cond (.leaf)
  (.leaf))
  (.seq (.block (.seq (.reg [⟨none, [(0, false), (1, false)]⟩])
  (.seq (.reg [⟨none, [(0, false), (1, false), (2, false)]⟩])
  (.seq (.reg [⟨none, [(0, false), (1, false), (2, false), (3, false), (4, false)]⟩])
  (.seq (.reg [⟨none, [(0, false), (1, false), (2, false), (3, false)]⟩])
  (.seq (.reg [⟨none, [(0, false), (1, false), (2, false)]⟩])
  (.block (.loop [(1, .any), (4, .int .i64), (5, .any), (7, .any), (8, .any), (18, .int .i64), (19, .int .i64)] (fun n l h => s87l2_R (s87l2 Ψ (fun y0 y1 y2 y3 y4 h => L1 [y0, (.int .i64 y1), y2, (.int .i64 y3), (.int .i64 y4)] h) n) l h) (fun L2 =>
  .seq (.seq (.reg [⟨none, [(0, false), (1, false), (2, false)]⟩])
  (.cond (.leaf)
  (.leaf)))
  (.block (.seq (.reg [⟨none, [(0, false), (1, false), (2, false), (3, false), (4, false), (5, false), (6, false)]⟩])
  (.seq (.reg [⟨none, [(0, false), (1, false), (2, false), (3, false), (4, false), (5, false)]⟩])
  (.seq (.reg [⟨none, [(0, false), (1, false), (2, false), (3, false), (4, false), (5, false), (6, false)]⟩])
  (.block (.loop [(1, .any), (4, .int .i64), (5, .any), (7, .any), (8, .any), (18, .int .i64), (19, .int .i64), (51, .any), (52, .int .i64), (53, .int .i64)] (fun n l h => s87l3_R (s87l3 Ψ (fun y0 y1 y2 y3 y4 h => L1 [y0, (.int .i64 y1), y2, (.int .i64 y3), (.int .i64 y4)] h) (fun y0 y1 y2 y3 y4 y5 y6 h => L2 [y0, (.int .i64 y1), y2, y3, y4, (.int .i64 y5), (.int .i64 y6)] h) n) l h) (fun L3 =>
  .seq (.reg [⟨none, [(0, false)]⟩])
  (.seq (.cond (.leaf)
  (.leaf))
  (.cut [(1, .any), (4, .int .i64), (5, .any), (7, .any), (8, .any), (18, .int .i64), (19, .int .i64), (51, .any), (52, .int .i64), (53, .int .i64)] (fun l h => J.cons l fun x0 l => J.cons l fun v l => J.int .i64 v fun x1 => J.cons l fun x2 l => J.cons l fun x3 l => J.cons l fun x4 l => J.cons l fun v l => J.int .i64 v fun x5 => J.cons l fun v l => J.int .i64 v fun x6 => J.cons l fun x7 l => J.cons l fun v l => J.int .i64 v fun x8 => J.cons l fun v l => J.int .i64 v fun x9 => J.nil l (s87c4 Ψ (fun y0 y1 y2 y3 y4 h => L1 [y0, (.int .i64 y1), y2, (.int .i64 y3), (.int .i64 y4)] h) (fun y0 y1 y2 y3 y4 y5 y6 h => L2 [y0, (.int .i64 y1), y2, y3, y4, (.int .i64 y5), (.int .i64 y6)] h) (fun y0 y1 y2 y3 y4 y5 y6 y7 y8 y9 h => L3 [y0, (.int .i64 y1), y2, y3, y4, (.int .i64 y5), (.int .i64 y6), y7, (.int .i64 y8), (.int .i64 y9)] h) x0 x1 x2 x3 x4 x5 x6 x7 x8 x9 h)) (.block (.seq (.reg [⟨none, [(0, false), (1, false), (2, false)]⟩])
  (.seq (.cut [(1, .any), (4, .int .i64), (5, .any), (7, .any), (8, .any), (11, .int .i64), (18, .int .i64), (19, .int .i64), (51, .any), (52, .int .i64), (53, .int .i64), (63, .bool)] (fun l h => J.cons l fun x0 l => J.cons l fun v l => J.int .i64 v fun x1 => J.cons l fun x2 l => J.cons l fun x3 l => J.cons l fun x4 l => J.cons l fun v l => J.int .i64 v fun x5 => J.cons l fun v l => J.int .i64 v fun x6 => J.cons l fun v l => J.int .i64 v fun x7 => J.cons l fun x8 l => J.cons l fun v l => J.int .i64 v fun x9 => J.cons l fun v l => J.int .i64 v fun x10 => J.cons l fun v l => J.bool v fun x11 => J.nil l (s87c5 Ψ (fun y0 y1 y2 y3 y4 h => L1 [y0, (.int .i64 y1), y2, (.int .i64 y3), (.int .i64 y4)] h) (fun y0 y1 y2 y3 y4 y5 y6 h => L2 [y0, (.int .i64 y1), y2, y3, y4, (.int .i64 y5), (.int .i64 y6)] h) (fun y0 y1 y2 y3 y4 y5 y6 y7 y8 y9 h => L3 [y0, (.int .i64 y1), y2, y3, y4, (.int .i64 y5), (.int .i64 y6), y7, (.int .i64 y8), (.int .i64 y9)] h) x0 x1 x2 x3 x4 x5 x6 x7 x8 x9 x10 x11 h)) (.reg [⟨none, [(0, false), (1, false), (2, false)]⟩, ⟨some (59, false), [(3, false), (4, false), (5, false)]⟩, ⟨none, [(6, false)]⟩])
  (.cond (.seq (.reg [⟨none, [(0, false), (1, false)]⟩])
  (.leaf))
  (.leaf)))
  (.seq (.reg [⟨none, [(0, false), (1, false), (2, false), (3, false), (4, false)]⟩])
  (.cond (.seq (.reg [⟨none, [(0, false), (1, false), (2, false), (3, false)]⟩])
  (.reg [⟨none, [(0, false), (1, false), (2, true), (3, false), (4, false)]⟩]))
  (.leaf))))))
  (.reg [⟨none, [(0, false), (1, false)]⟩])))))))))))))))))))
  (.reg [⟨none, [(0, false), (1, false)]⟩])))))))
  (.seq (.reg [⟨none, [(0, false), (1, false), (2, false)]⟩])
  (.leaf)))))

theorem s87_ok {Ψ : AVal → Heap → Prop} {m_Up : AVal} {m_Val : AVal} {h : Heap} (H : s87 Ψ m_Up m_Val h) : ACalls prog 87 [(.agg [m_Up, m_Val])] h Ψ :=
  calls_of_evF func87 (by kernel_rfl) (by kernel_rfl) (by kernel_rfl)
    (Eq.mpr (by as_aux_lemma => kernel_rfl : oblF prog f87 (s87_A Ψ) Ψ = (True ∧ True ∧ True ∧ (True ∧ (∀ (h : Heap) (x0 : AVal) (x1 : Int) (x2 : AVal) (x3 x4 : Int), ON (s87l1 Ψ 0 x0 x1 x2 x3 x4 h)) ∧ ∀ n1 : Nat, (∀ (h : Heap) (x0 : AVal) (x1 : Int) (x2 : AVal) (x3 x4 : Int), OI (s87l1 Ψ (n1 + 1) x0 x1 x2 x3 x4 h)) ∧ (True ∧ (True ∧ True) ∧ (True ∧ True ∧ True ∧ True ∧ True ∧ (∀ (h : Heap) (x0 : AVal) (x1 : Int) (x2 x3 x4 : AVal) (x5 x6 : Int), ON (s87l2 Ψ (s87l1_G (s87l1 Ψ n1)) 0 x0 x1 x2 x3 x4 x5 x6 h)) ∧ ∀ n2 : Nat, (∀ (h : Heap) (x0 : AVal) (x1 : Int) (x2 x3 x4 : AVal) (x5 x6 : Int), OI (s87l2 Ψ (s87l1_G (s87l1 Ψ n1)) (n2 + 1) x0 x1 x2 x3 x4 x5 x6 h)) ∧ ((True ∧ True ∧ True) ∧ True ∧ True ∧ True ∧ (∀ (h : Heap) (x0 : AVal) (x1 : Int) (x2 x3 x4 : AVal) (x5 x6 : Int) (x7 : AVal) (x8 x9 : Int), ON (s87l3 Ψ (s87l1_G (s87l1 Ψ n1)) (s87l2_G (s87l2 Ψ (s87l1_G (s87l1 Ψ n1)) n2)) 0 x0 x1 x2 x3 x4 x5 x6 x7 x8 x9 h)) ∧ ∀ n3 : Nat, (∀ (h : Heap) (x0 : AVal) (x1 : Int) (x2 x3 x4 : AVal) (x5 x6 : Int) (x7 : AVal) (x8 x9 : Int), OI (s87l3 Ψ (s87l1_G (s87l1 Ψ n1)) (s87l2_G (s87l2 Ψ (s87l1_G (s87l1 Ψ n1)) n2)) (n3 + 1) x0 x1 x2 x3 x4 x5 x6 x7 x8 x9 h)) ∧ (True ∧ (True ∧ True) ∧ (True ∧ ((True) ∧ (∀ (h : Heap) (x0 : AVal) (x1 : Int) (x2 x3 x4 : AVal) (x5 x6 x7 : Int) (x8 : AVal) (x9 x10 : Int) (x11 : Bool), OI (s87c5 Ψ (s87l1_G (s87l1 Ψ n1)) (s87l2_G (s87l2 Ψ (s87l1_G (s87l1 Ψ n1)) n2)) (s87l3_G (s87l3 Ψ (s87l1_G (s87l1 Ψ n1)) (s87l2_G (s87l2 Ψ (s87l1_G (s87l1 Ψ n1)) n2)) n3)) x0 x1 x2 x3 x4 x5 x6 x7 x8 x9 x10 x11 h)) ∧ ((True ∧ True) ∧ True)) ∧ True ∧ (True ∧ True) ∧ True) ∧ (∀ (h : Heap) (x0 : AVal) (x1 : Int) (x2 x3 x4 : AVal) (x5 x6 : Int) (x7 : AVal) (x8 x9 : Int), OI (s87c4 Ψ (s87l1_G (s87l1 Ψ n1)) (s87l2_G (s87l2 Ψ (s87l1_G (s87l1 Ψ n1)) n2)) (s87l3_G (s87l3 Ψ (s87l1_G (s87l1 Ψ n1)) (s87l2_G (s87l2 Ψ (s87l1_G (s87l1 Ψ n1)) n2)) n3)) x0 x1 x2 x3 x4 x5 x6 x7 x8 x9 h)) ∧ (True)))) ∧ True)) ∧ True ∧ True)) ⟨trivial, ⟨trivial, ⟨trivial, ⟨⟨trivial, ⟨fun _ _ _ _ _ _ H => H, fun _ => ⟨fun _ _ _ _ _ _ H => H, ⟨trivial, ⟨⟨trivial, trivial⟩, ⟨⟨trivial, ⟨trivial, ⟨trivial, ⟨trivial, ⟨trivial, ⟨fun _ _ _ _ _ _ _ _ H => H, fun _ => ⟨fun _ _ _ _ _ _ _ _ H => H, ⟨⟨trivial, ⟨trivial, trivial⟩⟩, ⟨trivial, ⟨trivial, ⟨trivial, ⟨fun _ _ _ _ _ _ _ _ _ _ _ H => H, fun _ => ⟨fun _ _ _ _ _ _ _ _ _ _ _ H => H, ⟨trivial, ⟨⟨trivial, trivial⟩, ⟨⟨trivial, ⟨⟨trivial, fun _ _ _ _ _ _ _ _ _ _ _ _ _ H => H, ⟨⟨trivial, trivial⟩, trivial⟩⟩, ⟨trivial, ⟨⟨trivial, trivial⟩, trivial⟩⟩⟩⟩, fun _ _ _ _ _ _ _ _ _ _ _ H => H, trivial⟩⟩⟩⟩⟩⟩⟩⟩⟩⟩⟩⟩⟩⟩⟩⟩, trivial⟩⟩⟩⟩⟩⟩, ⟨trivial, trivial⟩⟩⟩⟩⟩)
    (Eq.mpr (by as_aux_lemma => kernel_rfl : evF prog f87 (s87_A Ψ) Ψ [(.agg [m_Up, m_Val])] h = s87 Ψ m_Up m_Val h) H)

/- 89 dictum/worlds.looked$1 -/
def s89 (Ψ : AVal → Heap → Prop) (s : ByteArray) (c0 : AVal) (c1 : AVal) (h : Heap) : Prop :=
  addOff c0 1 fun p =>
  ld1 h p fun v =>
  ld1 h c1 fun v1 =>
  tInt .i64 v1 fun v2 =>
  ixS 1 v v2 fun p1 =>
  ld1 h p1 fun v3 =>
  callG prog 46 [v3, (.str s)] h fun v4 h_ =>
  tBool v4 fun v5 =>
  retG (.bool (!v5)) h_ Ψ

def s89_A (Ψ : AVal → Heap → Prop) : Ann :=
  .seq (.reg [⟨none, [(0, false)]⟩])
  (.seq (.reg [⟨none, [(0, false), (1, false), (2, false), (3, false), (4, false), (5, false), (6, false), (7, false), (8, false)]⟩])
  (.leaf))

theorem s89_ok {Ψ : AVal → Heap → Prop} {s : ByteArray} {c0 : AVal} {c1 : AVal} {h : Heap} (H : s89 Ψ s c0 c1 h) : ACalls prog 89 [(.str s), c0, c1] h Ψ :=
  calls_of_evF func89 (by kernel_rfl) (by kernel_rfl) (by kernel_rfl)
    (Eq.mpr (by as_aux_lemma => kernel_rfl : oblF prog f89 (s89_A Ψ) Ψ = (True ∧ True ∧ True)) ⟨trivial, ⟨trivial, trivial⟩⟩)
    (Eq.mpr (by as_aux_lemma => kernel_rfl : evF prog f89 (s89_A Ψ) Ψ [(.str s), c0, c1] h = s89 Ψ s c0 c1 h) H)

end Go.Proofs.Ytinficcdpggiaaa

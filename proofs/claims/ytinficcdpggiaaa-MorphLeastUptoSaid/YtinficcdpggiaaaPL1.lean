/- The functions that the proof meets, each as a text that Lean has checked against the program. No condition. -/
import Derived.Test.YtinficcdpggiaaaM3
import Derived.Test.YtinficcdpggiaaaChecked
namespace Go.Proofs.Ytinficcdpggiaaa
open Go Go.Sym Go.Proofs.Try
set_option maxRecDepth 100000
set_option linter.unusedVariables false

/- 7 dictum/dictumlaw19.MorphLeast -/
abbrev s7l1_T := AVal → AVal → Int → AVal → Int → Int → Heap → Prop
def s7l1_R (F : s7l1_T) (l : List AVal) (h : Heap) : Prop := J.cons l fun x0 l => J.cons l fun x1 l => J.cons l fun v l => J.int .i64 v fun x2 => J.cons l fun x3 l => J.cons l fun v l => J.int .i64 v fun x4 => J.cons l fun v l => J.int .i64 v fun x5 => J.nil l (F x0 x1 x2 x3 x4 x5 h)
def s7l1_G (F : s7l1_T) (x0 x1 : AVal) (x2 : Int) (x3 : AVal) (x4 x5 : Int) (h : Heap) : Prop := gJ [.any, .any, .int .i64, .any, .int .i64, .int .i64] [x0, x1, (.int .i64 x2), x3, (.int .i64 x4), (.int .i64 x5)] h (s7l1_R F)
def s7l1_E (F : Nat → s7l1_T) (x0 x1 : AVal) (x2 : Int) (x3 : AVal) (x4 x5 : Int) (h : Heap) : Prop := gJ [.any, .any, .int .i64, .any, .int .i64, .int .i64] [x0, x1, (.int .i64 x2), x3, (.int .i64 x4), (.int .i64 x5)] h (fun l h => ∃ n, s7l1_R (F n) l h)
theorem s7l1_go {F : s7l1_T} {x0 x1 : AVal} {x2 : Int} {x3 : AVal} {x4 x5 : Int} {h : Heap} (H : F x0 x1 x2 x3 x4 x5 h) : s7l1_G F x0 x1 x2 x3 x4 x5 h := gJ_plain rfl H
theorem s7l1_in {F : Nat → s7l1_T} {x0 x1 : AVal} {x2 : Int} {x3 : AVal} {x4 x5 : Int} {h : Heap} (n : Nat) (H : F n x0 x1 x2 x3 x4 x5 h) : s7l1_E F x0 x1 x2 x3 x4 x5 h := gJ_plain rfl ⟨n, H⟩

def s7l1 (Ψ : AVal → Heap → Prop) : Nat → s7l1_T
  | 0, _, _, _, _, _, _, _ => False
  | n + 1, q, c, f, p, g, i, h =>
    lenN c fun n1 =>
    ifT (decide (i < n1)) (
      ixS 1 c i fun p1 =>
      ld1 h p1 fun v24 =>
      tInt .i64 v24 fun v25 =>
      ifT (v25 != i) (
        retG (.bool false) h Ψ) (
        rg (i + 1) (
          s7l1_G (s7l1 Ψ n) q c f p g (i + 1) h))) (
      ifT (f == 0) (
        ifT (g == 0) (
          ldN 2 h p fun l_23 =>
          tCons l_23 fun v26 l_24 =>
          tCons l_24 fun v27 l_25 =>
          tNil l_25 (
            ldN 2 h q fun l_26 =>
            tCons l_26 fun v28 l_27 =>
            tCons l_27 fun v29 l_28 =>
            tNil l_28 (
              callG prog 19 [(.agg [v26, v27]), (.agg [v28, v29])] h fun v30 h_8 =>
              tBool v30 fun v31 =>
              ifT v31 (
                lenN c fun n2 =>
                addOff q 0 fun p2 =>
                ld1 h_8 p2 fun v32 =>
                lenN v32 fun n3 =>
                ifT (n2 == n3) (
                  callG prog 20 [] h_8 fun v33 h_9 =>
                  tBool v33 fun v34 =>
                  retG (.bool v34) h_9 Ψ) (
                  retG (.bool false) h_8 Ψ)) (
                retG (.bool false) h_8 Ψ)))) (
          retG (.bool false) h Ψ)) (
        retG (.bool false) h Ψ))

def s7 (Ψ : AVal → Heap → Prop) (m_Up : AVal) (m_Val : AVal) (h : Heap) : Prop :=
  callG prog 12 [(.agg [m_Up, m_Val])] h fun v h_ =>
  tTup v fun l_ =>
  tCons l_ fun v1 l_1 =>
  tCons l_1 fun v2 l_2 =>
  tCons l_2 fun v3 l_3 =>
  tInt .i64 v3 fun v4 =>
  tNil l_3 (
    tAgg v1 fun l_4 =>
    tCons l_4 fun v5 l_5 =>
    tCons l_5 fun v6 l_6 =>
    tNil l_6 (
      Sym.newRow 2 [(.agg [.nilsl, .nilsl])] h_ fun r h_1 =>
      st false h_1 (.ptr r 0 0) [v5, v6] fun h_2 =>
      ifT (v4 != 0) (
        callG prog 20 [] h_2 fun v7 h_3 =>
        tBool v7 fun v8 =>
        retG (.bool v8) h_3 Ψ) (
        ldN 2 h_2 (.ptr r 0 0) fun l_7 =>
        tCons l_7 fun v9 l_8 =>
        tCons l_8 fun v10 l_9 =>
        tNil l_9 (
          callG prog 14 [(.agg [v9, v10])] h_2 fun v11 h_4 =>
          tTup v11 fun l_10 =>
          tCons l_10 fun v12 l_11 =>
          tCons l_11 fun v13 l_12 =>
          tInt .i64 v13 fun v14 =>
          tNil l_12 (
            ldN 2 h_4 (.ptr r 0 0) fun l_13 =>
            tCons l_13 fun v15 l_14 =>
            tCons l_14 fun v16 l_15 =>
            tNil l_15 (
              callG prog 12 [(.agg [v15, v16])] h_4 fun v17 h_5 =>
              tTup v17 fun l_16 =>
              tCons l_16 fun v18 l_17 =>
              tCons l_17 fun v19 l_18 =>
              tCons l_18 fun v20 l_19 =>
              tInt .i64 v20 fun v21 =>
              tNil l_19 (
                tAgg v18 fun l_20 =>
                tCons l_20 fun v22 l_21 =>
                tCons l_21 fun v23 l_22 =>
                tNil l_22 (
                  Sym.newRow 2 [(.agg [.nilsl, .nilsl])] h_5 fun r1 h_6 =>
                  st false h_6 (.ptr r1 0 0) [v22, v23] fun h_7 =>
                  s7l1_E (s7l1 Ψ) (.ptr r 0 0) v12 v14 (.ptr r1 0 0) v21 0 h_7))))))))

def s7_A (Ψ : AVal → Heap → Prop) : Ann :=
  .seq (.reg [⟨none, [(0, true), (1, false)]⟩])
  (.seq (rA 10)
  (.seq (.seq (rA 2)
  (.cond (.seq (rA 2)
  (.leaf))
  (.leaf)))
  (.seq (rA 7)
  (.seq (rA 10)
  (.seq (.seq (rA 1)
  (.block (.loop [(3, .any), (6, .any), (7, .int .i64), (8, .any), (10, .int .i64), (11, .int .i64)] (fun n l h => s7l1_R (s7l1 Ψ n) l h) (fun L1 =>
  .seq (.seq (rA 4)
  (.cond (.leaf)
  (.leaf)))
  (.seq (.block (.seq (rA 6)
  (.cond (.seq (rA 1)
  (.leaf))
  (.leaf))))
  (rA 3))))))
  (.seq (.reg [⟨none, [(0, false), (1, false), (2, false)]⟩, ⟨some (46, true), [(3, false), (4, false)]⟩, ⟨none, [(5, false), (6, false)]⟩, ⟨some (50, true), [(7, false), (8, false), (9, false)]⟩, ⟨none, [(10, false), (11, false)]⟩, ⟨some (55, true), [(12, false), (13, false), (14, false), (15, false), (16, false), (17, false)]⟩, ⟨none, [(18, false), (19, false)]⟩, ⟨some (63, true), [(20, false)]⟩, ⟨none, [(21, false), (22, false)]⟩])
  (.leaf)))))))

theorem s7_ok {Ψ : AVal → Heap → Prop} {m_Up : AVal} {m_Val : AVal} {h : Heap} (H : s7 Ψ m_Up m_Val h) : ACalls prog 7 [(.agg [m_Up, m_Val])] h Ψ :=
  calls_of_evF func7 (by kernel_rfl) (by kernel_rfl) (by kernel_rfl)
    (Eq.mpr (by as_aux_lemma => kernel_rfl : oblF prog f7 (s7_A Ψ) Ψ = (True ∧ True ∧ (True ∧ (True ∧ True) ∧ True) ∧ True ∧ True ∧ (True ∧ (∀ (h : Heap) (x0 x1 : AVal) (x2 : Int) (x3 : AVal) (x4 x5 : Int), ON (s7l1 Ψ 0 x0 x1 x2 x3 x4 x5 h)) ∧ ∀ n1 : Nat, (∀ (h : Heap) (x0 x1 : AVal) (x2 : Int) (x3 : AVal) (x4 x5 : Int), OI (s7l1 Ψ (n1 + 1) x0 x1 x2 x3 x4 x5 h)) ∧ ((True ∧ True ∧ True) ∧ (True ∧ (True ∧ True) ∧ True) ∧ True)) ∧ True ∧ True)) ⟨trivial, ⟨trivial, ⟨⟨trivial, ⟨⟨trivial, trivial⟩, trivial⟩⟩, ⟨trivial, ⟨trivial, ⟨⟨trivial, ⟨fun _ _ _ _ _ _ _ H => H, fun _ => ⟨fun _ _ _ _ _ _ _ H => H, ⟨⟨trivial, ⟨trivial, trivial⟩⟩, ⟨⟨trivial, ⟨⟨trivial, trivial⟩, trivial⟩⟩, trivial⟩⟩⟩⟩⟩, ⟨trivial, trivial⟩⟩⟩⟩⟩⟩⟩)
    (Eq.mpr (by as_aux_lemma => kernel_rfl : evF prog f7 (s7_A Ψ) Ψ [(.agg [m_Up, m_Val])] h = s7 Ψ m_Up m_Val h) H)

/- 9 dictum/morph.Above -/
def s9c1 (Ψ : AVal → Heap → Prop) (w1 : Int) (m t4 o : AVal) (t26 : Bool) (h : Heap) : Prop :=
  ifT t26 (
    st false h t4 [.nilsl, .nilsl] fun h_3 =>
    ldN 2 h_3 t4 fun l_6 =>
    tCons l_6 fun v6 l_7 =>
    tCons l_7 fun v7 l_8 =>
    tNil l_8 (
      retG (.tuple [(.agg [v6, v7]), .nilsl, (.int .i64 2)]) h_3 Ψ)) (
    ixS 1 o w1 fun p =>
    ld1 h p fun v8 =>
    callG prog 29 [v8] h fun v9 h_4 =>
    ldN 2 h_4 m fun l_9 =>
    tCons l_9 fun v10 l_10 =>
    tCons l_10 fun v11 l_11 =>
    tNil l_11 (
      callG prog 30 [(.agg [v10, v11]), o, v9] h_4 fun v12 h_5 =>
      tAgg v12 fun l_12 =>
      tCons l_12 fun v13 l_13 =>
      tCons l_13 fun v14 l_14 =>
      tNil l_14 (
        st false h_5 t4 [v13, v14] fun h_6 =>
        ldN 2 h_6 t4 fun l_15 =>
        tCons l_15 fun v15 l_16 =>
        tCons l_16 fun v16 l_17 =>
        tNil l_17 (
          retG (.tuple [(.agg [v15, v16]), v9, (.int .i64 0)]) h_6 Ψ))))

def s9 (Ψ : AVal → Heap → Prop) (m_Up : AVal) (m_Val : AVal) (w : Int) (h : Heap) : Prop :=
  Sym.newRow 2 [(.agg [.nilsl, .nilsl])] h fun r h_ =>
  callG prog 28 [(.agg [m_Up, m_Val])] h_ fun v h_1 =>
  tTup v fun l_ =>
  tCons l_ fun v1 l_1 =>
  tCons l_1 fun v2 l_2 =>
  tInt .i64 v2 fun v3 =>
  tNil l_2 (
    ifT (v3 != 0) (
      st false h_1 (.ptr r 0 0) [.nilsl, .nilsl] fun h_2 =>
      ldN 2 h_2 (.ptr r 0 0) fun l_3 =>
      tCons l_3 fun v4 l_4 =>
      tCons l_4 fun v5 l_5 =>
      tNil l_5 (
        retG (.tuple [(.agg [v4, v5]), .nilsl, (.int .i64 v3)]) h_2 Ψ)) (
      ifT (decide (w < 0)) (
        s9c1 Ψ w (.lptr [m_Up, m_Val]) (.ptr r 0 0) v1 true h_1) (
        lenN v1 fun n =>
        s9c1 Ψ w (.lptr [m_Up, m_Val]) (.ptr r 0 0) v1 (decide (n ≤ w)) h_1)))

def s9_A (Ψ : AVal → Heap → Prop) : Ann :=
  .seq (.reg [⟨none, [(0, true), (1, false), (2, false), (3, false)]⟩])
  (.seq (rA 7)
  (.seq (.seq (rA 2)
  (.cond (.seq (rA 5)
  (.leaf))
  (.leaf)))
  (.seq (.cut [(1, .int .i64), (2, .any), (4, .any), (7, .any), (26, .bool)] (fun l h => J.cons l fun v l => J.int .i64 v fun x0 => J.cons l fun x1 l => J.cons l fun x2 l => J.cons l fun x3 l => J.cons l fun v l => J.bool v fun x4 => J.nil l (s9c1 Ψ x0 x1 x2 x3 x4 h)) (.reg [⟨none, [(0, false), (1, false), (2, false)]⟩, ⟨some (21, false), [(3, false), (4, false), (5, false), (6, false)]⟩, ⟨none, [(7, false)]⟩])
  (.cond (.seq (rA 4)
  (.leaf))
  (.leaf)))
  (.seq (rA 6)
  (.seq (rA 8)
  (.leaf))))))

theorem s9_ok {Ψ : AVal → Heap → Prop} {m_Up : AVal} {m_Val : AVal} {w : Int} {h : Heap} (H : s9 Ψ m_Up m_Val w h) : ACalls prog 9 [(.agg [m_Up, m_Val]), (.int .i64 w)] h Ψ :=
  calls_of_evF func9 (by kernel_rfl) (by kernel_rfl) (by kernel_rfl)
    (Eq.mpr (by as_aux_lemma => kernel_rfl : oblF prog f9 (s9_A Ψ) Ψ = (True ∧ True ∧ (True ∧ (True ∧ True) ∧ True) ∧ ((True) ∧ (∀ (h : Heap) (x0 : Int) (x1 x2 x3 : AVal) (x4 : Bool), OI (s9c1 Ψ x0 x1 x2 x3 x4 h)) ∧ ((True ∧ True) ∧ True)) ∧ True ∧ True ∧ True)) ⟨trivial, ⟨trivial, ⟨⟨trivial, ⟨⟨trivial, trivial⟩, trivial⟩⟩, ⟨⟨trivial, fun _ _ _ _ _ _ H => H, ⟨⟨trivial, trivial⟩, trivial⟩⟩, ⟨trivial, ⟨trivial, trivial⟩⟩⟩⟩⟩⟩)
    (Eq.mpr (by as_aux_lemma => kernel_rfl : evF prog f9 (s9_A Ψ) Ψ [(.agg [m_Up, m_Val]), (.int .i64 w)] h = s9 Ψ m_Up m_Val w h) H)

/- 12 dictum/morph.Quotient -/
abbrev s12l1_T := AVal → AVal → AVal → AVal → AVal → AVal → Int → Int → Heap → Prop
def s12l1_R (F : s12l1_T) (l : List AVal) (h : Heap) : Prop := J.cons l fun x0 l => J.cons l fun x1 l => J.cons l fun x2 l => J.cons l fun x3 l => J.cons l fun x4 l => J.cons l fun x5 l => J.cons l fun v l => J.int .i64 v fun x6 => J.cons l fun v l => J.int .i64 v fun x7 => J.nil l (F x0 x1 x2 x3 x4 x5 x6 x7 h)
def s12l1_G (F : s12l1_T) (x0 x1 x2 x3 x4 x5 : AVal) (x6 x7 : Int) (h : Heap) : Prop := gJ [.any, .any, .any, .any, .any, .any, .int .i64, .int .i64] [x0, x1, x2, x3, x4, x5, (.int .i64 x6), (.int .i64 x7)] h (s12l1_R F)
def s12l1_E (F : Nat → s12l1_T) (x0 x1 x2 x3 x4 x5 : AVal) (x6 x7 : Int) (h : Heap) : Prop := gJ [.any, .any, .any, .any, .any, .any, .int .i64, .int .i64] [x0, x1, x2, x3, x4, x5, (.int .i64 x6), (.int .i64 x7)] h (fun l h => ∃ n, s12l1_R (F n) l h)
theorem s12l1_go {F : s12l1_T} {x0 x1 x2 x3 x4 x5 : AVal} {x6 x7 : Int} {h : Heap} (H : F x0 x1 x2 x3 x4 x5 x6 x7 h) : s12l1_G F x0 x1 x2 x3 x4 x5 x6 x7 h := gJ_plain rfl H
theorem s12l1_in {F : Nat → s12l1_T} {x0 x1 x2 x3 x4 x5 : AVal} {x6 x7 : Int} {h : Heap} (n : Nat) (H : F n x0 x1 x2 x3 x4 x5 x6 x7 h) : s12l1_E F x0 x1 x2 x3 x4 x5 x6 x7 h := gJ_plain rfl ⟨n, H⟩

def s12c2 (Ψ : AVal → Heap → Prop) (L1 : s12l1_T) (m1 t2_1 o1 class_1 out1 t27_1 : AVal) (t28_1 t29_1 : Int) (h : Heap) : Prop :=
  rg (t29_1 + 1) (
    L1 m1 t2_1 o1 class_1 out1 t27_1 t28_1 (t29_1 + 1) h)

abbrev s12l3_T := AVal → AVal → AVal → AVal → AVal → Int → Int → Heap → Prop
def s12l3_R (F : s12l3_T) (l : List AVal) (h : Heap) : Prop := J.cons l fun x0 l => J.cons l fun x1 l => J.cons l fun x2 l => J.cons l fun x3 l => J.cons l fun x4 l => J.cons l fun v l => J.int .i64 v fun x5 => J.cons l fun v l => J.int .i64 v fun x6 => J.nil l (F x0 x1 x2 x3 x4 x5 x6 h)
def s12l3_G (F : s12l3_T) (x0 x1 x2 x3 x4 : AVal) (x5 x6 : Int) (h : Heap) : Prop := gJ [.any, .any, .any, .any, .any, .int .i64, .int .i64] [x0, x1, x2, x3, x4, (.int .i64 x5), (.int .i64 x6)] h (s12l3_R F)
def s12l3_E (F : Nat → s12l3_T) (x0 x1 x2 x3 x4 : AVal) (x5 x6 : Int) (h : Heap) : Prop := gJ [.any, .any, .any, .any, .any, .int .i64, .int .i64] [x0, x1, x2, x3, x4, (.int .i64 x5), (.int .i64 x6)] h (fun l h => ∃ n, s12l3_R (F n) l h)
theorem s12l3_go {F : s12l3_T} {x0 x1 x2 x3 x4 : AVal} {x5 x6 : Int} {h : Heap} (H : F x0 x1 x2 x3 x4 x5 x6 h) : s12l3_G F x0 x1 x2 x3 x4 x5 x6 h := gJ_plain rfl H
theorem s12l3_in {F : Nat → s12l3_T} {x0 x1 x2 x3 x4 : AVal} {x5 x6 : Int} {h : Heap} (n : Nat) (H : F n x0 x1 x2 x3 x4 x5 x6 h) : s12l3_E F x0 x1 x2 x3 x4 x5 x6 h := gJ_plain rfl ⟨n, H⟩

abbrev s12l4_T := AVal → AVal → AVal → AVal → Int → AVal → Int → Int → AVal → Int → Int → Heap → Prop
def s12l4_R (F : s12l4_T) (l : List AVal) (h : Heap) : Prop := J.cons l fun x0 l => J.cons l fun x1 l => J.cons l fun x2 l => J.cons l fun x3 l => J.cons l fun v l => J.int .i64 v fun x4 => J.cons l fun x5 l => J.cons l fun v l => J.int .i64 v fun x6 => J.cons l fun v l => J.int .i64 v fun x7 => J.cons l fun x8 l => J.cons l fun v l => J.int .i64 v fun x9 => J.cons l fun v l => J.int .i64 v fun x10 => J.nil l (F x0 x1 x2 x3 x4 x5 x6 x7 x8 x9 x10 h)
def s12l4_G (F : s12l4_T) (x0 x1 x2 x3 : AVal) (x4 : Int) (x5 : AVal) (x6 x7 : Int) (x8 : AVal) (x9 x10 : Int) (h : Heap) : Prop := gJ [.any, .any, .any, .any, .int .i64, .any, .int .i64, .int .i64, .any, .int .i64, .int .i64] [x0, x1, x2, x3, (.int .i64 x4), x5, (.int .i64 x6), (.int .i64 x7), x8, (.int .i64 x9), (.int .i64 x10)] h (s12l4_R F)
def s12l4_E (F : Nat → s12l4_T) (x0 x1 x2 x3 : AVal) (x4 : Int) (x5 : AVal) (x6 x7 : Int) (x8 : AVal) (x9 x10 : Int) (h : Heap) : Prop := gJ [.any, .any, .any, .any, .int .i64, .any, .int .i64, .int .i64, .any, .int .i64, .int .i64] [x0, x1, x2, x3, (.int .i64 x4), x5, (.int .i64 x6), (.int .i64 x7), x8, (.int .i64 x9), (.int .i64 x10)] h (fun l h => ∃ n, s12l4_R (F n) l h)
theorem s12l4_go {F : s12l4_T} {x0 x1 x2 x3 : AVal} {x4 : Int} {x5 : AVal} {x6 x7 : Int} {x8 : AVal} {x9 x10 : Int} {h : Heap} (H : F x0 x1 x2 x3 x4 x5 x6 x7 x8 x9 x10 h) : s12l4_G F x0 x1 x2 x3 x4 x5 x6 x7 x8 x9 x10 h := gJ_plain rfl H
theorem s12l4_in {F : Nat → s12l4_T} {x0 x1 x2 x3 : AVal} {x4 : Int} {x5 : AVal} {x6 x7 : Int} {x8 : AVal} {x9 x10 : Int} {h : Heap} (n : Nat) (H : F n x0 x1 x2 x3 x4 x5 x6 x7 x8 x9 x10 h) : s12l4_E F x0 x1 x2 x3 x4 x5 x6 x7 x8 x9 x10 h := gJ_plain rfl ⟨n, H⟩

def s12c5 (Ψ : AVal → Heap → Prop) (L3 : s12l3_T) (L4 : s12l4_T) (t2_4 o4 class_4 out4 : AVal) (c1 : Int) (t56_2 : AVal) (t57_2 t58_2 : Int) (t66_1 : AVal) (t67_1 t68_1 : Int) (h : Heap) : Prop :=
  rg (t68_1 + 1) (
    L4 t2_4 o4 class_4 out4 c1 t56_2 t57_2 t58_2 t66_1 t67_1 (t68_1 + 1) h)

def s12l4 (Ψ : AVal → Heap → Prop) (L3 : s12l3_T) : Nat → s12l4_T
  | 0, _, _, _, _, _, _, _, _, _, _, _, _ => False
  | n6 + 1, t2_3, o3, class_3, out3, c, t56_1, t57_1, t58_1, t66, t67, t68, h =>
    ifT (decide (t68 < t67)) (
      ixS 1 t66 t68 fun p10 =>
      ld1 h p10 fun v22 =>
      tInt .i64 v22 fun v23 =>
      ixS 1 class_3 v23 fun p11 =>
      ld1 h p11 fun v24 =>
      tInt .i64 v24 fun v25 =>
      ifT (v25 != c) (
        addOff out3 0 fun p12 =>
        ld1 h p12 fun v26 =>
        addOff out3 0 fun p13 =>
        ld1 h p13 fun v27 =>
        ixS 1 v27 c fun p14 =>
        ld1 h p14 fun v28 =>
        ixS 1 class_3 v23 fun p15 =>
        ld1 h p15 fun v29 =>
        tInt .i64 v29 fun v30 =>
        (ld1 h p14 fun v31 =>
        v31 = v28) ∧
        (ld1 h p13 fun v32 =>
        v32 = v27) ∧
        (ld1 h p12 fun v33 =>
        v33 = v26) ∧
        appC 1 8 h v28 (.lsl 1 [(.int .i64 v30)]) fun v34 h_10 =>
        (ld1 h_10 p12 fun v35 =>
        v35 = v26) ∧
        ixS 1 v26 c fun p16 =>
        chk (sc v34) (
          st true h_10 p16 [v34] fun h_11 =>
          s12c5 Ψ L3 (s12l4_G (s12l4 Ψ L3 n6)) t2_3 o3 class_3 out3 c t56_1 t57_1 t58_1 t66 t67 t68 h_11)) (
        s12c5 Ψ L3 (s12l4_G (s12l4 Ψ L3 n6)) t2_3 o3 class_3 out3 c t56_1 t57_1 t58_1 t66 t67 t68 h)) (
      rg (t58_1 + 1) (
        L3 t2_3 o3 class_3 out3 t56_1 t57_1 (t58_1 + 1) h))

def s12l3 (Ψ : AVal → Heap → Prop) : Nat → s12l3_T
  | 0, _, _, _, _, _, _, _, _ => False
  | n4 + 1, t2_2, o2, class_2, out2, t56, t57, t58, h =>
    ifT (decide (t58 < t57)) (
      ixS 1 t56 t58 fun p8 =>
      ld1 h p8 fun v19 =>
      tInt .i64 v19 fun v20 =>
      ixS 1 o2 t58 fun p9 =>
      ld1 h p9 fun v21 =>
      lenN v21 fun n5 =>
      s12l4_E (s12l4 Ψ (s12l3_G (s12l3 Ψ n4))) t2_2 o2 class_2 out2 v20 t56 t57 t58 v21 n5 0 h) (
      ldN 2 h out2 fun l_6 =>
      tCons l_6 fun v36 l_7 =>
      tCons l_7 fun v37 l_8 =>
      tNil l_8 (
        callG prog 36 [(.agg [v36, v37])] h fun v38 h_12 =>
        tAgg v38 fun l_9 =>
        tCons l_9 fun v39 l_10 =>
        tCons l_10 fun v40 l_11 =>
        tNil l_11 (
          st false h_12 t2_2 [v39, v40] fun h_13 =>
          ldN 2 h_13 t2_2 fun l_12 =>
          tCons l_12 fun v41 l_13 =>
          tCons l_13 fun v42 l_14 =>
          tNil l_14 (
            retG (.tuple [(.agg [v41, v42]), class_2, (.int .i64 0)]) h_13 Ψ))))

def s12l1 (Ψ : AVal → Heap → Prop) : Nat → s12l1_T
  | 0, _, _, _, _, _, _, _, _, _ => False
  | n1 + 1, m, t2, o, class_, out, t27, t28, t29, h =>
    ifT (decide (t29 < t28)) (
      ixS 1 t27 t29 fun p =>
      ld1 h p fun v7 =>
      tInt .i64 v7 fun v8 =>
      addOff out 0 fun p1 =>
      ld1 h p1 fun v9 =>
      lenN v9 fun n2 =>
      ifT (v8 == n2) (
        addOff out 0 fun p2 =>
        ld1 h p2 fun v10 =>
        appC 1 24 h v10 (.lsl 1 [.nilsl]) fun v11 h_5 =>
        addOff out 0 fun p3 =>
        chk (sc v11) (
          st true h_5 p3 [v11] fun h_6 =>
          addOff out 1 fun p4 =>
          ld1 h_6 p4 fun v12 =>
          addOff m 1 fun p5 =>
          ld1 h_6 p5 fun v13 =>
          ixS 1 v13 t29 fun p6 =>
          ld1 h_6 p6 fun v14 =>
          callG prog 35 [v14] h_6 fun v15 h_7 =>
          (ld1 h_7 p4 fun v16 =>
          v16 = v12) ∧
          chk (sc v15) (
            (ld1 h_7 p4 fun v17 =>
            v17 = v12) ∧
            appC 1 24 h_7 v12 (.lsl 1 [v15]) fun v18 h_8 =>
            addOff out 1 fun p7 =>
            chk (sc v18) (
              st true h_8 p7 [v18] fun h_9 =>
              s12c2 Ψ (s12l1_G (s12l1 Ψ n1)) m t2 o class_ out t27 t28 t29 h_9)))) (
        s12c2 Ψ (s12l1_G (s12l1 Ψ n1)) m t2 o class_ out t27 t28 t29 h)) (
      lenN class_ fun n3 =>
      s12l3_E (s12l3 Ψ) t2 o class_ out class_ n3 0 h)

def s12 (Ψ : AVal → Heap → Prop) (m_Up : AVal) (m_Val : AVal) (h : Heap) : Prop :=
  Sym.newRow 2 [(.agg [.nilsl, .nilsl])] h fun r h_ =>
  callG prog 28 [(.agg [m_Up, m_Val])] h_ fun v h_1 =>
  tTup v fun l_ =>
  tCons l_ fun v1 l_1 =>
  tCons l_1 fun v2 l_2 =>
  tInt .i64 v2 fun v3 =>
  tNil l_2 (
    ifT (v3 != 0) (
      st false h_1 (.ptr r 0 0) [.nilsl, .nilsl] fun h_2 =>
      ldN 2 h_2 (.ptr r 0 0) fun l_3 =>
      tCons l_3 fun v4 l_4 =>
      tCons l_4 fun v5 l_5 =>
      tNil l_5 (
        retG (.tuple [(.agg [v4, v5]), .nilsl, (.int .i64 v3)]) h_2 Ψ)) (
      callG prog 34 [(.agg [m_Up, m_Val]), v1] h_1 fun v6 h_3 =>
      Sym.newRow 2 [(.agg [.nilsl, .nilsl])] h_3 fun r1 h_4 =>
      lenN v6 fun n =>
      s12l1_E (s12l1 Ψ) (.lptr [m_Up, m_Val]) (.ptr r 0 0) v1 v6 (.ptr r1 0 0) v6 n 0 h_4))

def s12_A (Ψ : AVal → Heap → Prop) : Ann :=
  .seq (.reg [⟨none, [(0, true), (1, false), (2, false), (3, false)]⟩])
  (.seq (rA 7)
  (.seq (.seq (rA 2)
  (.cond (.seq (rA 5)
  (.leaf))
  (.leaf)))
  (.seq (rA 4)
  (.seq (rA 1)
  (.seq (.seq (rA 3)
  (.block (.loop [(1, .any), (2, .any), (5, .any), (7, .any), (8, .any), (27, .any), (28, .int .i64), (29, .int .i64)] (fun n l h => s12l1_R (s12l1 Ψ n) l h) (fun L1 =>
  .seq (rA 1)
  (.seq (.cond (.leaf)
  (.leaf))
  (.cut [(1, .any), (2, .any), (5, .any), (7, .any), (8, .any), (27, .any), (28, .int .i64), (29, .int .i64)] (fun l h => J.cons l fun x0 l => J.cons l fun x1 l => J.cons l fun x2 l => J.cons l fun x3 l => J.cons l fun x4 l => J.cons l fun x5 l => J.cons l fun v l => J.int .i64 v fun x6 => J.cons l fun v l => J.int .i64 v fun x7 => J.nil l (s12c2 Ψ (fun y0 y1 y2 y3 y4 y5 y6 y7 h => L1 [y0, y1, y2, y3, y4, y5, (.int .i64 y6), (.int .i64 y7)] h) x0 x1 x2 x3 x4 x5 x6 x7 h)) (.block (.seq (rA 5)
  (.seq (rA 5)
  (.cond (.seq (.reg [⟨none, [(0, false), (1, false), (2, true), (3, false), (4, false), (5, false)]⟩])
  (.draw [(0, false), (1, false), (2, false), (3, false), (4, false), (5, false), (6, false), (7, false), (8, true), (9, false), (10, false), (11, false)] [0, 1, 0, 4, 0, 28, 60, 124, 252, 511, 1023, 2047]))
  (.leaf)))))
  (rA 2)))))))
  (.seq (.seq (rA 3)
  (.block (.loop [(2, .any), (5, .any), (7, .any), (8, .any), (56, .any), (57, .int .i64), (58, .int .i64)] (fun n l h => s12l3_R (s12l3 Ψ n) l h) (fun L3 =>
  .seq (rA 1)
  (.seq (.cond (.leaf)
  (.leaf))
  (.seq (.block (.seq (rA 5)
  (.seq (rA 6)
  (.block (.loop [(2, .any), (5, .any), (7, .any), (8, .any), (12, .int .i64), (56, .any), (57, .int .i64), (58, .int .i64), (66, .any), (67, .int .i64), (68, .int .i64)] (fun n l h => s12l4_R (s12l4 Ψ (fun y0 y1 y2 y3 y4 y5 y6 h => L3 [y0, y1, y2, y3, y4, (.int .i64 y5), (.int .i64 y6)] h) n) l h) (fun L4 =>
  .seq (rA 1)
  (.seq (.cond (.leaf)
  (.leaf))
  (.cut [(2, .any), (5, .any), (7, .any), (8, .any), (12, .int .i64), (56, .any), (57, .int .i64), (58, .int .i64), (66, .any), (67, .int .i64), (68, .int .i64)] (fun l h => J.cons l fun x0 l => J.cons l fun x1 l => J.cons l fun x2 l => J.cons l fun x3 l => J.cons l fun v l => J.int .i64 v fun x4 => J.cons l fun x5 l => J.cons l fun v l => J.int .i64 v fun x6 => J.cons l fun v l => J.int .i64 v fun x7 => J.cons l fun x8 l => J.cons l fun v l => J.int .i64 v fun x9 => J.cons l fun v l => J.int .i64 v fun x10 => J.nil l (s12c5 Ψ (fun y0 y1 y2 y3 y4 y5 y6 h => L3 [y0, y1, y2, y3, y4, (.int .i64 y5), (.int .i64 y6)] h) (fun y0 y1 y2 y3 y4 y5 y6 y7 y8 y9 y10 h => L4 [y0, y1, y2, y3, (.int .i64 y4), y5, (.int .i64 y6), (.int .i64 y7), y8, (.int .i64 y9), (.int .i64 y10)] h) x0 x1 x2 x3 x4 x5 x6 x7 x8 x9 x10 h)) (.block (.seq (rA 3)
  (.seq (rA 6)
  (.cond (.draw [(0, false), (1, false), (2, false), (3, false), (4, false), (5, false), (6, false), (7, false), (8, false), (9, false), (10, false), (11, false), (12, true), (13, false), (14, false), (15, false)] [0, 1, 0, 0, 8, 0, 56, 120, 0, 0, 768, 1792, 3840, 8184, 16383, 32767])
  (.leaf)))))
  (rA 2)))))))))
  (rA 2)))))))
  (.seq (rA 6)
  (.leaf))))))))

theorem s12_ok {Ψ : AVal → Heap → Prop} {m_Up : AVal} {m_Val : AVal} {h : Heap} (H : s12 Ψ m_Up m_Val h) : ACalls prog 12 [(.agg [m_Up, m_Val])] h Ψ :=
  calls_of_evF func12 (by kernel_rfl) (by kernel_rfl) (by kernel_rfl)
    (Eq.mpr (by as_aux_lemma => kernel_rfl : oblF prog f12 (s12_A Ψ) Ψ = (True ∧ True ∧ (True ∧ (True ∧ True) ∧ True) ∧ True ∧ True ∧ (True ∧ (∀ (h : Heap) (x0 x1 x2 x3 x4 x5 : AVal) (x6 x7 : Int), ON (s12l1 Ψ 0 x0 x1 x2 x3 x4 x5 x6 x7 h)) ∧ ∀ n1 : Nat, (∀ (h : Heap) (x0 x1 x2 x3 x4 x5 : AVal) (x6 x7 : Int), OI (s12l1 Ψ (n1 + 1) x0 x1 x2 x3 x4 x5 x6 x7 h)) ∧ (True ∧ (True ∧ True) ∧ (True ∧ True ∧ (True ∧ True) ∧ True) ∧ (∀ (h : Heap) (x0 x1 x2 x3 x4 x5 : AVal) (x6 x7 : Int), OI (s12c2 Ψ (s12l1_G (s12l1 Ψ n1)) x0 x1 x2 x3 x4 x5 x6 x7 h)) ∧ (True))) ∧ (True ∧ (∀ (h : Heap) (x0 x1 x2 x3 x4 : AVal) (x5 x6 : Int), ON (s12l3 Ψ 0 x0 x1 x2 x3 x4 x5 x6 h)) ∧ ∀ n3 : Nat, (∀ (h : Heap) (x0 x1 x2 x3 x4 : AVal) (x5 x6 : Int), OI (s12l3 Ψ (n3 + 1) x0 x1 x2 x3 x4 x5 x6 h)) ∧ (True ∧ (True ∧ True) ∧ (True ∧ True ∧ (∀ (h : Heap) (x0 x1 x2 x3 : AVal) (x4 : Int) (x5 : AVal) (x6 x7 : Int) (x8 : AVal) (x9 x10 : Int), ON (s12l4 Ψ (s12l3_G (s12l3 Ψ n3)) 0 x0 x1 x2 x3 x4 x5 x6 x7 x8 x9 x10 h)) ∧ ∀ n4 : Nat, (∀ (h : Heap) (x0 x1 x2 x3 : AVal) (x4 : Int) (x5 : AVal) (x6 x7 : Int) (x8 : AVal) (x9 x10 : Int), OI (s12l4 Ψ (s12l3_G (s12l3 Ψ n3)) (n4 + 1) x0 x1 x2 x3 x4 x5 x6 x7 x8 x9 x10 h)) ∧ (True ∧ (True ∧ True) ∧ (True ∧ True ∧ True ∧ True) ∧ (∀ (h : Heap) (x0 x1 x2 x3 : AVal) (x4 : Int) (x5 : AVal) (x6 x7 : Int) (x8 : AVal) (x9 x10 : Int), OI (s12c5 Ψ (s12l3_G (s12l3 Ψ n3)) (s12l4_G (s12l4 Ψ (s12l3_G (s12l3 Ψ n3)) n4)) x0 x1 x2 x3 x4 x5 x6 x7 x8 x9 x10 h)) ∧ (True))) ∧ True)) ∧ True ∧ True)) ⟨trivial, ⟨trivial, ⟨⟨trivial, ⟨⟨trivial, trivial⟩, trivial⟩⟩, ⟨trivial, ⟨trivial, ⟨⟨trivial, ⟨fun _ _ _ _ _ _ _ _ _ H => H, fun _ => ⟨fun _ _ _ _ _ _ _ _ _ H => H, ⟨trivial, ⟨⟨trivial, trivial⟩, ⟨⟨trivial, ⟨trivial, ⟨⟨trivial, trivial⟩, trivial⟩⟩⟩, fun _ _ _ _ _ _ _ _ _ H => H, trivial⟩⟩⟩⟩⟩⟩, ⟨⟨trivial, ⟨fun _ _ _ _ _ _ _ _ H => H, fun _ => ⟨fun _ _ _ _ _ _ _ _ H => H, ⟨trivial, ⟨⟨trivial, trivial⟩, ⟨⟨trivial, ⟨trivial, ⟨fun _ _ _ _ _ _ _ _ _ _ _ _ H => H, fun _ => ⟨fun _ _ _ _ _ _ _ _ _ _ _ _ H => H, ⟨trivial, ⟨⟨trivial, trivial⟩, ⟨⟨trivial, ⟨trivial, ⟨trivial, trivial⟩⟩⟩, fun _ _ _ _ _ _ _ _ _ _ _ _ H => H, trivial⟩⟩⟩⟩⟩⟩⟩, trivial⟩⟩⟩⟩⟩⟩, ⟨trivial, trivial⟩⟩⟩⟩⟩⟩⟩⟩)
    (Eq.mpr (by as_aux_lemma => kernel_rfl : evF prog f12 (s12_A Ψ) Ψ [(.agg [m_Up, m_Val])] h = s12 Ψ m_Up m_Val h) H)

/- 16 dictum/dictumref03.Ints -/
abbrev s16l1_T := AVal → AVal → Int → Heap → Prop
def s16l1_R (F : s16l1_T) (l : List AVal) (h : Heap) : Prop := J.cons l fun x0 l => J.cons l fun x1 l => J.cons l fun v l => J.int .i64 v fun x2 => J.nil l (F x0 x1 x2 h)
def s16l1_G (F : s16l1_T) (x0 x1 : AVal) (x2 : Int) (h : Heap) : Prop := gJ [.any, .any, .int .i64] [x0, x1, (.int .i64 x2)] h (s16l1_R F)
def s16l1_E (F : Nat → s16l1_T) (x0 x1 : AVal) (x2 : Int) (h : Heap) : Prop := gJ [.any, .any, .int .i64] [x0, x1, (.int .i64 x2)] h (fun l h => ∃ n, s16l1_R (F n) l h)
theorem s16l1_go {F : s16l1_T} {x0 x1 : AVal} {x2 : Int} {h : Heap} (H : F x0 x1 x2 h) : s16l1_G F x0 x1 x2 h := gJ_plain rfl H
theorem s16l1_in {F : Nat → s16l1_T} {x0 x1 : AVal} {x2 : Int} {h : Heap} (n : Nat) (H : F n x0 x1 x2 h) : s16l1_E F x0 x1 x2 h := gJ_plain rfl ⟨n, H⟩

def s16l1 (Ψ : AVal → Heap → Prop) : Nat → s16l1_T
  | 0, _, _, _, _ => False
  | n2 + 1, a1, b1, i, h =>
    lenN a1 fun n3 =>
    ifT (decide (i < n3)) (
      ixS 1 a1 i fun p =>
      ld1 h p fun v =>
      tInt .i64 v fun v1 =>
      ixS 1 b1 i fun p1 =>
      ld1 h p1 fun v2 =>
      tInt .i64 v2 fun v3 =>
      ifT (v1 != v3) (
        retG (.bool false) h Ψ) (
        rg (i + 1) (
          s16l1_G (s16l1 Ψ n2) a1 b1 (i + 1) h))) (
      retG (.bool true) h Ψ)

def s16 (Ψ : AVal → Heap → Prop) (a : AVal) (b : AVal) (h : Heap) : Prop :=
  lenN a fun n =>
  lenN b fun n1 =>
  ifT (n != n1) (
    retG (.bool false) h Ψ) (
    s16l1_E (s16l1 Ψ) a b 0 h)

def s16_A (Ψ : AVal → Heap → Prop) : Ann :=
  .seq (rA 1)
  (.seq (.seq (rA 5)
  (.cond (.seq (rA 1)
  (.leaf))
  (.leaf)))
  (.seq (.seq (rA 1)
  (.block (.loop [(0, .any), (1, .any), (5, .int .i64)] (fun n l h => s16l1_R (s16l1 Ψ n) l h) (fun L1 =>
  .seq (.seq (rA 4)
  (.cond (.leaf)
  (.leaf)))
  (.seq (.block (.seq (.draw [(0, false), (1, false), (2, false), (3, false), (4, false), (5, false), (6, false), (7, false), (8, false)] [0, 0, 3, 7, 0, 0, 48, 112, 255])
  (.cond (.seq (rA 1)
  (.leaf))
  (.leaf))))
  (rA 3))))))
  (.seq (rA 1)
  (.leaf))))

theorem s16_ok {Ψ : AVal → Heap → Prop} {a : AVal} {b : AVal} {h : Heap} (H : s16 Ψ a b h) : ACalls prog 16 [a, b] h Ψ :=
  calls_of_evF func16 (by kernel_rfl) (by kernel_rfl) (by kernel_rfl)
    (Eq.mpr (by as_aux_lemma => kernel_rfl : oblF prog f16 (s16_A Ψ) Ψ = (True ∧ (True ∧ (True ∧ True) ∧ True) ∧ (True ∧ (∀ (h : Heap) (x0 x1 : AVal) (x2 : Int), ON (s16l1 Ψ 0 x0 x1 x2 h)) ∧ ∀ n1 : Nat, (∀ (h : Heap) (x0 x1 : AVal) (x2 : Int), OI (s16l1 Ψ (n1 + 1) x0 x1 x2 h)) ∧ ((True ∧ True ∧ True) ∧ (True ∧ (True ∧ True) ∧ True) ∧ True)) ∧ True ∧ True)) ⟨trivial, ⟨⟨trivial, ⟨⟨trivial, trivial⟩, trivial⟩⟩, ⟨⟨trivial, ⟨fun _ _ _ _ H => H, fun _ => ⟨fun _ _ _ _ H => H, ⟨⟨trivial, ⟨trivial, trivial⟩⟩, ⟨⟨trivial, ⟨⟨trivial, trivial⟩, trivial⟩⟩, trivial⟩⟩⟩⟩⟩, ⟨trivial, trivial⟩⟩⟩⟩)
    (Eq.mpr (by as_aux_lemma => kernel_rfl : evF prog f16 (s16_A Ψ) Ψ [a, b] h = s16 Ψ a b h) H)

/- 19 dictum/dictumref17.Same -/
abbrev s19l2_T := AVal → AVal → Int → Heap → Prop
def s19l2_R (F : s19l2_T) (l : List AVal) (h : Heap) : Prop := J.cons l fun x0 l => J.cons l fun x1 l => J.cons l fun v l => J.int .i64 v fun x2 => J.nil l (F x0 x1 x2 h)
def s19l2_G (F : s19l2_T) (x0 x1 : AVal) (x2 : Int) (h : Heap) : Prop := gJ [.any, .any, .int .i64] [x0, x1, (.int .i64 x2)] h (s19l2_R F)
def s19l2_E (F : Nat → s19l2_T) (x0 x1 : AVal) (x2 : Int) (h : Heap) : Prop := gJ [.any, .any, .int .i64] [x0, x1, (.int .i64 x2)] h (fun l h => ∃ n, s19l2_R (F n) l h)
theorem s19l2_go {F : s19l2_T} {x0 x1 : AVal} {x2 : Int} {h : Heap} (H : F x0 x1 x2 h) : s19l2_G F x0 x1 x2 h := gJ_plain rfl H
theorem s19l2_in {F : Nat → s19l2_T} {x0 x1 : AVal} {x2 : Int} {h : Heap} (n : Nat) (H : F n x0 x1 x2 h) : s19l2_E F x0 x1 x2 h := gJ_plain rfl ⟨n, H⟩

abbrev s19l3_T := AVal → AVal → Int → Heap → Prop
def s19l3_R (F : s19l3_T) (l : List AVal) (h : Heap) : Prop := J.cons l fun x0 l => J.cons l fun x1 l => J.cons l fun v l => J.int .i64 v fun x2 => J.nil l (F x0 x1 x2 h)
def s19l3_G (F : s19l3_T) (x0 x1 : AVal) (x2 : Int) (h : Heap) : Prop := gJ [.any, .any, .int .i64] [x0, x1, (.int .i64 x2)] h (s19l3_R F)
def s19l3_E (F : Nat → s19l3_T) (x0 x1 : AVal) (x2 : Int) (h : Heap) : Prop := gJ [.any, .any, .int .i64] [x0, x1, (.int .i64 x2)] h (fun l h => ∃ n, s19l3_R (F n) l h)
theorem s19l3_go {F : s19l3_T} {x0 x1 : AVal} {x2 : Int} {h : Heap} (H : F x0 x1 x2 h) : s19l3_G F x0 x1 x2 h := gJ_plain rfl H
theorem s19l3_in {F : Nat → s19l3_T} {x0 x1 : AVal} {x2 : Int} {h : Heap} (n : Nat) (H : F n x0 x1 x2 h) : s19l3_E F x0 x1 x2 h := gJ_plain rfl ⟨n, H⟩

def s19l3 (Ψ : AVal → Heap → Prop) : Nat → s19l3_T
  | 0, _, _, _, _ => False
  | n2 + 1, a2, b2, i1, h =>
    addOff a2 1 fun p5 =>
    ld1 h p5 fun v7 =>
    lenN v7 fun n3 =>
    ifT (decide (i1 < n3)) (
      addOff a2 1 fun p6 =>
      ld1 h p6 fun v8 =>
      ixS 1 v8 i1 fun p7 =>
      ld1 h p7 fun v9 =>
      addOff b2 1 fun p8 =>
      ld1 h p8 fun v10 =>
      ixS 1 v10 i1 fun p9 =>
      ld1 h p9 fun v11 =>
      callG prog 23 [v9, v11] h fun v12 h_1 =>
      tBool v12 fun v13 =>
      ifT (!v13) (
        retG (.bool false) h_1 Ψ) (
        rg (i1 + 1) (
          s19l3_G (s19l3 Ψ n2) a2 b2 (i1 + 1) h_1))) (
      retG (.bool true) h Ψ)

def s19l2 (Ψ : AVal → Heap → Prop) : Nat → s19l2_T
  | 0, _, _, _, _ => False
  | n + 1, a1, b1, i, h =>
    addOff a1 0 fun p =>
    ld1 h p fun v =>
    lenN v fun n1 =>
    ifT (decide (i < n1)) (
      addOff a1 0 fun p1 =>
      ld1 h p1 fun v1 =>
      ixS 1 v1 i fun p2 =>
      ld1 h p2 fun v2 =>
      addOff b1 0 fun p3 =>
      ld1 h p3 fun v3 =>
      ixS 1 v3 i fun p4 =>
      ld1 h p4 fun v4 =>
      callG prog 16 [v2, v4] h fun v5 h_ =>
      tBool v5 fun v6 =>
      ifT (!v6) (
        retG (.bool false) h_ Ψ) (
        rg (i + 1) (
          s19l2_G (s19l2 Ψ n) a1 b1 (i + 1) h_))) (
      s19l3_E (s19l3 Ψ) a1 b1 0 h)

def s19c1 (Ψ : AVal → Heap → Prop) (a b : AVal) (t22 : Bool) (h : Heap) : Prop :=
  ifT t22 (
    retG (.bool false) h Ψ) (
    s19l2_E (s19l2 Ψ) a b 0 h)

def s19 (Ψ : AVal → Heap → Prop) (a_Up : AVal) (a_Val : AVal) (b_Up : AVal) (b_Val : AVal) (h : Heap) : Prop :=
  lenN a_Up fun n6 =>
  lenN b_Up fun n7 =>
  ifT (n6 != n7) (
    s19c1 Ψ (.lptr [a_Up, a_Val]) (.lptr [b_Up, b_Val]) true h) (
    lenN a_Val fun n8 =>
    lenN b_Val fun n9 =>
    s19c1 Ψ (.lptr [a_Up, a_Val]) (.lptr [b_Up, b_Val]) (n8 != n9) h)

def s19_A (Ψ : AVal → Heap → Prop) : Ann :=
  .seq (.reg [⟨none, [(0, true), (1, true), (2, false)]⟩])
  (.seq (.cut [(2, .any), (3, .any), (22, .bool)] (fun l h => J.cons l fun x0 l => J.cons l fun x1 l => J.cons l fun v l => J.bool v fun x2 => J.nil l (s19c1 Ψ x0 x1 x2 h)) (.reg [⟨none, [(0, false), (1, false), (2, false), (3, false), (4, false), (5, false), (6, false), (7, false)]⟩, ⟨some (14, false), [(8, false), (9, false), (10, false), (11, false), (12, false), (13, false), (14, false)]⟩, ⟨none, [(15, false)]⟩])
  (.cond (.seq (rA 1)
  (.leaf))
  (.leaf)))
  (.seq (.seq (rA 1)
  (.block (.loop [(2, .any), (3, .any), (5, .int .i64)] (fun n l h => s19l2_R (s19l2 Ψ n) l h) (fun L2 =>
  .seq (.seq (rA 5)
  (.cond (.leaf)
  (.leaf)))
  (.seq (.block (.seq (.draw [(0, false), (1, false), (2, false), (3, false), (4, false), (5, false), (6, false), (7, false), (8, false), (9, false), (10, false), (11, false)] [0, 1, 0, 7, 15, 0, 32, 0, 224, 480, 1023, 2047])
  (.cond (.seq (rA 1)
  (.leaf))
  (.leaf))))
  (rA 3))))))
  (.seq (.seq (rA 1)
  (.block (.loop [(2, .any), (3, .any), (6, .int .i64)] (fun n l h => s19l3_R (s19l3 Ψ n) l h) (fun L3 =>
  .seq (.seq (rA 5)
  (.cond (.leaf)
  (.leaf)))
  (.seq (.block (.seq (.draw [(0, false), (1, false), (2, false), (3, false), (4, false), (5, false), (6, false), (7, false), (8, false), (9, false), (10, false), (11, false)] [0, 1, 0, 7, 15, 0, 32, 0, 224, 480, 1023, 2047])
  (.cond (.seq (rA 1)
  (.leaf))
  (.leaf))))
  (rA 3))))))
  (.seq (rA 1)
  (.leaf)))))

theorem s19_ok {Ψ : AVal → Heap → Prop} {a_Up : AVal} {a_Val : AVal} {b_Up : AVal} {b_Val : AVal} {h : Heap} (H : s19 Ψ a_Up a_Val b_Up b_Val h) : ACalls prog 19 [(.agg [a_Up, a_Val]), (.agg [b_Up, b_Val])] h Ψ :=
  calls_of_evF func19 (by kernel_rfl) (by kernel_rfl) (by kernel_rfl)
    (Eq.mpr (by as_aux_lemma => kernel_rfl : oblF prog f19 (s19_A Ψ) Ψ = (True ∧ ((True) ∧ (∀ (h : Heap) (x0 x1 : AVal) (x2 : Bool), OI (s19c1 Ψ x0 x1 x2 h)) ∧ ((True ∧ True) ∧ True)) ∧ (True ∧ (∀ (h : Heap) (x0 x1 : AVal) (x2 : Int), ON (s19l2 Ψ 0 x0 x1 x2 h)) ∧ ∀ n2 : Nat, (∀ (h : Heap) (x0 x1 : AVal) (x2 : Int), OI (s19l2 Ψ (n2 + 1) x0 x1 x2 h)) ∧ ((True ∧ True ∧ True) ∧ (True ∧ (True ∧ True) ∧ True) ∧ True)) ∧ (True ∧ (∀ (h : Heap) (x0 x1 : AVal) (x2 : Int), ON (s19l3 Ψ 0 x0 x1 x2 h)) ∧ ∀ n3 : Nat, (∀ (h : Heap) (x0 x1 : AVal) (x2 : Int), OI (s19l3 Ψ (n3 + 1) x0 x1 x2 h)) ∧ ((True ∧ True ∧ True) ∧ (True ∧ (True ∧ True) ∧ True) ∧ True)) ∧ True ∧ True)) ⟨trivial, ⟨⟨trivial, fun _ _ _ _ H => H, ⟨⟨trivial, trivial⟩, trivial⟩⟩, ⟨⟨trivial, ⟨fun _ _ _ _ H => H, fun _ => ⟨fun _ _ _ _ H => H, ⟨⟨trivial, ⟨trivial, trivial⟩⟩, ⟨⟨trivial, ⟨⟨trivial, trivial⟩, trivial⟩⟩, trivial⟩⟩⟩⟩⟩, ⟨⟨trivial, ⟨fun _ _ _ _ H => H, fun _ => ⟨fun _ _ _ _ H => H, ⟨⟨trivial, ⟨trivial, trivial⟩⟩, ⟨⟨trivial, ⟨⟨trivial, trivial⟩, trivial⟩⟩, trivial⟩⟩⟩⟩⟩, ⟨trivial, trivial⟩⟩⟩⟩⟩)
    (Eq.mpr (by as_aux_lemma => kernel_rfl : evF prog f19 (s19_A Ψ) Ψ [(.agg [a_Up, a_Val]), (.agg [b_Up, b_Val])] h = s19 Ψ a_Up a_Val b_Up b_Val h) H)

/- 24 dictum/dictumlaw19.rowsOf -/
def s24 (Ψ : AVal → Heap → Prop) (rows : AVal) (h : Heap) : Prop :=
  callG prog 50 [rows] h fun v h_ =>
  tTup v fun l_ =>
  tCons l_ fun v1 l_1 =>
  tCons l_1 fun v2 l_2 =>
  tInt .i64 v2 fun v3 =>
  tNil l_2 (
    ifT (v3 != 0) (
      retG .nilsl h_ Ψ) (
      nilCheckA v1 fun p =>
      addOff p 0 fun p1 =>
      ld1 h_ p1 fun v4 =>
      retG v4 h_ Ψ))

def s24_A (Ψ : AVal → Heap → Prop) : Ann :=
  .seq (rA 1)
  (.seq (rA 7)
  (.seq (.seq (rA 2)
  (.cond (.seq (rA 1)
  (.leaf))
  (.leaf)))
  (.seq (rA 5)
  (.leaf))))

theorem s24_ok {Ψ : AVal → Heap → Prop} {rows : AVal} {h : Heap} (H : s24 Ψ rows h) : ACalls prog 24 [rows] h Ψ :=
  calls_of_evF func24 (by kernel_rfl) (by kernel_rfl) (by kernel_rfl)
    (Eq.mpr (by as_aux_lemma => kernel_rfl : oblF prog f24 (s24_A Ψ) Ψ = (True ∧ True ∧ (True ∧ (True ∧ True) ∧ True) ∧ True ∧ True)) ⟨trivial, ⟨trivial, ⟨⟨trivial, ⟨⟨trivial, trivial⟩, trivial⟩⟩, ⟨trivial, trivial⟩⟩⟩⟩)
    (Eq.mpr (by as_aux_lemma => kernel_rfl : evF prog f24 (s24_A Ψ) Ψ [rows] h = s24 Ψ rows h) H)

/- 26 dictum/dictumlaw19.keeps -/
abbrev s26l2_T := AVal → AVal → AVal → AVal → AVal → AVal → Int → Heap → Prop
def s26l2_R (F : s26l2_T) (l : List AVal) (h : Heap) : Prop := J.cons l fun x0 l => J.cons l fun x1 l => J.cons l fun x2 l => J.cons l fun x3 l => J.cons l fun x4 l => J.cons l fun x5 l => J.cons l fun v l => J.int .i64 v fun x6 => J.nil l (F x0 x1 x2 x3 x4 x5 x6 h)
def s26l2_G (F : s26l2_T) (x0 x1 x2 x3 x4 x5 : AVal) (x6 : Int) (h : Heap) : Prop := gJ [.any, .any, .any, .any, .any, .any, .int .i64] [x0, x1, x2, x3, x4, x5, (.int .i64 x6)] h (s26l2_R F)
def s26l2_E (F : Nat → s26l2_T) (x0 x1 x2 x3 x4 x5 : AVal) (x6 : Int) (h : Heap) : Prop := gJ [.any, .any, .any, .any, .any, .any, .int .i64] [x0, x1, x2, x3, x4, x5, (.int .i64 x6)] h (fun l h => ∃ n, s26l2_R (F n) l h)
theorem s26l2_go {F : s26l2_T} {x0 x1 x2 x3 x4 x5 : AVal} {x6 : Int} {h : Heap} (H : F x0 x1 x2 x3 x4 x5 x6 h) : s26l2_G F x0 x1 x2 x3 x4 x5 x6 h := gJ_plain rfl H
theorem s26l2_in {F : Nat → s26l2_T} {x0 x1 x2 x3 x4 x5 : AVal} {x6 : Int} {h : Heap} (n : Nat) (H : F n x0 x1 x2 x3 x4 x5 x6 h) : s26l2_E F x0 x1 x2 x3 x4 x5 x6 h := gJ_plain rfl ⟨n, H⟩

abbrev s26l3_T := AVal → AVal → AVal → AVal → AVal → AVal → Int → Int → Heap → Prop
def s26l3_R (F : s26l3_T) (l : List AVal) (h : Heap) : Prop := J.cons l fun x0 l => J.cons l fun x1 l => J.cons l fun x2 l => J.cons l fun x3 l => J.cons l fun x4 l => J.cons l fun x5 l => J.cons l fun v l => J.int .i64 v fun x6 => J.cons l fun v l => J.int .i64 v fun x7 => J.nil l (F x0 x1 x2 x3 x4 x5 x6 x7 h)
def s26l3_G (F : s26l3_T) (x0 x1 x2 x3 x4 x5 : AVal) (x6 x7 : Int) (h : Heap) : Prop := gJ [.any, .any, .any, .any, .any, .any, .int .i64, .int .i64] [x0, x1, x2, x3, x4, x5, (.int .i64 x6), (.int .i64 x7)] h (s26l3_R F)
def s26l3_E (F : Nat → s26l3_T) (x0 x1 x2 x3 x4 x5 : AVal) (x6 x7 : Int) (h : Heap) : Prop := gJ [.any, .any, .any, .any, .any, .any, .int .i64, .int .i64] [x0, x1, x2, x3, x4, x5, (.int .i64 x6), (.int .i64 x7)] h (fun l h => ∃ n, s26l3_R (F n) l h)
theorem s26l3_go {F : s26l3_T} {x0 x1 x2 x3 x4 x5 : AVal} {x6 x7 : Int} {h : Heap} (H : F x0 x1 x2 x3 x4 x5 x6 x7 h) : s26l3_G F x0 x1 x2 x3 x4 x5 x6 x7 h := gJ_plain rfl H
theorem s26l3_in {F : Nat → s26l3_T} {x0 x1 x2 x3 x4 x5 : AVal} {x6 x7 : Int} {h : Heap} (n : Nat) (H : F n x0 x1 x2 x3 x4 x5 x6 x7 h) : s26l3_E F x0 x1 x2 x3 x4 x5 x6 x7 h := gJ_plain rfl ⟨n, H⟩

def s26c4 (Ψ : AVal → Heap → Prop) (L2 : s26l2_T) (L3 : s26l3_T) (f4 rows4 o3 p3 a2 b2 : AVal) (i2 w1 : Int) (t93 : Bool) (h : Heap) : Prop :=
  ifT t93 (
    retG (.bool false) h Ψ) (
    rg (w1 + 1) (
      L3 f4 rows4 o3 p3 a2 b2 i2 (w1 + 1) h))

def s26l3 (Ψ : AVal → Heap → Prop) (L2 : s26l2_T) : Nat → s26l3_T
  | 0, _, _, _, _, _, _, _, _, _ => False
  | n3 + 1, f3, rows3, o2, p2, a1, b1, i1, w, h =>
    lenN o2 fun n4 =>
    ifT (decide (w < n4)) (
      ixS 1 f3 w fun p4 =>
      ld1 h p4 fun v14 =>
      tInt .i64 v14 fun v15 =>
      ifT (decide (v15 < 0)) (
        s26c4 Ψ L2 (s26l3_G (s26l3 Ψ L2 n3)) f3 rows3 o2 p2 a1 b1 i1 w true h) (
        ixS 1 f3 w fun p5 =>
        ld1 h p5 fun v16 =>
        tInt .i64 v16 fun v17 =>
        lenN p2 fun n5 =>
        ifT (decide (n5 ≤ v17)) (
          s26c4 Ψ L2 (s26l3_G (s26l3 Ψ L2 n3)) f3 rows3 o2 p2 a1 b1 i1 w true h) (
          ixS 1 a1 i1 fun p6 =>
          ld1 h p6 fun v18 =>
          ixS 1 v18 w fun p7 =>
          ld1 h p7 fun v19 =>
          tBool v19 fun v20 =>
          ixS 1 b1 i1 fun p8 =>
          ld1 h p8 fun v21 =>
          ixS 1 f3 w fun p9 =>
          ld1 h p9 fun v22 =>
          tInt .i64 v22 fun v23 =>
          ixS 1 v21 v23 fun p10 =>
          ld1 h p10 fun v24 =>
          tBool v24 fun v25 =>
          eqQ prog 4 (.bool v20) (.bool v25) fun b3 =>
          s26c4 Ψ L2 (s26l3_G (s26l3 Ψ L2 n3)) f3 rows3 o2 p2 a1 b1 i1 w (!b3) h))) (
      rg (i1 + 1) (
        L2 f3 rows3 o2 p2 a1 b1 (i1 + 1) h))

def s26l2 (Ψ : AVal → Heap → Prop) : Nat → s26l2_T
  | 0, _, _, _, _, _, _, _, _ => False
  | n1 + 1, f2, rows2, o1, p1, a, b, i, h =>
    lenN rows2 fun n2 =>
    ifT (decide (i < n2)) (
      s26l3_E (s26l3 Ψ (s26l2_G (s26l2 Ψ n1))) f2 rows2 o1 p1 a b i 0 h) (
      retG (.bool true) h Ψ)

def s26c1 (Ψ : AVal → Heap → Prop) (f1 rows1 m n o p : AVal) (t39 : Bool) (h : Heap) : Prop :=
  ifT t39 (
    retG (.bool false) h Ψ) (
    ldN 2 h m fun l_6 =>
    tCons l_6 fun v8 l_7 =>
    tCons l_7 fun v9 l_8 =>
    tNil l_8 (
      callG prog 56 [(.agg [v8, v9]), o, rows1] h fun v10 h_2 =>
      ldN 2 h_2 n fun l_9 =>
      tCons l_9 fun v11 l_10 =>
      tCons l_10 fun v12 l_11 =>
      tNil l_11 (
        callG prog 56 [(.agg [v11, v12]), p, rows1] h_2 fun v13 h_3 =>
        s26l2_E (s26l2 Ψ) f1 rows1 o p v10 v13 0 h_3)))

def s26 (Ψ : AVal → Heap → Prop) (m_Up : AVal) (m_Val : AVal) (n_Up : AVal) (n_Val : AVal) (f : AVal) (rows : AVal) (h : Heap) : Prop :=
  callG prog 31 [(.agg [m_Up, m_Val])] h fun v h_ =>
  tTup v fun l_ =>
  tCons l_ fun v1 l_1 =>
  tCons l_1 fun v2 l_2 =>
  tBool v2 fun v3 =>
  tNil l_2 (
    callG prog 31 [(.agg [n_Up, n_Val])] h_ fun v4 h_1 =>
    tTup v4 fun l_3 =>
    tCons l_3 fun v5 l_4 =>
    tCons l_4 fun v6 l_5 =>
    tBool v6 fun v7 =>
    tNil l_5 (
      ifT (!v3) (
        s26c1 Ψ f rows (.lptr [m_Up, m_Val]) (.lptr [n_Up, n_Val]) v1 v5 true h_1) (
        ifT (!v7) (
          s26c1 Ψ f rows (.lptr [m_Up, m_Val]) (.lptr [n_Up, n_Val]) v1 v5 true h_1) (
          lenN f fun n8 =>
          lenN v1 fun n9 =>
          s26c1 Ψ f rows (.lptr [m_Up, m_Val]) (.lptr [n_Up, n_Val]) v1 v5 (n8 != n9) h_1))))

def s26_A (Ψ : AVal → Heap → Prop) : Ann :=
  .seq (.reg [⟨none, [(0, true), (1, true), (2, false)]⟩])
  (.seq (rA 7)
  (.seq (rA 7)
  (.seq (.cut [(2, .any), (3, .any), (4, .any), (5, .any), (9, .any), (11, .any), (39, .bool)] (fun l h => J.cons l fun x0 l => J.cons l fun x1 l => J.cons l fun x2 l => J.cons l fun x3 l => J.cons l fun x4 l => J.cons l fun x5 l => J.cons l fun v l => J.bool v fun x6 => J.nil l (s26c1 Ψ x0 x1 x2 x3 x4 x5 x6 h)) (.reg [⟨none, [(0, false), (1, false), (2, false)]⟩, ⟨some (29, false), [(3, false), (4, false)]⟩, ⟨none, [(5, false), (6, false)]⟩, ⟨some (33, false), [(7, false), (8, false), (9, false), (10, false), (11, false)]⟩, ⟨none, [(12, false)]⟩])
  (.cond (.seq (rA 1)
  (.leaf))
  (.leaf)))
  (.seq (rA 5)
  (.seq (rA 5)
  (.seq (.seq (rA 1)
  (.block (.loop [(2, .any), (3, .any), (9, .any), (11, .any), (13, .any), (14, .any), (15, .int .i64)] (fun n l h => s26l2_R (s26l2 Ψ n) l h) (fun L2 =>
  .seq (.seq (rA 4)
  (.cond (.leaf)
  (.leaf)))
  (.seq (.block (.seq (rA 1)
  (.block (.loop [(2, .any), (3, .any), (9, .any), (11, .any), (13, .any), (14, .any), (15, .int .i64), (16, .int .i64)] (fun n l h => s26l3_R (s26l3 Ψ (fun y0 y1 y2 y3 y4 y5 y6 h => L2 [y0, y1, y2, y3, y4, y5, (.int .i64 y6)] h) n) l h) (fun L3 =>
  .seq (.seq (rA 4)
  (.cond (.leaf)
  (.leaf)))
  (.seq (.block (.cut [(2, .any), (3, .any), (9, .any), (11, .any), (13, .any), (14, .any), (15, .int .i64), (16, .int .i64), (93, .bool)] (fun l h => J.cons l fun x0 l => J.cons l fun x1 l => J.cons l fun x2 l => J.cons l fun x3 l => J.cons l fun x4 l => J.cons l fun x5 l => J.cons l fun v l => J.int .i64 v fun x6 => J.cons l fun v l => J.int .i64 v fun x7 => J.cons l fun v l => J.bool v fun x8 => J.nil l (s26c4 Ψ (fun y0 y1 y2 y3 y4 y5 y6 h => L2 [y0, y1, y2, y3, y4, y5, (.int .i64 y6)] h) (fun y0 y1 y2 y3 y4 y5 y6 y7 h => L3 [y0, y1, y2, y3, y4, y5, (.int .i64 y6), (.int .i64 y7)] h) x0 x1 x2 x3 x4 x5 x6 x7 x8 h)) (.draw [(0, false), (1, false), (2, false), (3, false), (4, false), (5, false), (6, false), (7, false), (8, false), (9, false), (10, false), (11, false), (12, false), (13, false), (14, false), (15, false), (16, false), (17, false), (18, false), (19, false), (20, false), (21, false), (22, false), (23, false), (24, false), (25, false), (26, false), (27, false), (28, false), (29, false), (30, false), (31, false), (32, false), (33, false)] [0, 0, 3, 7, 15, 31, 63, 63, 255, 511, 63, 1087, 4095, 8191, 16383, 32767, 32767, 131071, 262143, 32767, 1048575, 2097151, 32767, 32767, 12615679, 29392895, 32767, 32767, 201359359, 469794815, 1069580287, 2143322111, 4294967295, 8589934591])
  (.cond (.seq (rA 1)
  (.leaf))
  (.leaf))))
  (rA 3)))))))
  (rA 3))))))
  (.seq (rA 1)
  (.leaf))))))))

theorem s26_ok {Ψ : AVal → Heap → Prop} {m_Up : AVal} {m_Val : AVal} {n_Up : AVal} {n_Val : AVal} {f : AVal} {rows : AVal} {h : Heap} (H : s26 Ψ m_Up m_Val n_Up n_Val f rows h) : ACalls prog 26 [(.agg [m_Up, m_Val]), (.agg [n_Up, n_Val]), f, rows] h Ψ :=
  calls_of_evF func26 (by kernel_rfl) (by kernel_rfl) (by kernel_rfl)
    (Eq.mpr (by as_aux_lemma => kernel_rfl : oblF prog f26 (s26_A Ψ) Ψ = (True ∧ True ∧ True ∧ ((True) ∧ (∀ (h : Heap) (x0 x1 x2 x3 x4 x5 : AVal) (x6 : Bool), OI (s26c1 Ψ x0 x1 x2 x3 x4 x5 x6 h)) ∧ ((True ∧ True) ∧ True)) ∧ True ∧ True ∧ (True ∧ (∀ (h : Heap) (x0 x1 x2 x3 x4 x5 : AVal) (x6 : Int), ON (s26l2 Ψ 0 x0 x1 x2 x3 x4 x5 x6 h)) ∧ ∀ n2 : Nat, (∀ (h : Heap) (x0 x1 x2 x3 x4 x5 : AVal) (x6 : Int), OI (s26l2 Ψ (n2 + 1) x0 x1 x2 x3 x4 x5 x6 h)) ∧ ((True ∧ True ∧ True) ∧ (True ∧ (∀ (h : Heap) (x0 x1 x2 x3 x4 x5 : AVal) (x6 x7 : Int), ON (s26l3 Ψ (s26l2_G (s26l2 Ψ n2)) 0 x0 x1 x2 x3 x4 x5 x6 x7 h)) ∧ ∀ n3 : Nat, (∀ (h : Heap) (x0 x1 x2 x3 x4 x5 : AVal) (x6 x7 : Int), OI (s26l3 Ψ (s26l2_G (s26l2 Ψ n2)) (n3 + 1) x0 x1 x2 x3 x4 x5 x6 x7 h)) ∧ ((True ∧ True ∧ True) ∧ ((True) ∧ (∀ (h : Heap) (x0 x1 x2 x3 x4 x5 : AVal) (x6 x7 : Int) (x8 : Bool), OI (s26c4 Ψ (s26l2_G (s26l2 Ψ n2)) (s26l3_G (s26l3 Ψ (s26l2_G (s26l2 Ψ n2)) n3)) x0 x1 x2 x3 x4 x5 x6 x7 x8 h)) ∧ ((True ∧ True) ∧ True)) ∧ True)) ∧ True)) ∧ True ∧ True)) ⟨trivial, ⟨trivial, ⟨trivial, ⟨⟨trivial, fun _ _ _ _ _ _ _ _ H => H, ⟨⟨trivial, trivial⟩, trivial⟩⟩, ⟨trivial, ⟨trivial, ⟨⟨trivial, ⟨fun _ _ _ _ _ _ _ _ H => H, fun _ => ⟨fun _ _ _ _ _ _ _ _ H => H, ⟨⟨trivial, ⟨trivial, trivial⟩⟩, ⟨⟨trivial, ⟨fun _ _ _ _ _ _ _ _ _ H => H, fun _ => ⟨fun _ _ _ _ _ _ _ _ _ H => H, ⟨⟨trivial, ⟨trivial, trivial⟩⟩, ⟨⟨trivial, fun _ _ _ _ _ _ _ _ _ _ H => H, ⟨⟨trivial, trivial⟩, trivial⟩⟩, trivial⟩⟩⟩⟩⟩, trivial⟩⟩⟩⟩⟩, ⟨trivial, trivial⟩⟩⟩⟩⟩⟩⟩⟩)
    (Eq.mpr (by as_aux_lemma => kernel_rfl : evF prog f26 (s26_A Ψ) Ψ [(.agg [m_Up, m_Val]), (.agg [n_Up, n_Val]), f, rows] h = s26 Ψ m_Up m_Val n_Up n_Val f rows h) H)

/- 28 dictum/morph.reckon -/
abbrev s28l1_T := AVal → AVal → Int → Int → Heap → Prop
def s28l1_R (F : s28l1_T) (l : List AVal) (h : Heap) : Prop := J.cons l fun x0 l => J.cons l fun x1 l => J.cons l fun v l => J.int .i64 v fun x2 => J.cons l fun v l => J.int .i64 v fun x3 => J.nil l (F x0 x1 x2 x3 h)
def s28l1_G (F : s28l1_T) (x0 x1 : AVal) (x2 x3 : Int) (h : Heap) : Prop := gJ [.any, .any, .int .i64, .int .i64] [x0, x1, (.int .i64 x2), (.int .i64 x3)] h (s28l1_R F)
def s28l1_E (F : Nat → s28l1_T) (x0 x1 : AVal) (x2 x3 : Int) (h : Heap) : Prop := gJ [.any, .any, .int .i64, .int .i64] [x0, x1, (.int .i64 x2), (.int .i64 x3)] h (fun l h => ∃ n, s28l1_R (F n) l h)
theorem s28l1_go {F : s28l1_T} {x0 x1 : AVal} {x2 x3 : Int} {h : Heap} (H : F x0 x1 x2 x3 h) : s28l1_G F x0 x1 x2 x3 h := gJ_plain rfl H
theorem s28l1_in {F : Nat → s28l1_T} {x0 x1 : AVal} {x2 x3 : Int} {h : Heap} (n : Nat) (H : F n x0 x1 x2 x3 h) : s28l1_E F x0 x1 x2 x3 h := gJ_plain rfl ⟨n, H⟩

abbrev s28l2_T := AVal → AVal → Int → AVal → Int → Int → Int → Int → Heap → Prop
def s28l2_R (F : s28l2_T) (l : List AVal) (h : Heap) : Prop := J.cons l fun x0 l => J.cons l fun x1 l => J.cons l fun v l => J.int .i64 v fun x2 => J.cons l fun x3 l => J.cons l fun v l => J.int .i64 v fun x4 => J.cons l fun v l => J.int .i64 v fun x5 => J.cons l fun v l => J.int .i64 v fun x6 => J.cons l fun v l => J.int .i64 v fun x7 => J.nil l (F x0 x1 x2 x3 x4 x5 x6 x7 h)
def s28l2_G (F : s28l2_T) (x0 x1 : AVal) (x2 : Int) (x3 : AVal) (x4 x5 x6 x7 : Int) (h : Heap) : Prop := gJ [.any, .any, .int .i64, .any, .int .i64, .int .i64, .int .i64, .int .i64] [x0, x1, (.int .i64 x2), x3, (.int .i64 x4), (.int .i64 x5), (.int .i64 x6), (.int .i64 x7)] h (s28l2_R F)
def s28l2_E (F : Nat → s28l2_T) (x0 x1 : AVal) (x2 : Int) (x3 : AVal) (x4 x5 x6 x7 : Int) (h : Heap) : Prop := gJ [.any, .any, .int .i64, .any, .int .i64, .int .i64, .int .i64, .int .i64] [x0, x1, (.int .i64 x2), x3, (.int .i64 x4), (.int .i64 x5), (.int .i64 x6), (.int .i64 x7)] h (fun l h => ∃ n, s28l2_R (F n) l h)
theorem s28l2_go {F : s28l2_T} {x0 x1 : AVal} {x2 : Int} {x3 : AVal} {x4 x5 x6 x7 : Int} {h : Heap} (H : F x0 x1 x2 x3 x4 x5 x6 x7 h) : s28l2_G F x0 x1 x2 x3 x4 x5 x6 x7 h := gJ_plain rfl H
theorem s28l2_in {F : Nat → s28l2_T} {x0 x1 : AVal} {x2 : Int} {x3 : AVal} {x4 x5 x6 x7 : Int} {h : Heap} (n : Nat) (H : F n x0 x1 x2 x3 x4 x5 x6 x7 h) : s28l2_E F x0 x1 x2 x3 x4 x5 x6 x7 h := gJ_plain rfl ⟨n, H⟩

def s28c3 (Ψ : AVal → Heap → Prop) (L1 : s28l1_T) (L2 : s28l2_T) (m2 o2 : AVal) (w1 : Int) (in_1 : AVal) (t20_2 t21_2 t30_1 t31_1 : Int) (h : Heap) : Prop :=
  rg (t31_1 + 1) (
    L2 m2 o2 w1 in_1 t20_2 t21_2 t30_1 (t31_1 + 1) h)

def s28l2 (Ψ : AVal → Heap → Prop) (L1 : s28l1_T) : Nat → s28l2_T
  | 0, _, _, _, _, _, _, _, _, _ => False
  | n4 + 1, m1, o1, w, in_, t20_1, t21_1, t30, t31, h =>
    ifT (decide (t31 < t30)) (
      ld1 h in_ fun v5 =>
      mapGet (.int .i64 0) h v5 (.int .i64 t31) fun v6 b =>
      tInt .i64 v6 fun v7 =>
      ifT (decide (0 < v7)) (
        ixS 1 o1 w fun p =>
        ld1 h p fun v8 =>
        appC 1 8 h v8 (.lsl 1 [(.int .i64 t31)]) fun v9 h_8 =>
        ixS 1 o1 w fun p1 =>
        chk (sc v9) (
          st true h_8 p1 [v9] fun h_9 =>
          s28c3 Ψ L1 (s28l2_G (s28l2 Ψ L1 n4)) m1 o1 w in_ t20_1 t21_1 t30 t31 h_9)) (
        s28c3 Ψ L1 (s28l2_G (s28l2 Ψ L1 n4)) m1 o1 w in_ t20_1 t21_1 t30 t31 h)) (
      rg (t21_1 + 1) (
        L1 m1 o1 t20_1 (t21_1 + 1) h))

def s28l1 (Ψ : AVal → Heap → Prop) : Nat → s28l1_T
  | 0, _, _, _, _, _ => False
  | n2 + 1, m, o, t20, t21, h =>
    ifT (decide (t21 < t20)) (
      newMap h fun r h_2 =>
      Sym.newRow 1 [.nilmap] h_2 fun r1 h_3 =>
      st true h_3 (.ptr r1 0 0) [(.mapr r)] fun h_4 =>
      Sym.newRow 1 [.nilfunc] h_4 fun r2 h_5 =>
      st true h_5 (.ptr r2 0 0) [(.func (.func 57) [] [(.ptr r1 0 0), m, (.ptr r2 0 0)])] fun h_6 =>
      ld1 h_6 (.ptr r2 0 0) fun v3 =>
      callV prog v3 [(.int .i64 t21)] h_6 fun v4 h_7 =>
      lenN o fun n3 =>
      s28l2_E (s28l2 Ψ (s28l1_G (s28l1 Ψ n2))) m o t21 (.ptr r1 0 0) t20 t21 n3 0 h_7) (
      retG (.tuple [o, (.int .i64 0)]) h Ψ)

def s28 (Ψ : AVal → Heap → Prop) (m_Up : AVal) (m_Val : AVal) (h : Heap) : Prop :=
  callG prog 41 [(.agg [m_Up, m_Val])] h fun v h_ =>
  tInt .i64 v fun v1 =>
  ifT (v1 != 0) (
    retG (.tuple [.nilsl, (.int .i64 v1)]) h_ Ψ) (
    lenN m_Up fun n =>
    mkS false 1 24 .nilsl h_ n n fun v2 h_1 =>
    lenN v2 fun n1 =>
    s28l1_E (s28l1 Ψ) (.lptr [m_Up, m_Val]) v2 n1 0 h_1)

def s28_A (Ψ : AVal → Heap → Prop) : Ann :=
  .seq (.reg [⟨none, [(0, true), (1, false), (2, false)]⟩])
  (.seq (.seq (rA 3)
  (.seq (rA 2)
  (.cond (.seq (rA 3)
  (.leaf))
  (.leaf))))
  (.seq (rA 5)
  (.seq (.seq (rA 3)
  (.block (.loop [(1, .any), (5, .any), (20, .int .i64), (21, .int .i64)] (fun n l h => s28l1_R (s28l1 Ψ n) l h) (fun L1 =>
  .seq (rA 1)
  (.seq (.cond (.leaf)
  (.leaf))
  (.seq (.block (.seq (rA 2)
  (.seq (rA 3)
  (.seq (rA 1)
  (.seq (rA 2)
  (.seq (rA 3)
  (.seq (rA 3)
  (.block (.loop [(1, .any), (5, .any), (6, .int .i64), (7, .any), (20, .int .i64), (21, .int .i64), (30, .int .i64), (31, .int .i64)] (fun n l h => s28l2_R (s28l2 Ψ (fun y0 y1 y2 y3 h => L1 [y0, y1, (.int .i64 y2), (.int .i64 y3)] h) n) l h) (fun L2 =>
  .seq (rA 1)
  (.seq (.cond (.leaf)
  (.leaf))
  (.cut [(1, .any), (5, .any), (6, .int .i64), (7, .any), (20, .int .i64), (21, .int .i64), (30, .int .i64), (31, .int .i64)] (fun l h => J.cons l fun x0 l => J.cons l fun x1 l => J.cons l fun v l => J.int .i64 v fun x2 => J.cons l fun x3 l => J.cons l fun v l => J.int .i64 v fun x4 => J.cons l fun v l => J.int .i64 v fun x5 => J.cons l fun v l => J.int .i64 v fun x6 => J.cons l fun v l => J.int .i64 v fun x7 => J.nil l (s28c3 Ψ (fun y0 y1 y2 y3 h => L1 [y0, y1, (.int .i64 y2), (.int .i64 y3)] h) (fun y0 y1 y2 y3 y4 y5 y6 y7 h => L2 [y0, y1, (.int .i64 y2), y3, (.int .i64 y4), (.int .i64 y5), (.int .i64 y6), (.int .i64 y7)] h) x0 x1 x2 x3 x4 x5 x6 x7 h)) (.block (.seq (rA 2)
  (.seq (rA 4)
  (.cond (.reg [⟨none, [(0, false), (1, false), (2, false), (3, false), (4, false), (5, false), (6, false), (7, true), (8, false), (9, false), (10, false)]⟩])
  (.leaf)))))
  (rA 2)))))))))))))
  (rA 2)))))))
  (.seq (rA 3)
  (.leaf)))))

theorem s28_ok {Ψ : AVal → Heap → Prop} {m_Up : AVal} {m_Val : AVal} {h : Heap} (H : s28 Ψ m_Up m_Val h) : ACalls prog 28 [(.agg [m_Up, m_Val])] h Ψ :=
  calls_of_evF func28 (by kernel_rfl) (by kernel_rfl) (by kernel_rfl)
    (Eq.mpr (by as_aux_lemma => kernel_rfl : oblF prog f28 (s28_A Ψ) Ψ = (True ∧ (True ∧ True ∧ (True ∧ True) ∧ True) ∧ True ∧ (True ∧ (∀ (h : Heap) (x0 x1 : AVal) (x2 x3 : Int), ON (s28l1 Ψ 0 x0 x1 x2 x3 h)) ∧ ∀ n1 : Nat, (∀ (h : Heap) (x0 x1 : AVal) (x2 x3 : Int), OI (s28l1 Ψ (n1 + 1) x0 x1 x2 x3 h)) ∧ (True ∧ (True ∧ True) ∧ (True ∧ True ∧ True ∧ True ∧ True ∧ True ∧ (∀ (h : Heap) (x0 x1 : AVal) (x2 : Int) (x3 : AVal) (x4 x5 x6 x7 : Int), ON (s28l2 Ψ (s28l1_G (s28l1 Ψ n1)) 0 x0 x1 x2 x3 x4 x5 x6 x7 h)) ∧ ∀ n2 : Nat, (∀ (h : Heap) (x0 x1 : AVal) (x2 : Int) (x3 : AVal) (x4 x5 x6 x7 : Int), OI (s28l2 Ψ (s28l1_G (s28l1 Ψ n1)) (n2 + 1) x0 x1 x2 x3 x4 x5 x6 x7 h)) ∧ (True ∧ (True ∧ True) ∧ (True ∧ True ∧ True ∧ True) ∧ (∀ (h : Heap) (x0 x1 : AVal) (x2 : Int) (x3 : AVal) (x4 x5 x6 x7 : Int), OI (s28c3 Ψ (s28l1_G (s28l1 Ψ n1)) (s28l2_G (s28l2 Ψ (s28l1_G (s28l1 Ψ n1)) n2)) x0 x1 x2 x3 x4 x5 x6 x7 h)) ∧ (True))) ∧ True)) ∧ True ∧ True)) ⟨trivial, ⟨⟨trivial, ⟨trivial, ⟨⟨trivial, trivial⟩, trivial⟩⟩⟩, ⟨trivial, ⟨⟨trivial, ⟨fun _ _ _ _ _ H => H, fun _ => ⟨fun _ _ _ _ _ H => H, ⟨trivial, ⟨⟨trivial, trivial⟩, ⟨⟨trivial, ⟨trivial, ⟨trivial, ⟨trivial, ⟨trivial, ⟨trivial, ⟨fun _ _ _ _ _ _ _ _ _ H => H, fun _ => ⟨fun _ _ _ _ _ _ _ _ _ H => H, ⟨trivial, ⟨⟨trivial, trivial⟩, ⟨⟨trivial, ⟨trivial, ⟨trivial, trivial⟩⟩⟩, fun _ _ _ _ _ _ _ _ _ H => H, trivial⟩⟩⟩⟩⟩⟩⟩⟩⟩⟩⟩, trivial⟩⟩⟩⟩⟩⟩, ⟨trivial, trivial⟩⟩⟩⟩⟩)
    (Eq.mpr (by as_aux_lemma => kernel_rfl : evF prog f28 (s28_A Ψ) Ψ [(.agg [m_Up, m_Val])] h = s28 Ψ m_Up m_Val h) H)

/- 30 dictum/morph.part -/
abbrev s30l1_T := AVal → AVal → AVal → AVal → AVal → AVal → Int → Int → Heap → Prop
def s30l1_R (F : s30l1_T) (l : List AVal) (h : Heap) : Prop := J.cons l fun x0 l => J.cons l fun x1 l => J.cons l fun x2 l => J.cons l fun x3 l => J.cons l fun x4 l => J.cons l fun x5 l => J.cons l fun v l => J.int .i64 v fun x6 => J.cons l fun v l => J.int .i64 v fun x7 => J.nil l (F x0 x1 x2 x3 x4 x5 x6 x7 h)
def s30l1_G (F : s30l1_T) (x0 x1 x2 x3 x4 x5 : AVal) (x6 x7 : Int) (h : Heap) : Prop := gJ [.any, .any, .any, .any, .any, .any, .int .i64, .int .i64] [x0, x1, x2, x3, x4, x5, (.int .i64 x6), (.int .i64 x7)] h (s30l1_R F)
def s30l1_E (F : Nat → s30l1_T) (x0 x1 x2 x3 x4 x5 : AVal) (x6 x7 : Int) (h : Heap) : Prop := gJ [.any, .any, .any, .any, .any, .any, .int .i64, .int .i64] [x0, x1, x2, x3, x4, x5, (.int .i64 x6), (.int .i64 x7)] h (fun l h => ∃ n, s30l1_R (F n) l h)
theorem s30l1_go {F : s30l1_T} {x0 x1 x2 x3 x4 x5 : AVal} {x6 x7 : Int} {h : Heap} (H : F x0 x1 x2 x3 x4 x5 x6 x7 h) : s30l1_G F x0 x1 x2 x3 x4 x5 x6 x7 h := gJ_plain rfl H
theorem s30l1_in {F : Nat → s30l1_T} {x0 x1 x2 x3 x4 x5 : AVal} {x6 x7 : Int} {h : Heap} (n : Nat) (H : F n x0 x1 x2 x3 x4 x5 x6 x7 h) : s30l1_E F x0 x1 x2 x3 x4 x5 x6 x7 h := gJ_plain rfl ⟨n, H⟩

abbrev s30l2_T := AVal → AVal → AVal → AVal → AVal → Int → AVal → AVal → Int → Int → AVal → Int → Int → Heap → Prop
def s30l2_R (F : s30l2_T) (l : List AVal) (h : Heap) : Prop := J.cons l fun x0 l => J.cons l fun x1 l => J.cons l fun x2 l => J.cons l fun x3 l => J.cons l fun x4 l => J.cons l fun v l => J.int .i64 v fun x5 => J.cons l fun x6 l => J.cons l fun x7 l => J.cons l fun v l => J.int .i64 v fun x8 => J.cons l fun v l => J.int .i64 v fun x9 => J.cons l fun x10 l => J.cons l fun v l => J.int .i64 v fun x11 => J.cons l fun v l => J.int .i64 v fun x12 => J.nil l (F x0 x1 x2 x3 x4 x5 x6 x7 x8 x9 x10 x11 x12 h)
def s30l2_G (F : s30l2_T) (x0 x1 x2 x3 x4 : AVal) (x5 : Int) (x6 x7 : AVal) (x8 x9 : Int) (x10 : AVal) (x11 x12 : Int) (h : Heap) : Prop := gJ [.any, .any, .any, .any, .any, .int .i64, .any, .any, .int .i64, .int .i64, .any, .int .i64, .int .i64] [x0, x1, x2, x3, x4, (.int .i64 x5), x6, x7, (.int .i64 x8), (.int .i64 x9), x10, (.int .i64 x11), (.int .i64 x12)] h (s30l2_R F)
def s30l2_E (F : Nat → s30l2_T) (x0 x1 x2 x3 x4 : AVal) (x5 : Int) (x6 x7 : AVal) (x8 x9 : Int) (x10 : AVal) (x11 x12 : Int) (h : Heap) : Prop := gJ [.any, .any, .any, .any, .any, .int .i64, .any, .any, .int .i64, .int .i64, .any, .int .i64, .int .i64] [x0, x1, x2, x3, x4, (.int .i64 x5), x6, x7, (.int .i64 x8), (.int .i64 x9), x10, (.int .i64 x11), (.int .i64 x12)] h (fun l h => ∃ n, s30l2_R (F n) l h)
theorem s30l2_go {F : s30l2_T} {x0 x1 x2 x3 x4 : AVal} {x5 : Int} {x6 x7 : AVal} {x8 x9 : Int} {x10 : AVal} {x11 x12 : Int} {h : Heap} (H : F x0 x1 x2 x3 x4 x5 x6 x7 x8 x9 x10 x11 x12 h) : s30l2_G F x0 x1 x2 x3 x4 x5 x6 x7 x8 x9 x10 x11 x12 h := gJ_plain rfl H
theorem s30l2_in {F : Nat → s30l2_T} {x0 x1 x2 x3 x4 : AVal} {x5 : Int} {x6 x7 : AVal} {x8 x9 : Int} {x10 : AVal} {x11 x12 : Int} {h : Heap} (n : Nat) (H : F n x0 x1 x2 x3 x4 x5 x6 x7 x8 x9 x10 x11 x12 h) : s30l2_E F x0 x1 x2 x3 x4 x5 x6 x7 x8 x9 x10 x11 x12 h := gJ_plain rfl ⟨n, H⟩

def s30c3 (Ψ : AVal → Heap → Prop) (L1 : s30l1_T) (L2 : s30l2_T) (o3 l_3 m2 t6_2 out2 : AVal) (w1 : Int) (up1 t15_2 : AVal) (t16_2 t17_2 : Int) (t24_1 : AVal) (t25_1 t26_1 : Int) (h : Heap) : Prop :=
  rg (t26_1 + 1) (
    L2 o3 l_3 m2 t6_2 out2 w1 up1 t15_2 t16_2 t17_2 t24_1 t25_1 (t26_1 + 1) h)

def s30c4 (Ψ : AVal → Heap → Prop) (L1 : s30l1_T) (L2 : s30l2_T) (o4 l_7 m3 t6_3 out3 : AVal) (w2 : Int) (up2 : AVal) (k : Int) (t15_3 : AVal) (t16_3 t17_3 : Int) (t24_2 : AVal) (t25_2 t26_2 : Int) (t41 : Bool) (h : Heap) : Prop :=
  ifT t41 (
    appC 1 8 h up2 (.lsl 1 [(.int .i64 k)]) fun v10 h_3 =>
    s30c3 Ψ L1 L2 o4 l_7 m3 t6_3 out3 w2 v10 t15_3 t16_3 t17_3 t24_2 t25_2 t26_2 h_3) (
    s30c3 Ψ L1 L2 o4 l_7 m3 t6_3 out3 w2 up2 t15_3 t16_3 t17_3 t24_2 t25_2 t26_2 h)

def s30l2 (Ψ : AVal → Heap → Prop) (L1 : s30l1_T) : Nat → s30l2_T
  | 0, _, _, _, _, _, _, _, _, _, _, _, _, _, _ => False
  | n3 + 1, o2, l_2, m1, t6_1, out1, w, up, t15_1, t16_1, t17_1, t24, t25, t26, h =>
    ifT (decide (t26 < t25)) (
      ixS 1 t24 t26 fun p2 =>
      ld1 h p2 fun v3 =>
      tInt .i64 v3 fun v4 =>
      callG prog 58 [l_2, (.int .i64 v4)] h fun v5 h_2 =>
      tTup v5 fun l_4 =>
      tCons l_4 fun v6 l_5 =>
      tInt .i64 v6 fun v7 =>
      tCons l_5 fun v8 l_6 =>
      tBool v8 fun v9 =>
      tNil l_6 (
        ifT v9 (
          s30c4 Ψ L1 (s30l2_G (s30l2 Ψ L1 n3)) o2 l_2 m1 t6_1 out1 w up v7 t15_1 t16_1 t17_1 t24 t25 t26 (v4 != w) h_2) (
          s30c4 Ψ L1 (s30l2_G (s30l2 Ψ L1 n3)) o2 l_2 m1 t6_1 out1 w up v7 t15_1 t16_1 t17_1 t24 t25 t26 false h_2))) (
      addOff out1 0 fun p3 =>
      ld1 h p3 fun v11 =>
      chk (sc up) (
        appC 1 24 h v11 (.lsl 1 [up]) fun v12 h_4 =>
        addOff out1 0 fun p4 =>
        chk (sc v12) (
          st true h_4 p4 [v12] fun h_5 =>
          addOff out1 1 fun p5 =>
          ld1 h_5 p5 fun v13 =>
          addOff m1 1 fun p6 =>
          ld1 h_5 p6 fun v14 =>
          ixS 1 v14 w fun p7 =>
          ld1 h_5 p7 fun v15 =>
          callG prog 35 [v15] h_5 fun v16 h_6 =>
          (ld1 h_6 p5 fun v17 =>
          v17 = v13) ∧
          chk (sc v16) (
            (ld1 h_6 p5 fun v18 =>
            v18 = v13) ∧
            appC 1 24 h_6 v13 (.lsl 1 [v16]) fun v19 h_7 =>
            addOff out1 1 fun p8 =>
            chk (sc v19) (
              st true h_7 p8 [v19] fun h_8 =>
              rg (t17_1 + 1) (
                L1 o2 l_2 m1 t6_1 out1 t15_1 t16_1 (t17_1 + 1) h_8))))))

def s30l1 (Ψ : AVal → Heap → Prop) : Nat → s30l1_T
  | 0, _, _, _, _, _, _, _, _, _ => False
  | n1 + 1, o1, l_1, m, t6, out, t15, t16, t17, h =>
    ifT (decide (t17 < t16)) (
      ixS 1 t15 t17 fun p =>
      ld1 h p fun v =>
      tInt .i64 v fun v1 =>
      ixS 1 o1 v1 fun p1 =>
      ld1 h p1 fun v2 =>
      lenN v2 fun n2 =>
      s30l2_E (s30l2 Ψ (s30l1_G (s30l1 Ψ n1))) o1 l_1 m t6 out v1 .nilsl t15 t16 t17 v2 n2 0 h) (
      ldN 2 h out fun l_8 =>
      tCons l_8 fun v20 l_9 =>
      tCons l_9 fun v21 l_10 =>
      tNil l_10 (
        callG prog 36 [(.agg [v20, v21])] h fun v22 h_9 =>
        tAgg v22 fun l_11 =>
        tCons l_11 fun v23 l_12 =>
        tCons l_12 fun v24 l_13 =>
        tNil l_13 (
          st false h_9 t6 [v23, v24] fun h_10 =>
          ldN 2 h_10 t6 fun l_14 =>
          tCons l_14 fun v25 l_15 =>
          tCons l_15 fun v26 l_16 =>
          tNil l_16 (
            retG (.agg [v25, v26]) h_10 Ψ))))

def s30 (Ψ : AVal → Heap → Prop) (m_Up : AVal) (m_Val : AVal) (o : AVal) (l_ : AVal) (h : Heap) : Prop :=
  Sym.newRow 2 [(.agg [.nilsl, .nilsl])] h fun r h_ =>
  Sym.newRow 2 [(.agg [.nilsl, .nilsl])] h_ fun r1 h_1 =>
  lenN l_ fun n =>
  s30l1_E (s30l1 Ψ) o l_ (.lptr [m_Up, m_Val]) (.ptr r 0 0) (.ptr r1 0 0) l_ n 0 h_1

def s30_A (Ψ : AVal → Heap → Prop) : Ann :=
  .seq (.reg [⟨none, [(0, true), (1, false)]⟩])
  (.seq (rA 1)
  (.seq (.seq (rA 3)
  (.block (.loop [(1, .any), (2, .any), (3, .any), (6, .any), (7, .any), (15, .any), (16, .int .i64), (17, .int .i64)] (fun n l h => s30l1_R (s30l1 Ψ n) l h) (fun L1 =>
  .seq (rA 1)
  (.seq (.cond (.leaf)
  (.leaf))
  (.seq (.block (.seq (rA 3)
  (.seq (rA 1)
  (.seq (.seq (rA 6)
  (.block (.loop [(1, .any), (2, .any), (3, .any), (6, .any), (7, .any), (9, .int .i64), (10, .any), (15, .any), (16, .int .i64), (17, .int .i64), (24, .any), (25, .int .i64), (26, .int .i64)] (fun n l h => s30l2_R (s30l2 Ψ (fun y0 y1 y2 y3 y4 y5 y6 y7 h => L1 [y0, y1, y2, y3, y4, y5, (.int .i64 y6), (.int .i64 y7)] h) n) l h) (fun L2 =>
  .seq (rA 1)
  (.seq (.cond (.leaf)
  (.leaf))
  (.cut [(1, .any), (2, .any), (3, .any), (6, .any), (7, .any), (9, .int .i64), (10, .any), (15, .any), (16, .int .i64), (17, .int .i64), (24, .any), (25, .int .i64), (26, .int .i64)] (fun l h => J.cons l fun x0 l => J.cons l fun x1 l => J.cons l fun x2 l => J.cons l fun x3 l => J.cons l fun x4 l => J.cons l fun v l => J.int .i64 v fun x5 => J.cons l fun x6 l => J.cons l fun x7 l => J.cons l fun v l => J.int .i64 v fun x8 => J.cons l fun v l => J.int .i64 v fun x9 => J.cons l fun x10 l => J.cons l fun v l => J.int .i64 v fun x11 => J.cons l fun v l => J.int .i64 v fun x12 => J.nil l (s30c3 Ψ (fun y0 y1 y2 y3 y4 y5 y6 y7 h => L1 [y0, y1, y2, y3, y4, y5, (.int .i64 y6), (.int .i64 y7)] h) (fun y0 y1 y2 y3 y4 y5 y6 y7 y8 y9 y10 y11 y12 h => L2 [y0, y1, y2, y3, y4, (.int .i64 y5), y6, y7, (.int .i64 y8), (.int .i64 y9), y10, (.int .i64 y11), (.int .i64 y12)] h) x0 x1 x2 x3 x4 x5 x6 x7 x8 x9 x10 x11 x12 h)) (.block (.seq (rA 3)
  (.seq (rA 8)
  (.cut [(1, .any), (2, .any), (3, .any), (6, .any), (7, .any), (9, .int .i64), (10, .any), (13, .int .i64), (15, .any), (16, .int .i64), (17, .int .i64), (24, .any), (25, .int .i64), (26, .int .i64), (41, .bool)] (fun l h => J.cons l fun x0 l => J.cons l fun x1 l => J.cons l fun x2 l => J.cons l fun x3 l => J.cons l fun x4 l => J.cons l fun v l => J.int .i64 v fun x5 => J.cons l fun x6 l => J.cons l fun v l => J.int .i64 v fun x7 => J.cons l fun x8 l => J.cons l fun v l => J.int .i64 v fun x9 => J.cons l fun v l => J.int .i64 v fun x10 => J.cons l fun x11 l => J.cons l fun v l => J.int .i64 v fun x12 => J.cons l fun v l => J.int .i64 v fun x13 => J.cons l fun v l => J.bool v fun x14 => J.nil l (s30c4 Ψ (fun y0 y1 y2 y3 y4 y5 y6 y7 h => L1 [y0, y1, y2, y3, y4, y5, (.int .i64 y6), (.int .i64 y7)] h) (fun y0 y1 y2 y3 y4 y5 y6 y7 y8 y9 y10 y11 y12 h => L2 [y0, y1, y2, y3, y4, (.int .i64 y5), y6, y7, (.int .i64 y8), (.int .i64 y9), y10, (.int .i64 y11), (.int .i64 y12)] h) x0 x1 x2 x3 x4 x5 x6 x7 x8 x9 x10 x11 x12 x13 x14 h)) (.reg [⟨none, [(0, false), (1, false)]⟩, ⟨some (37, true), [(2, false), (3, false), (4, false)]⟩, ⟨none, [(5, false)]⟩])
  (.cond (.reg [⟨none, [(0, false), (1, false), (2, true), (3, false), (4, false)]⟩])
  (.leaf))))))
  (rA 2)))))))
  (.seq (.reg [⟨none, [(0, false), (1, false), (2, false), (3, true), (4, false), (5, false), (6, false)]⟩])
  (.draw [(0, false), (1, false), (2, false), (3, false), (4, false), (5, false), (6, false), (7, false), (8, true), (9, false), (10, false), (11, false)] [0, 1, 0, 4, 0, 28, 60, 124, 252, 511, 1023, 2047]))))))
  (rA 2)))))))
  (.seq (rA 3)
  (.leaf))))

theorem s30_ok {Ψ : AVal → Heap → Prop} {m_Up : AVal} {m_Val : AVal} {o : AVal} {l_ : AVal} {h : Heap} (H : s30 Ψ m_Up m_Val o l_ h) : ACalls prog 30 [(.agg [m_Up, m_Val]), o, l_] h Ψ :=
  calls_of_evF func30 (by kernel_rfl) (by kernel_rfl) (by kernel_rfl)
    (Eq.mpr (by as_aux_lemma => kernel_rfl : oblF prog f30 (s30_A Ψ) Ψ = (True ∧ True ∧ (True ∧ (∀ (h : Heap) (x0 x1 x2 x3 x4 x5 : AVal) (x6 x7 : Int), ON (s30l1 Ψ 0 x0 x1 x2 x3 x4 x5 x6 x7 h)) ∧ ∀ n1 : Nat, (∀ (h : Heap) (x0 x1 x2 x3 x4 x5 : AVal) (x6 x7 : Int), OI (s30l1 Ψ (n1 + 1) x0 x1 x2 x3 x4 x5 x6 x7 h)) ∧ (True ∧ (True ∧ True) ∧ (True ∧ True ∧ (True ∧ (∀ (h : Heap) (x0 x1 x2 x3 x4 : AVal) (x5 : Int) (x6 x7 : AVal) (x8 x9 : Int) (x10 : AVal) (x11 x12 : Int), ON (s30l2 Ψ (s30l1_G (s30l1 Ψ n1)) 0 x0 x1 x2 x3 x4 x5 x6 x7 x8 x9 x10 x11 x12 h)) ∧ ∀ n2 : Nat, (∀ (h : Heap) (x0 x1 x2 x3 x4 : AVal) (x5 : Int) (x6 x7 : AVal) (x8 x9 : Int) (x10 : AVal) (x11 x12 : Int), OI (s30l2 Ψ (s30l1_G (s30l1 Ψ n1)) (n2 + 1) x0 x1 x2 x3 x4 x5 x6 x7 x8 x9 x10 x11 x12 h)) ∧ (True ∧ (True ∧ True) ∧ (True ∧ True ∧ (True) ∧ (∀ (h : Heap) (x0 x1 x2 x3 x4 : AVal) (x5 : Int) (x6 : AVal) (x7 : Int) (x8 : AVal) (x9 x10 : Int) (x11 : AVal) (x12 x13 : Int) (x14 : Bool), OI (s30c4 Ψ (s30l1_G (s30l1 Ψ n1)) (s30l2_G (s30l2 Ψ (s30l1_G (s30l1 Ψ n1)) n2)) x0 x1 x2 x3 x4 x5 x6 x7 x8 x9 x10 x11 x12 x13 x14 h)) ∧ (True ∧ True)) ∧ (∀ (h : Heap) (x0 x1 x2 x3 x4 : AVal) (x5 : Int) (x6 x7 : AVal) (x8 x9 : Int) (x10 : AVal) (x11 x12 : Int), OI (s30c3 Ψ (s30l1_G (s30l1 Ψ n1)) (s30l2_G (s30l2 Ψ (s30l1_G (s30l1 Ψ n1)) n2)) x0 x1 x2 x3 x4 x5 x6 x7 x8 x9 x10 x11 x12 h)) ∧ (True))) ∧ True ∧ True) ∧ True)) ∧ True ∧ True)) ⟨trivial, ⟨trivial, ⟨⟨trivial, ⟨fun _ _ _ _ _ _ _ _ _ H => H, fun _ => ⟨fun _ _ _ _ _ _ _ _ _ H => H, ⟨trivial, ⟨⟨trivial, trivial⟩, ⟨⟨trivial, ⟨trivial, ⟨⟨trivial, ⟨fun _ _ _ _ _ _ _ _ _ _ _ _ _ _ H => H, fun _ => ⟨fun _ _ _ _ _ _ _ _ _ _ _ _ _ _ H => H, ⟨trivial, ⟨⟨trivial, trivial⟩, ⟨⟨trivial, ⟨trivial, ⟨trivial, fun _ _ _ _ _ _ _ _ _ _ _ _ _ _ _ _ H => H, ⟨trivial, trivial⟩⟩⟩⟩, fun _ _ _ _ _ _ _ _ _ _ _ _ _ _ H => H, trivial⟩⟩⟩⟩⟩⟩, ⟨trivial, trivial⟩⟩⟩⟩, trivial⟩⟩⟩⟩⟩⟩, ⟨trivial, trivial⟩⟩⟩⟩)
    (Eq.mpr (by as_aux_lemma => kernel_rfl : evF prog f30 (s30_A Ψ) Ψ [(.agg [m_Up, m_Val]), o, l_] h = s30 Ψ m_Up m_Val o l_ h) H)

/- 34 dictum/morph.classes -/
abbrev s34l1_T := AVal → AVal → AVal → Int → Int → Heap → Prop
def s34l1_R (F : s34l1_T) (l : List AVal) (h : Heap) : Prop := J.cons l fun x0 l => J.cons l fun x1 l => J.cons l fun x2 l => J.cons l fun v l => J.int .i64 v fun x3 => J.cons l fun v l => J.int .i64 v fun x4 => J.nil l (F x0 x1 x2 x3 x4 h)
def s34l1_G (F : s34l1_T) (x0 x1 x2 : AVal) (x3 x4 : Int) (h : Heap) : Prop := gJ [.any, .any, .any, .int .i64, .int .i64] [x0, x1, x2, (.int .i64 x3), (.int .i64 x4)] h (s34l1_R F)
def s34l1_E (F : Nat → s34l1_T) (x0 x1 x2 : AVal) (x3 x4 : Int) (h : Heap) : Prop := gJ [.any, .any, .any, .int .i64, .int .i64] [x0, x1, x2, (.int .i64 x3), (.int .i64 x4)] h (fun l h => ∃ n, s34l1_R (F n) l h)
theorem s34l1_go {F : s34l1_T} {x0 x1 x2 : AVal} {x3 x4 : Int} {h : Heap} (H : F x0 x1 x2 x3 x4 h) : s34l1_G F x0 x1 x2 x3 x4 h := gJ_plain rfl H
theorem s34l1_in {F : Nat → s34l1_T} {x0 x1 x2 : AVal} {x3 x4 : Int} {h : Heap} (n : Nat) (H : F n x0 x1 x2 x3 x4 h) : s34l1_E F x0 x1 x2 x3 x4 h := gJ_plain rfl ⟨n, H⟩

abbrev s34l2_T := AVal → AVal → Int → AVal → Int → Int → AVal → Int → Int → Heap → Prop
def s34l2_R (F : s34l2_T) (l : List AVal) (h : Heap) : Prop := J.cons l fun x0 l => J.cons l fun x1 l => J.cons l fun v l => J.int .i64 v fun x2 => J.cons l fun x3 l => J.cons l fun v l => J.int .i64 v fun x4 => J.cons l fun v l => J.int .i64 v fun x5 => J.cons l fun x6 l => J.cons l fun v l => J.int .i64 v fun x7 => J.cons l fun v l => J.int .i64 v fun x8 => J.nil l (F x0 x1 x2 x3 x4 x5 x6 x7 x8 h)
def s34l2_G (F : s34l2_T) (x0 x1 : AVal) (x2 : Int) (x3 : AVal) (x4 x5 : Int) (x6 : AVal) (x7 x8 : Int) (h : Heap) : Prop := gJ [.any, .any, .int .i64, .any, .int .i64, .int .i64, .any, .int .i64, .int .i64] [x0, x1, (.int .i64 x2), x3, (.int .i64 x4), (.int .i64 x5), x6, (.int .i64 x7), (.int .i64 x8)] h (s34l2_R F)
def s34l2_E (F : Nat → s34l2_T) (x0 x1 : AVal) (x2 : Int) (x3 : AVal) (x4 x5 : Int) (x6 : AVal) (x7 x8 : Int) (h : Heap) : Prop := gJ [.any, .any, .int .i64, .any, .int .i64, .int .i64, .any, .int .i64, .int .i64] [x0, x1, (.int .i64 x2), x3, (.int .i64 x4), (.int .i64 x5), x6, (.int .i64 x7), (.int .i64 x8)] h (fun l h => ∃ n, s34l2_R (F n) l h)
theorem s34l2_go {F : s34l2_T} {x0 x1 : AVal} {x2 : Int} {x3 : AVal} {x4 x5 : Int} {x6 : AVal} {x7 x8 : Int} {h : Heap} (H : F x0 x1 x2 x3 x4 x5 x6 x7 x8 h) : s34l2_G F x0 x1 x2 x3 x4 x5 x6 x7 x8 h := gJ_plain rfl H
theorem s34l2_in {F : Nat → s34l2_T} {x0 x1 : AVal} {x2 : Int} {x3 : AVal} {x4 x5 : Int} {x6 : AVal} {x7 x8 : Int} {h : Heap} (n : Nat) (H : F n x0 x1 x2 x3 x4 x5 x6 x7 x8 h) : s34l2_E F x0 x1 x2 x3 x4 x5 x6 x7 x8 h := gJ_plain rfl ⟨n, H⟩

def s34l2 (Ψ : AVal → Heap → Prop) (L1 : s34l1_T) : Nat → s34l2_T
  | 0, _, _, _, _, _, _, _, _, _, _ => False
  | n4 + 1, o2, keys1, w, t19_1, t20_1, t21_1, t26, t27, t28, h =>
    ifT (decide (t28 < t27)) (
      ixS 1 t26 t28 fun p1 =>
      ld1 h p1 fun v2 =>
      tStr v2 fun v3 =>
      ixS 1 keys1 w fun p2 =>
      ld1 h p2 fun v4 =>
      tStr v4 fun v5 =>
      (v3.size + (ByteArray.mk #[32]).size ≤ 9223372036854775807) ∧
      (v5.size + (v3 ++ (ByteArray.mk #[32])).size ≤ 9223372036854775807) ∧
      ixS 1 keys1 w fun p3 =>
      st true h p3 [(.str (v5 ++ (v3 ++ (ByteArray.mk #[32]))))] fun h_1 =>
      rg (t28 + 1) (
        s34l2_G (s34l2 Ψ L1 n4) o2 keys1 w t19_1 t20_1 t21_1 t26 t27 (t28 + 1) h_1)) (
      rg (t21_1 + 1) (
        L1 o2 keys1 t19_1 t20_1 (t21_1 + 1) h))

abbrev s34l3_T := AVal → AVal → AVal → Heap → Prop
def s34l3_R (F : s34l3_T) (l : List AVal) (h : Heap) : Prop := J.cons l fun x0 l => J.cons l fun x1 l => J.cons l fun x2 l => J.nil l (F x0 x1 x2 h)
def s34l3_G (F : s34l3_T) (x0 x1 x2 : AVal) (h : Heap) : Prop := gJ [.any, .any, .any] [x0, x1, x2] h (s34l3_R F)
def s34l3_E (F : Nat → s34l3_T) (x0 x1 x2 : AVal) (h : Heap) : Prop := gJ [.any, .any, .any] [x0, x1, x2] h (fun l h => ∃ n, s34l3_R (F n) l h)
theorem s34l3_go {F : s34l3_T} {x0 x1 x2 : AVal} {h : Heap} (H : F x0 x1 x2 h) : s34l3_G F x0 x1 x2 h := gJ_plain rfl H
theorem s34l3_in {F : Nat → s34l3_T} {x0 x1 x2 : AVal} {h : Heap} (n : Nat) (H : F n x0 x1 x2 h) : s34l3_E F x0 x1 x2 h := gJ_plain rfl ⟨n, H⟩

def s34l3 (Ψ : AVal → Heap → Prop) : Nat → s34l3_T
  | 0, _, _, _, _ => False
  | n7 + 1, class_, n6, parts, h =>
    callV prog parts [] h fun v10 h_7 =>
    callG prog 63 [v10] h_7 fun v11 h_8 =>
    tTup v11 fun l_3 =>
    tCons l_3 fun v12 l_4 =>
    tCons l_4 fun v13 l_5 =>
    tInt .i64 v13 fun v14 =>
    tNil l_5 (
      chk (sc v12) (
        st true h_8 class_ [v12] fun h_9 =>
        ld1 h_9 n6 fun v15 =>
        tInt .i64 v15 fun v16 =>
        ifT (v14 == v16) (
          ld1 h_9 class_ fun v17 =>
          retG v17 h_9 Ψ) (
          st true h_9 n6 [(.int .i64 v14)] fun h_10 =>
          s34l3_G (s34l3 Ψ n7) class_ n6 parts h_10)))

def s34l1 (Ψ : AVal → Heap → Prop) : Nat → s34l1_T
  | 0, _, _, _, _, _, _ => False
  | n2 + 1, o1, keys, t19, t20, t21, h =>
    ifT (decide (t21 < t20)) (
      ixS 1 t19 t21 fun p =>
      ld1 h p fun v1 =>
      lenN v1 fun n3 =>
      s34l2_E (s34l2 Ψ (s34l1_G (s34l1 Ψ n2))) o1 keys t21 t19 t20 t21 v1 n3 0 h) (
      callG prog 63 [keys] h fun v6 h_2 =>
      tTup v6 fun l_ =>
      tCons l_ fun v7 l_1 =>
      tCons l_1 fun v8 l_2 =>
      tInt .i64 v8 fun v9 =>
      tNil l_2 (
        Sym.newRow 1 [.nilsl] h_2 fun r h_3 =>
        Sym.newRow 1 [(.int .i64 0)] h_3 fun r1 h_4 =>
        chk (sc v7) (
          st true h_4 (.ptr r 0 0) [v7] fun h_5 =>
          st true h_5 (.ptr r1 0 0) [(.int .i64 v9)] fun h_6 =>
          s34l3_E (s34l3 Ψ) (.ptr r 0 0) (.ptr r1 0 0) (.func (.func 64) [] [o1, (.ptr r1 0 0), (.ptr r 0 0)]) h_6)))

def s34 (Ψ : AVal → Heap → Prop) (m_Up : AVal) (m_Val : AVal) (o : AVal) (h : Heap) : Prop :=
  chk (sc o) (
    lenN o fun n =>
    mkS false 1 16 (.str (ByteArray.mk #[])) h n n fun v h_ =>
    lenN m_Val fun n1 =>
    s34l1_E (s34l1 Ψ) (.lptr [o]) v m_Val n1 0 h_)

def s34_A (Ψ : AVal → Heap → Prop) : Ann :=
  .seq (.reg [⟨none, [(0, true), (1, true), (2, false)]⟩])
  (.seq (rA 4)
  (.seq (.seq (rA 4)
  (.block (.loop [(3, .any), (5, .any), (19, .any), (20, .int .i64), (21, .int .i64)] (fun n l h => s34l1_R (s34l1 Ψ n) l h) (fun L1 =>
  .seq (rA 1)
  (.seq (.cond (.leaf)
  (.leaf))
  (.seq (.block (.seq (rA 5)
  (.seq (rA 3)
  (.block (.loop [(3, .any), (5, .any), (6, .int .i64), (19, .any), (20, .int .i64), (21, .int .i64), (26, .any), (27, .int .i64), (28, .int .i64)] (fun n l h => s34l2_R (s34l2 Ψ (fun y0 y1 y2 y3 y4 h => L1 [y0, y1, y2, (.int .i64 y3), (.int .i64 y4)] h) n) l h) (fun L2 =>
  .seq (rA 1)
  (.seq (.cond (.leaf)
  (.leaf))
  (.seq (.block (.seq (rA 3)
  (rA 9)))
  (rA 2)))))))))
  (rA 2)))))))
  (.seq (rA 9)
  (.seq (rA 2)
  (.block (.loop [(10, .any), (11, .any), (12, .any)] (fun n l h => s34l3_R (s34l3 Ψ n) l h) (fun L3 =>
  .block (.seq (rA 8)
  (.seq (rA 2)
  (.seq (.seq (rA 3)
  (.cond (.seq (rA 2)
  (.leaf))
  (.leaf)))
  (rA 2)))))))))))

theorem s34_ok {Ψ : AVal → Heap → Prop} {m_Up : AVal} {m_Val : AVal} {o : AVal} {h : Heap} (H : s34 Ψ m_Up m_Val o h) : ACalls prog 34 [(.agg [m_Up, m_Val]), o] h Ψ :=
  calls_of_evF func34 (by kernel_rfl) (by kernel_rfl) (by kernel_rfl)
    (Eq.mpr (by as_aux_lemma => kernel_rfl : oblF prog f34 (s34_A Ψ) Ψ = (True ∧ True ∧ (True ∧ (∀ (h : Heap) (x0 x1 x2 : AVal) (x3 x4 : Int), ON (s34l1 Ψ 0 x0 x1 x2 x3 x4 h)) ∧ ∀ n1 : Nat, (∀ (h : Heap) (x0 x1 x2 : AVal) (x3 x4 : Int), OI (s34l1 Ψ (n1 + 1) x0 x1 x2 x3 x4 h)) ∧ (True ∧ (True ∧ True) ∧ (True ∧ True ∧ (∀ (h : Heap) (x0 x1 : AVal) (x2 : Int) (x3 : AVal) (x4 x5 : Int) (x6 : AVal) (x7 x8 : Int), ON (s34l2 Ψ (s34l1_G (s34l1 Ψ n1)) 0 x0 x1 x2 x3 x4 x5 x6 x7 x8 h)) ∧ ∀ n2 : Nat, (∀ (h : Heap) (x0 x1 : AVal) (x2 : Int) (x3 : AVal) (x4 x5 : Int) (x6 : AVal) (x7 x8 : Int), OI (s34l2 Ψ (s34l1_G (s34l1 Ψ n1)) (n2 + 1) x0 x1 x2 x3 x4 x5 x6 x7 x8 h)) ∧ (True ∧ (True ∧ True) ∧ (True ∧ True) ∧ True)) ∧ True)) ∧ True ∧ True ∧ (∀ (h : Heap) (x0 x1 x2 : AVal), ON (s34l3 Ψ 0 x0 x1 x2 h)) ∧ ∀ n3 : Nat, (∀ (h : Heap) (x0 x1 x2 : AVal), OI (s34l3 Ψ (n3 + 1) x0 x1 x2 h)) ∧ (True ∧ True ∧ (True ∧ (True ∧ True) ∧ True) ∧ True))) ⟨trivial, ⟨trivial, ⟨⟨trivial, ⟨fun _ _ _ _ _ _ H => H, fun _ => ⟨fun _ _ _ _ _ _ H => H, ⟨trivial, ⟨⟨trivial, trivial⟩, ⟨⟨trivial, ⟨trivial, ⟨fun _ _ _ _ _ _ _ _ _ _ H => H, fun _ => ⟨fun _ _ _ _ _ _ _ _ _ _ H => H, ⟨trivial, ⟨⟨trivial, trivial⟩, ⟨⟨trivial, trivial⟩, trivial⟩⟩⟩⟩⟩⟩⟩, trivial⟩⟩⟩⟩⟩⟩, ⟨trivial, ⟨trivial, ⟨fun _ _ _ _ H => H, fun _ => ⟨fun _ _ _ _ H => H, ⟨trivial, ⟨trivial, ⟨⟨trivial, ⟨⟨trivial, trivial⟩, trivial⟩⟩, trivial⟩⟩⟩⟩⟩⟩⟩⟩⟩⟩)
    (Eq.mpr (by as_aux_lemma => kernel_rfl : evF prog f34 (s34_A Ψ) Ψ [(.agg [m_Up, m_Val]), o] h = s34 Ψ m_Up m_Val o h) H)

/- 36 dictum/morph.tidied -/
def s36 (Ψ : AVal → Heap → Prop) (m_Up : AVal) (m_Val : AVal) (h : Heap) : Prop :=
  Sym.newRow 2 [(.agg [m_Up, m_Val])] h fun r h_ =>
  Sym.newRow 2 [(.agg [.nilsl, .nilsl])] h_ fun r1 h_1 =>
  ldN 2 h_1 (.ptr r 0 0) fun l_ =>
  tCons l_ fun v l_1 =>
  tCons l_1 fun v1 l_2 =>
  tNil l_2 (
    callG prog 39 [(.agg [v, v1])] h_1 fun v2 h_2 =>
    tTup v2 fun l_3 =>
    tCons l_3 fun v3 l_4 =>
    tCons l_4 fun v4 l_5 =>
    tInt .i64 v4 fun v5 =>
    tNil l_5 (
      tAgg v3 fun l_6 =>
      tCons l_6 fun v6 l_7 =>
      tCons l_7 fun v7 l_8 =>
      tNil l_8 (
        st false h_2 (.ptr r 0 0) [v6, v7] fun h_3 =>
        ldN 2 h_3 (.ptr r 0 0) fun l_9 =>
        tCons l_9 fun v8 l_10 =>
        tCons l_10 fun v9 l_11 =>
        tNil l_11 (
          st false h_3 (.ptr r1 0 0) [v8, v9] fun h_4 =>
          ldN 2 h_4 (.ptr r1 0 0) fun l_12 =>
          tCons l_12 fun v10 l_13 =>
          tCons l_13 fun v11 l_14 =>
          tNil l_14 (
            retG (.agg [v10, v11]) h_4 Ψ)))))

def s36_A (Ψ : AVal → Heap → Prop) : Ann :=
  .seq (rA 2)
  (.seq (rA 6)
  (.seq (rA 2)
  (.leaf)))

theorem s36_ok {Ψ : AVal → Heap → Prop} {m_Up : AVal} {m_Val : AVal} {h : Heap} (H : s36 Ψ m_Up m_Val h) : ACalls prog 36 [(.agg [m_Up, m_Val])] h Ψ :=
  calls_of_evF func36 (by kernel_rfl) (by kernel_rfl) (by kernel_rfl)
    (Eq.mpr (by as_aux_lemma => kernel_rfl : oblF prog f36 (s36_A Ψ) Ψ = (True ∧ True ∧ True ∧ True)) ⟨trivial, ⟨trivial, ⟨trivial, trivial⟩⟩⟩)
    (Eq.mpr (by as_aux_lemma => kernel_rfl : evF prog f36 (s36_A Ψ) Ψ [(.agg [m_Up, m_Val])] h = s36 Ψ m_Up m_Val h) H)

/- 39 dictum/worlds.Tidy -/
abbrev s39l1_T := AVal → AVal → AVal → AVal → Int → Int → Heap → Prop
def s39l1_R (F : s39l1_T) (l : List AVal) (h : Heap) : Prop := J.cons l fun x0 l => J.cons l fun x1 l => J.cons l fun x2 l => J.cons l fun x3 l => J.cons l fun v l => J.int .i64 v fun x4 => J.cons l fun v l => J.int .i64 v fun x5 => J.nil l (F x0 x1 x2 x3 x4 x5 h)
def s39l1_G (F : s39l1_T) (x0 x1 x2 x3 : AVal) (x4 x5 : Int) (h : Heap) : Prop := gJ [.any, .any, .any, .any, .int .i64, .int .i64] [x0, x1, x2, x3, (.int .i64 x4), (.int .i64 x5)] h (s39l1_R F)
def s39l1_E (F : Nat → s39l1_T) (x0 x1 x2 x3 : AVal) (x4 x5 : Int) (h : Heap) : Prop := gJ [.any, .any, .any, .any, .int .i64, .int .i64] [x0, x1, x2, x3, (.int .i64 x4), (.int .i64 x5)] h (fun l h => ∃ n, s39l1_R (F n) l h)
theorem s39l1_go {F : s39l1_T} {x0 x1 x2 x3 : AVal} {x4 x5 : Int} {h : Heap} (H : F x0 x1 x2 x3 x4 x5 h) : s39l1_G F x0 x1 x2 x3 x4 x5 h := gJ_plain rfl H
theorem s39l1_in {F : Nat → s39l1_T} {x0 x1 x2 x3 : AVal} {x4 x5 : Int} {h : Heap} (n : Nat) (H : F n x0 x1 x2 x3 x4 x5 h) : s39l1_E F x0 x1 x2 x3 x4 x5 h := gJ_plain rfl ⟨n, H⟩

abbrev s39l2_T := AVal → AVal → AVal → AVal → AVal → AVal → AVal → Int → Int → AVal → Int → Int → Heap → Prop
def s39l2_R (F : s39l2_T) (l : List AVal) (h : Heap) : Prop := J.cons l fun x0 l => J.cons l fun x1 l => J.cons l fun x2 l => J.cons l fun x3 l => J.cons l fun x4 l => J.cons l fun x5 l => J.cons l fun x6 l => J.cons l fun v l => J.int .i64 v fun x7 => J.cons l fun v l => J.int .i64 v fun x8 => J.cons l fun x9 l => J.cons l fun v l => J.int .i64 v fun x10 => J.cons l fun v l => J.int .i64 v fun x11 => J.nil l (F x0 x1 x2 x3 x4 x5 x6 x7 x8 x9 x10 x11 h)
def s39l2_G (F : s39l2_T) (x0 x1 x2 x3 x4 x5 x6 : AVal) (x7 x8 : Int) (x9 : AVal) (x10 x11 : Int) (h : Heap) : Prop := gJ [.any, .any, .any, .any, .any, .any, .any, .int .i64, .int .i64, .any, .int .i64, .int .i64] [x0, x1, x2, x3, x4, x5, x6, (.int .i64 x7), (.int .i64 x8), x9, (.int .i64 x10), (.int .i64 x11)] h (s39l2_R F)
def s39l2_E (F : Nat → s39l2_T) (x0 x1 x2 x3 x4 x5 x6 : AVal) (x7 x8 : Int) (x9 : AVal) (x10 x11 : Int) (h : Heap) : Prop := gJ [.any, .any, .any, .any, .any, .any, .any, .int .i64, .int .i64, .any, .int .i64, .int .i64] [x0, x1, x2, x3, x4, x5, x6, (.int .i64 x7), (.int .i64 x8), x9, (.int .i64 x10), (.int .i64 x11)] h (fun l h => ∃ n, s39l2_R (F n) l h)
theorem s39l2_go {F : s39l2_T} {x0 x1 x2 x3 x4 x5 x6 : AVal} {x7 x8 : Int} {x9 : AVal} {x10 x11 : Int} {h : Heap} (H : F x0 x1 x2 x3 x4 x5 x6 x7 x8 x9 x10 x11 h) : s39l2_G F x0 x1 x2 x3 x4 x5 x6 x7 x8 x9 x10 x11 h := gJ_plain rfl H
theorem s39l2_in {F : Nat → s39l2_T} {x0 x1 x2 x3 x4 x5 x6 : AVal} {x7 x8 : Int} {x9 : AVal} {x10 x11 : Int} {h : Heap} (n : Nat) (H : F n x0 x1 x2 x3 x4 x5 x6 x7 x8 x9 x10 x11 h) : s39l2_E F x0 x1 x2 x3 x4 x5 x6 x7 x8 x9 x10 x11 h := gJ_plain rfl ⟨n, H⟩

def s39c3 (Ψ : AVal → Heap → Prop) (L1 : s39l1_T) (L2 : s39l2_T) (m2 t2_2 leq2 out2 a1 next1 row1 : AVal) (t24_2 t25_2 : Int) (t32_1 : AVal) (t33_1 t34_1 : Int) (h : Heap) : Prop :=
  rg (t34_1 + 1) (
    L2 m2 t2_2 leq2 out2 a1 next1 row1 t24_2 t25_2 t32_1 t33_1 (t34_1 + 1) h)

def s39l2 (Ψ : AVal → Heap → Prop) (L1 : s39l1_T) : Nat → s39l2_T
  | 0, _, _, _, _, _, _, _, _, _, _, _, _, _ => False
  | n3 + 1, m1, t2_1, leq1, out1, a, next, row, t24_1, t25_1, t32, t33, t34, h =>
    ifT (decide (t34 < t33)) (
      ixS 1 t32 t34 fun p =>
      ld1 h p fun v10 =>
      tInt .i64 v10 fun v11 =>
      callV prog next [(.int .i64 v11)] h fun v12 h_11 =>
      tBool v12 fun v13 =>
      ifT v13 (
        appC 1 8 h_11 row (.lsl 1 [(.int .i64 v11)]) fun v14 h_12 =>
        s39c3 Ψ L1 (s39l2_G (s39l2 Ψ L1 n3)) m1 t2_1 leq1 out1 a next v14 t24_1 t25_1 t32 t33 t34 h_12) (
        s39c3 Ψ L1 (s39l2_G (s39l2 Ψ L1 n3)) m1 t2_1 leq1 out1 a next row t24_1 t25_1 t32 t33 t34 h_11)) (
      addOff out1 0 fun p1 =>
      ld1 h p1 fun v15 =>
      chk (sc row) (
        appC 1 24 h v15 (.lsl 1 [row]) fun v16 h_13 =>
        addOff out1 0 fun p2 =>
        chk (sc v16) (
          st true h_13 p2 [v16] fun h_14 =>
          addOff out1 1 fun p3 =>
          ld1 h_14 p3 fun v17 =>
          addOff m1 1 fun p4 =>
          ld1 h_14 p4 fun v18 =>
          ld1 h_14 a fun v19 =>
          tInt .i64 v19 fun v20 =>
          ixS 1 v18 v20 fun p5 =>
          ld1 h_14 p5 fun v21 =>
          callG prog 35 [v21] h_14 fun v22 h_15 =>
          (ld1 h_15 p3 fun v23 =>
          v23 = v17) ∧
          chk (sc v22) (
            (ld1 h_15 p3 fun v24 =>
            v24 = v17) ∧
            appC 1 24 h_15 v17 (.lsl 1 [v22]) fun v25 h_16 =>
            addOff out1 1 fun p6 =>
            chk (sc v25) (
              st true h_16 p6 [v25] fun h_17 =>
              rg (t25_1 + 1) (
                L1 m1 t2_1 leq1 out1 t24_1 (t25_1 + 1) h_17))))))

def s39l1 (Ψ : AVal → Heap → Prop) : Nat → s39l1_T
  | 0, _, _, _, _, _, _, _ => False
  | n1 + 1, m, t2, leq, out, t24, t25, h =>
    ifT (decide (t25 < t24)) (
      Sym.newRow 1 [(.int .i64 0)] h fun r3 h_6 =>
      st true h_6 (.ptr r3 0 0) [(.int .i64 t25)] fun h_7 =>
      ldN 2 h_7 m fun l_6 =>
      tCons l_6 fun v6 l_7 =>
      tCons l_7 fun v7 l_8 =>
      tNil l_8 (
        callG prog 68 [(.agg [v6, v7]), (.func (.func 69) [] [(.ptr r3 0 0), leq])] h_7 fun v8 h_8 =>
        Sym.newRow 1 [.nilsl] h_8 fun r4 h_9 =>
        chk (sc v8) (
          st true h_9 (.ptr r4 0 0) [v8] fun h_10 =>
          ld1 h_10 (.ptr r4 0 0) fun v9 =>
          lenN v9 fun n2 =>
          s39l2_E (s39l2 Ψ (s39l1_G (s39l1 Ψ n1))) m t2 leq out (.ptr r3 0 0) (.func (.func 70) [] [(.ptr r4 0 0), leq]) .nilsl t24 t25 v9 n2 0 h_10))) (
      ldN 2 h out fun l_9 =>
      tCons l_9 fun v26 l_10 =>
      tCons l_10 fun v27 l_11 =>
      tNil l_11 (
        st false h t2 [v26, v27] fun h_18 =>
        ldN 2 h_18 t2 fun l_12 =>
        tCons l_12 fun v28 l_13 =>
        tCons l_13 fun v29 l_14 =>
        tNil l_14 (
          retG (.tuple [(.agg [v28, v29]), (.int .i64 0)]) h_18 Ψ)))

def s39 (Ψ : AVal → Heap → Prop) (m_Up : AVal) (m_Val : AVal) (h : Heap) : Prop :=
  Sym.newRow 2 [(.agg [.nilsl, .nilsl])] h fun r h_ =>
  callG prog 67 [(.agg [m_Up, m_Val]), .nilsl] h_ fun v h_1 =>
  tTup v fun l_ =>
  tCons l_ fun v1 l_1 =>
  tCons l_1 fun v2 l_2 =>
  tInt .i64 v2 fun v3 =>
  tNil l_2 (
    Sym.newRow 1 [.nilfunc] h_1 fun r1 h_2 =>
    chk (sc v1) (
      st true h_2 (.ptr r1 0 0) [v1] fun h_3 =>
      ifT (v3 != 0) (
        st false h_3 (.ptr r 0 0) [.nilsl, .nilsl] fun h_4 =>
        ldN 2 h_4 (.ptr r 0 0) fun l_3 =>
        tCons l_3 fun v4 l_4 =>
        tCons l_4 fun v5 l_5 =>
        tNil l_5 (
          retG (.tuple [(.agg [v4, v5]), (.int .i64 v3)]) h_4 Ψ)) (
        Sym.newRow 2 [(.agg [.nilsl, .nilsl])] h_3 fun r2 h_5 =>
        lenN m_Up fun n =>
        s39l1_E (s39l1 Ψ) (.lptr [m_Up, m_Val]) (.ptr r 0 0) (.ptr r1 0 0) (.ptr r2 0 0) n 0 h_5)))

def s39_A (Ψ : AVal → Heap → Prop) : Ann :=
  .seq (.reg [⟨none, [(0, true), (1, false), (2, false)]⟩])
  (.seq (rA 8)
  (.seq (.seq (rA 2)
  (.cond (.seq (rA 4)
  (.leaf))
  (.leaf)))
  (.seq (rA 1)
  (.seq (.seq (rA 4)
  (.block (.loop [(1, .any), (2, .any), (4, .any), (6, .any), (24, .int .i64), (25, .int .i64)] (fun n l h => s39l1_R (s39l1 Ψ n) l h) (fun L1 =>
  .seq (rA 1)
  (.seq (.cond (.leaf)
  (.leaf))
  (.seq (.block (.seq (rA 3)
  (.seq (rA 5)
  (.seq (rA 2)
  (.seq (rA 1)
  (.seq (.seq (rA 3)
  (.block (.loop [(1, .any), (2, .any), (4, .any), (6, .any), (7, .any), (9, .any), (10, .any), (24, .int .i64), (25, .int .i64), (32, .any), (33, .int .i64), (34, .int .i64)] (fun n l h => s39l2_R (s39l2 Ψ (fun y0 y1 y2 y3 y4 y5 h => L1 [y0, y1, y2, y3, (.int .i64 y4), (.int .i64 y5)] h) n) l h) (fun L2 =>
  .seq (rA 1)
  (.seq (.cond (.leaf)
  (.leaf))
  (.cut [(1, .any), (2, .any), (4, .any), (6, .any), (7, .any), (9, .any), (10, .any), (24, .int .i64), (25, .int .i64), (32, .any), (33, .int .i64), (34, .int .i64)] (fun l h => J.cons l fun x0 l => J.cons l fun x1 l => J.cons l fun x2 l => J.cons l fun x3 l => J.cons l fun x4 l => J.cons l fun x5 l => J.cons l fun x6 l => J.cons l fun v l => J.int .i64 v fun x7 => J.cons l fun v l => J.int .i64 v fun x8 => J.cons l fun x9 l => J.cons l fun v l => J.int .i64 v fun x10 => J.cons l fun v l => J.int .i64 v fun x11 => J.nil l (s39c3 Ψ (fun y0 y1 y2 y3 y4 y5 h => L1 [y0, y1, y2, y3, (.int .i64 y4), (.int .i64 y5)] h) (fun y0 y1 y2 y3 y4 y5 y6 y7 y8 y9 y10 y11 h => L2 [y0, y1, y2, y3, y4, y5, y6, (.int .i64 y7), (.int .i64 y8), y9, (.int .i64 y10), (.int .i64 y11)] h) x0 x1 x2 x3 x4 x5 x6 x7 x8 x9 x10 x11 h)) (.block (.seq (rA 3)
  (.seq (rA 3)
  (.cond (.reg [⟨none, [(0, false), (1, false), (2, true), (3, false), (4, false)]⟩])
  (.leaf)))))
  (rA 2)))))))
  (.seq (.reg [⟨none, [(0, false), (1, false), (2, false), (3, true), (4, false), (5, false), (6, false)]⟩])
  (.draw [(0, false), (1, false), (2, false), (3, false), (4, false), (5, false), (6, false), (7, false), (8, true), (9, false), (10, false), (11, false)] [0, 1, 0, 4, 0, 28, 60, 124, 252, 511, 1023, 2047]))))))))
  (rA 2)))))))
  (.seq (rA 3)
  (.leaf))))))

theorem s39_ok {Ψ : AVal → Heap → Prop} {m_Up : AVal} {m_Val : AVal} {h : Heap} (H : s39 Ψ m_Up m_Val h) : ACalls prog 39 [(.agg [m_Up, m_Val])] h Ψ :=
  calls_of_evF func39 (by kernel_rfl) (by kernel_rfl) (by kernel_rfl)
    (Eq.mpr (by as_aux_lemma => kernel_rfl : oblF prog f39 (s39_A Ψ) Ψ = (True ∧ True ∧ (True ∧ (True ∧ True) ∧ True) ∧ True ∧ (True ∧ (∀ (h : Heap) (x0 x1 x2 x3 : AVal) (x4 x5 : Int), ON (s39l1 Ψ 0 x0 x1 x2 x3 x4 x5 h)) ∧ ∀ n1 : Nat, (∀ (h : Heap) (x0 x1 x2 x3 : AVal) (x4 x5 : Int), OI (s39l1 Ψ (n1 + 1) x0 x1 x2 x3 x4 x5 h)) ∧ (True ∧ (True ∧ True) ∧ (True ∧ True ∧ True ∧ True ∧ (True ∧ (∀ (h : Heap) (x0 x1 x2 x3 x4 x5 x6 : AVal) (x7 x8 : Int) (x9 : AVal) (x10 x11 : Int), ON (s39l2 Ψ (s39l1_G (s39l1 Ψ n1)) 0 x0 x1 x2 x3 x4 x5 x6 x7 x8 x9 x10 x11 h)) ∧ ∀ n2 : Nat, (∀ (h : Heap) (x0 x1 x2 x3 x4 x5 x6 : AVal) (x7 x8 : Int) (x9 : AVal) (x10 x11 : Int), OI (s39l2 Ψ (s39l1_G (s39l1 Ψ n1)) (n2 + 1) x0 x1 x2 x3 x4 x5 x6 x7 x8 x9 x10 x11 h)) ∧ (True ∧ (True ∧ True) ∧ (True ∧ True ∧ True ∧ True) ∧ (∀ (h : Heap) (x0 x1 x2 x3 x4 x5 x6 : AVal) (x7 x8 : Int) (x9 : AVal) (x10 x11 : Int), OI (s39c3 Ψ (s39l1_G (s39l1 Ψ n1)) (s39l2_G (s39l2 Ψ (s39l1_G (s39l1 Ψ n1)) n2)) x0 x1 x2 x3 x4 x5 x6 x7 x8 x9 x10 x11 h)) ∧ (True))) ∧ True ∧ True) ∧ True)) ∧ True ∧ True)) ⟨trivial, ⟨trivial, ⟨⟨trivial, ⟨⟨trivial, trivial⟩, trivial⟩⟩, ⟨trivial, ⟨⟨trivial, ⟨fun _ _ _ _ _ _ _ H => H, fun _ => ⟨fun _ _ _ _ _ _ _ H => H, ⟨trivial, ⟨⟨trivial, trivial⟩, ⟨⟨trivial, ⟨trivial, ⟨trivial, ⟨trivial, ⟨⟨trivial, ⟨fun _ _ _ _ _ _ _ _ _ _ _ _ _ H => H, fun _ => ⟨fun _ _ _ _ _ _ _ _ _ _ _ _ _ H => H, ⟨trivial, ⟨⟨trivial, trivial⟩, ⟨⟨trivial, ⟨trivial, ⟨trivial, trivial⟩⟩⟩, fun _ _ _ _ _ _ _ _ _ _ _ _ _ H => H, trivial⟩⟩⟩⟩⟩⟩, ⟨trivial, trivial⟩⟩⟩⟩⟩⟩, trivial⟩⟩⟩⟩⟩⟩, ⟨trivial, trivial⟩⟩⟩⟩⟩⟩)
    (Eq.mpr (by as_aux_lemma => kernel_rfl : evF prog f39 (s39_A Ψ) Ψ [(.agg [m_Up, m_Val])] h = s39 Ψ m_Up m_Val h) H)

/- 42 dictum/formula.Word -/
abbrev s42l1_T := ByteArray → Int → Int → Heap → Prop
def s42l1_R (F : s42l1_T) (l : List AVal) (h : Heap) : Prop := J.cons l fun v l => J.str v fun x0 => J.cons l fun v l => J.int .i64 v fun x1 => J.cons l fun v l => J.int .i64 v fun x2 => J.nil l (F x0 x1 x2 h)
def s42l1_G (F : s42l1_T) (x0 : ByteArray) (x1 x2 : Int) (h : Heap) : Prop := gJ [.str, .int .i64, .int .i64] [(.str x0), (.int .i64 x1), (.int .i64 x2)] h (s42l1_R F)
def s42l1_E (F : Nat → s42l1_T) (x0 : ByteArray) (x1 x2 : Int) (h : Heap) : Prop := gJ [.str, .int .i64, .int .i64] [(.str x0), (.int .i64 x1), (.int .i64 x2)] h (fun l h => ∃ n, s42l1_R (F n) l h)
theorem s42l1_go {F : s42l1_T} {x0 : ByteArray} {x1 x2 : Int} {h : Heap} (H : F x0 x1 x2 h) : s42l1_G F x0 x1 x2 h := gJ_plain rfl H
theorem s42l1_in {F : Nat → s42l1_T} {x0 : ByteArray} {x1 x2 : Int} {h : Heap} (n : Nat) (H : F n x0 x1 x2 h) : s42l1_E F x0 x1 x2 h := gJ_plain rfl ⟨n, H⟩

def s42c3 (Ψ : AVal → Heap → Prop) (L1 : s42l1_T) (name3 : ByteArray) (t8_2 t9_2 : Int) (t44 : Bool) (h : Heap) : Prop :=
  ifT t44 (
    retG (.bool false) h Ψ) (
    rg (t9_2 + 1) (
      L1 name3 t8_2 (t9_2 + 1) h))

def s42c2 (Ψ : AVal → Heap → Prop) (L1 : s42l1_T) (name2 : ByteArray) (i c : Int) (letter : Bool) (t8_1 t9_1 : Int) (h : Heap) : Prop :=
  ifT (!letter) (
    ifT (i == 0) (
      s42c3 Ψ L1 name2 t8_1 t9_1 true h) (
      ifT (c != 95) (
        ifT (c != 39) (
          ifT (decide (c < 48)) (
            s42c3 Ψ L1 name2 t8_1 t9_1 true h) (
            s42c3 Ψ L1 name2 t8_1 t9_1 (decide (57 < c)) h)) (
          s42c3 Ψ L1 name2 t8_1 t9_1 false h)) (
        s42c3 Ψ L1 name2 t8_1 t9_1 false h))) (
    s42c3 Ψ L1 name2 t8_1 t9_1 false h)

def s42l1 (Ψ : AVal → Heap → Prop) : Nat → s42l1_T
  | 0, _, _, _, _ => False
  | n + 1, name1, t8, t9, h =>
    ifT (decide (t9 < t8)) (
      ((0 : Int) ≤ t9 ∧ t9 < (name1.size : Int)) ∧
      ifT (decide (97 ≤ (bitsI .or .u8 (btA name1 t9) 32))) (
        s42c2 Ψ (s42l1_G (s42l1 Ψ n)) name1 t9 (btA name1 t9) (decide ((bitsI .or .u8 (btA name1 t9) 32) ≤ 122)) t8 t9 h) (
        s42c2 Ψ (s42l1_G (s42l1 Ψ n)) name1 t9 (btA name1 t9) false t8 t9 h)) (
      ifT (!strEq name1 (ByteArray.mk #[])) (
        ifT (decide ((name1.size : Int) ≤ 31)) (
          callG prog 72 [(.str name1)] h fun v h_ =>
          tBool v fun v1 =>
          retG (.bool (!v1)) h_ Ψ) (
          retG (.bool false) h Ψ)) (
        retG (.bool false) h Ψ))

def s42 (Ψ : AVal → Heap → Prop) (name : ByteArray) (h : Heap) : Prop :=
  s42l1_E (s42l1 Ψ) name (name.size : Int) 0 h

def s42_A (Ψ : AVal → Heap → Prop) : Ann :=
  .seq (rA 1)
  (.seq (.seq (rA 3)
  (.block (.loop [(0, .str), (8, .int .i64), (9, .int .i64)] (fun n l h => s42l1_R (s42l1 Ψ n) l h) (fun L1 =>
  .seq (rA 1)
  (.seq (.cond (.leaf)
  (.leaf))
  (.seq (.block (.seq (rA 2)
  (.seq (rA 4)
  (.seq (rA 3)
  (.cut [(0, .str), (3, .int .i64), (4, .int .u8), (6, .bool), (8, .int .i64), (9, .int .i64)] (fun l h => J.cons l fun v l => J.str v fun x0 => J.cons l fun v l => J.int .i64 v fun x1 => J.cons l fun v l => J.int .u8 v fun x2 => J.cons l fun v l => J.bool v fun x3 => J.cons l fun v l => J.int .i64 v fun x4 => J.cons l fun v l => J.int .i64 v fun x5 => J.nil l (s42c2 Ψ (fun y0 y1 y2 h => L1 [(.str y0), (.int .i64 y1), (.int .i64 y2)] h) x0 x1 x2 x3 x4 x5 h)) (.reg [⟨none, [(0, false), (1, false), (2, false)]⟩, ⟨some (19, true), [(3, false), (4, false)]⟩, ⟨none, [(5, false), (6, false)]⟩])
  (.cut [(0, .str), (8, .int .i64), (9, .int .i64), (44, .bool)] (fun l h => J.cons l fun v l => J.str v fun x0 => J.cons l fun v l => J.int .i64 v fun x1 => J.cons l fun v l => J.int .i64 v fun x2 => J.cons l fun v l => J.bool v fun x3 => J.nil l (s42c3 Ψ (fun y0 y1 y2 h => L1 [(.str y0), (.int .i64 y1), (.int .i64 y2)] h) x0 x1 x2 x3 h)) (.reg [⟨none, [(0, false), (1, false), (2, false)]⟩, ⟨some (25, true), [(3, false), (4, false), (5, false)]⟩, ⟨some (28, false), [(6, false), (7, false), (8, false)]⟩, ⟨some (31, true), [(9, false), (10, false)]⟩, ⟨some (28, false), [(11, false), (12, false)]⟩, ⟨some (35, true), [(13, false), (14, false), (15, false)]⟩, ⟨some (38, false), [(16, false), (17, false)]⟩, ⟨some (35, true), [(18, false)]⟩, ⟨some (28, false), [(19, false)]⟩, ⟨some (25, true), [(20, false)]⟩, ⟨none, [(21, false)]⟩])
  (.cond (.seq (rA 1)
  (.leaf))
  (.leaf))))))))
  (rA 2)))))))
  (.seq (.reg [⟨none, [(0, false), (1, false), (2, false)]⟩, ⟨some (48, true), [(3, false), (4, false), (5, false)]⟩, ⟨none, [(6, false), (7, false)]⟩, ⟨some (53, true), [(8, false), (9, false), (10, false)]⟩, ⟨none, [(11, false), (12, false)]⟩])
  (.leaf)))

theorem s42_ok {Ψ : AVal → Heap → Prop} {name : ByteArray} {h : Heap} (H : s42 Ψ name h) : ACalls prog 42 [(.str name)] h Ψ :=
  calls_of_evF func42 (by kernel_rfl) (by kernel_rfl) (by kernel_rfl)
    (Eq.mpr (by as_aux_lemma => kernel_rfl : oblF prog f42 (s42_A Ψ) Ψ = (True ∧ (True ∧ (∀ (h : Heap) (x0 : ByteArray) (x1 x2 : Int), ON (s42l1 Ψ 0 x0 x1 x2 h)) ∧ ∀ n1 : Nat, (∀ (h : Heap) (x0 : ByteArray) (x1 x2 : Int), OI (s42l1 Ψ (n1 + 1) x0 x1 x2 h)) ∧ (True ∧ (True ∧ True) ∧ (True ∧ True ∧ True ∧ (True) ∧ (∀ (h : Heap) (x0 : ByteArray) (x1 x2 : Int) (x3 : Bool) (x4 x5 : Int), OI (s42c2 Ψ (s42l1_G (s42l1 Ψ n1)) x0 x1 x2 x3 x4 x5 h)) ∧ ((True) ∧ (∀ (h : Heap) (x0 : ByteArray) (x1 x2 : Int) (x3 : Bool), OI (s42c3 Ψ (s42l1_G (s42l1 Ψ n1)) x0 x1 x2 x3 h)) ∧ ((True ∧ True) ∧ True))) ∧ True)) ∧ True ∧ True)) ⟨trivial, ⟨⟨trivial, ⟨fun _ _ _ _ H => H, fun _ => ⟨fun _ _ _ _ H => H, ⟨trivial, ⟨⟨trivial, trivial⟩, ⟨⟨trivial, ⟨trivial, ⟨trivial, ⟨trivial, fun _ _ _ _ _ _ _ H => H, ⟨trivial, fun _ _ _ _ _ H => H, ⟨⟨trivial, trivial⟩, trivial⟩⟩⟩⟩⟩⟩, trivial⟩⟩⟩⟩⟩⟩, ⟨trivial, trivial⟩⟩⟩)
    (Eq.mpr (by as_aux_lemma => kernel_rfl : evF prog f42 (s42_A Ψ) Ψ [(.str name)] h = s42 Ψ name h) H)

/- 44 slices.ContainsFunc[[]string,string] -/
def s44 (Ψ : AVal → Heap → Prop) (s : AVal) (f : AVal) (h : Heap) : Prop :=
  callG prog 74 [s, f] h fun v h_ =>
  tInt .i64 v fun v1 =>
  retG (.bool (decide (0 ≤ v1))) h_ Ψ

def s44_A (Ψ : AVal → Heap → Prop) : Ann :=
  .seq (rA 1)
  (.seq (rA 5)
  (.leaf))

theorem s44_ok {Ψ : AVal → Heap → Prop} {s : AVal} {f : AVal} {h : Heap} (H : s44 Ψ s f h) : ACalls prog 44 [s, f] h Ψ :=
  calls_of_evF func44 (by kernel_rfl) (by kernel_rfl) (by kernel_rfl)
    (Eq.mpr (by as_aux_lemma => kernel_rfl : oblF prog f44 (s44_A Ψ) Ψ = (True ∧ True ∧ True)) ⟨trivial, ⟨trivial, trivial⟩⟩)
    (Eq.mpr (by as_aux_lemma => kernel_rfl : evF prog f44 (s44_A Ψ) Ψ [s, f] h = s44 Ψ s f h) H)

/- 47 dictum/dictumref17.Check -/
def s47 (Ψ : AVal → Heap → Prop) (m_Up : AVal) (m_Val : AVal) (h : Heap) : Prop :=
  callG prog 31 [(.agg [m_Up, m_Val])] h fun v h_ =>
  tTup v fun l_ =>
  tCons l_ fun v1 l_1 =>
  tCons l_1 fun v2 l_2 =>
  tBool v2 fun v3 =>
  tNil l_2 (
    ifT (!v3) (
      retG (.int .i64 170) h_ Ψ) (
      retG (.int .i64 0) h_ Ψ))

def s47_A (Ψ : AVal → Heap → Prop) : Ann :=
  .seq (.reg [⟨none, [(0, true), (1, false)]⟩])
  (.seq (rA 7)
  (.seq (.seq (rA 2)
  (.cond (.seq (rA 1)
  (.leaf))
  (.leaf)))
  (.seq (rA 1)
  (.leaf))))

theorem s47_ok {Ψ : AVal → Heap → Prop} {m_Up : AVal} {m_Val : AVal} {h : Heap} (H : s47 Ψ m_Up m_Val h) : ACalls prog 47 [(.agg [m_Up, m_Val])] h Ψ :=
  calls_of_evF func47 (by kernel_rfl) (by kernel_rfl) (by kernel_rfl)
    (Eq.mpr (by as_aux_lemma => kernel_rfl : oblF prog f47 (s47_A Ψ) Ψ = (True ∧ True ∧ (True ∧ (True ∧ True) ∧ True) ∧ True ∧ True)) ⟨trivial, ⟨trivial, ⟨⟨trivial, ⟨⟨trivial, trivial⟩, trivial⟩⟩, ⟨trivial, trivial⟩⟩⟩⟩)
    (Eq.mpr (by as_aux_lemma => kernel_rfl : evF prog f47 (s47_A Ψ) Ψ [(.agg [m_Up, m_Val])] h = s47 Ψ m_Up m_Val h) H)

/- 49 dictum/dictumref19.has -/
abbrev s49l1_T := AVal → ByteArray → Int → Heap → Prop
def s49l1_R (F : s49l1_T) (l : List AVal) (h : Heap) : Prop := J.cons l fun x0 l => J.cons l fun v l => J.str v fun x1 => J.cons l fun v l => J.int .i64 v fun x2 => J.nil l (F x0 x1 x2 h)
def s49l1_G (F : s49l1_T) (x0 : AVal) (x1 : ByteArray) (x2 : Int) (h : Heap) : Prop := gJ [.any, .str, .int .i64] [x0, (.str x1), (.int .i64 x2)] h (s49l1_R F)
def s49l1_E (F : Nat → s49l1_T) (x0 : AVal) (x1 : ByteArray) (x2 : Int) (h : Heap) : Prop := gJ [.any, .str, .int .i64] [x0, (.str x1), (.int .i64 x2)] h (fun l h => ∃ n, s49l1_R (F n) l h)
theorem s49l1_go {F : s49l1_T} {x0 : AVal} {x1 : ByteArray} {x2 : Int} {h : Heap} (H : F x0 x1 x2 h) : s49l1_G F x0 x1 x2 h := gJ_plain rfl H
theorem s49l1_in {F : Nat → s49l1_T} {x0 : AVal} {x1 : ByteArray} {x2 : Int} {h : Heap} (n : Nat) (H : F n x0 x1 x2 h) : s49l1_E F x0 x1 x2 h := gJ_plain rfl ⟨n, H⟩

def s49l1 (Ψ : AVal → Heap → Prop) : Nat → s49l1_T
  | 0, _, _, _, _ => False
  | n + 1, l_1, s1, i, h =>
    lenN l_1 fun n1 =>
    ifT (decide (i < n1)) (
      ixS 1 l_1 i fun p =>
      ld1 h p fun v =>
      tStr v fun v1 =>
      ifT (strEq v1 s1) (
        retG (.bool true) h Ψ) (
        rg (i + 1) (
          s49l1_G (s49l1 Ψ n) l_1 s1 (i + 1) h))) (
      retG (.bool false) h Ψ)

def s49 (Ψ : AVal → Heap → Prop) (l_ : AVal) (s : ByteArray) (h : Heap) : Prop :=
  s49l1_E (s49l1 Ψ) l_ s 0 h

def s49_A (Ψ : AVal → Heap → Prop) : Ann :=
  .seq (rA 1)
  (.seq (.seq (rA 1)
  (.block (.loop [(0, .any), (1, .str), (5, .int .i64)] (fun n l h => s49l1_R (s49l1 Ψ n) l h) (fun L1 =>
  .seq (.seq (rA 4)
  (.cond (.leaf)
  (.leaf)))
  (.seq (.block (.seq (rA 6)
  (.cond (.seq (rA 1)
  (.leaf))
  (.leaf))))
  (rA 3))))))
  (.seq (rA 1)
  (.leaf)))

theorem s49_ok {Ψ : AVal → Heap → Prop} {l_ : AVal} {s : ByteArray} {h : Heap} (H : s49 Ψ l_ s h) : ACalls prog 49 [l_, (.str s)] h Ψ :=
  calls_of_evF func49 (by kernel_rfl) (by kernel_rfl) (by kernel_rfl)
    (Eq.mpr (by as_aux_lemma => kernel_rfl : oblF prog f49 (s49_A Ψ) Ψ = (True ∧ (True ∧ (∀ (h : Heap) (x0 : AVal) (x1 : ByteArray) (x2 : Int), ON (s49l1 Ψ 0 x0 x1 x2 h)) ∧ ∀ n1 : Nat, (∀ (h : Heap) (x0 : AVal) (x1 : ByteArray) (x2 : Int), OI (s49l1 Ψ (n1 + 1) x0 x1 x2 h)) ∧ ((True ∧ True ∧ True) ∧ (True ∧ (True ∧ True) ∧ True) ∧ True)) ∧ True ∧ True)) ⟨trivial, ⟨⟨trivial, ⟨fun _ _ _ _ H => H, fun _ => ⟨fun _ _ _ _ H => H, ⟨⟨trivial, ⟨trivial, trivial⟩⟩, ⟨⟨trivial, ⟨⟨trivial, trivial⟩, trivial⟩⟩, trivial⟩⟩⟩⟩⟩, ⟨trivial, trivial⟩⟩⟩)
    (Eq.mpr (by as_aux_lemma => kernel_rfl : evF prog f49 (s49_A Ψ) Ψ [l_, (.str s)] h = s49 Ψ l_ s h) H)

/- 51 slices.ContainsFunc[[]int,int] -/
def s51 (Ψ : AVal → Heap → Prop) (s : AVal) (f : AVal) (h : Heap) : Prop :=
  callG prog 79 [s, f] h fun v h_ =>
  tInt .i64 v fun v1 =>
  retG (.bool (decide (0 ≤ v1))) h_ Ψ

def s51_A (Ψ : AVal → Heap → Prop) : Ann :=
  .seq (rA 1)
  (.seq (rA 5)
  (.leaf))

theorem s51_ok {Ψ : AVal → Heap → Prop} {s : AVal} {f : AVal} {h : Heap} (H : s51 Ψ s f h) : ACalls prog 51 [s, f] h Ψ :=
  calls_of_evF func51 (by kernel_rfl) (by kernel_rfl) (by kernel_rfl)
    (Eq.mpr (by as_aux_lemma => kernel_rfl : oblF prog f51 (s51_A Ψ) Ψ = (True ∧ True ∧ True)) ⟨trivial, ⟨trivial, trivial⟩⟩)
    (Eq.mpr (by as_aux_lemma => kernel_rfl : evF prog f51 (s51_A Ψ) Ψ [s, f] h = s51 Ψ s f h) H)

/- 53 slices.Equal[[]string,string] -/
abbrev s53l1_T := AVal → AVal → Int → Int → Heap → Prop
def s53l1_R (F : s53l1_T) (l : List AVal) (h : Heap) : Prop := J.cons l fun x0 l => J.cons l fun x1 l => J.cons l fun v l => J.int .i64 v fun x2 => J.cons l fun v l => J.int .i64 v fun x3 => J.nil l (F x0 x1 x2 x3 h)
def s53l1_G (F : s53l1_T) (x0 x1 : AVal) (x2 x3 : Int) (h : Heap) : Prop := gJ [.any, .any, .int .i64, .int .i64] [x0, x1, (.int .i64 x2), (.int .i64 x3)] h (s53l1_R F)
def s53l1_E (F : Nat → s53l1_T) (x0 x1 : AVal) (x2 x3 : Int) (h : Heap) : Prop := gJ [.any, .any, .int .i64, .int .i64] [x0, x1, (.int .i64 x2), (.int .i64 x3)] h (fun l h => ∃ n, s53l1_R (F n) l h)
theorem s53l1_go {F : s53l1_T} {x0 x1 : AVal} {x2 x3 : Int} {h : Heap} (H : F x0 x1 x2 x3 h) : s53l1_G F x0 x1 x2 x3 h := gJ_plain rfl H
theorem s53l1_in {F : Nat → s53l1_T} {x0 x1 : AVal} {x2 x3 : Int} {h : Heap} (n : Nat) (H : F n x0 x1 x2 x3 h) : s53l1_E F x0 x1 x2 x3 h := gJ_plain rfl ⟨n, H⟩

def s53l1 (Ψ : AVal → Heap → Prop) : Nat → s53l1_T
  | 0, _, _, _, _, _ => False
  | n3 + 1, s1_1, s2_1, t12, t13, h =>
    ifT (decide (t13 < t12)) (
      ixS 1 s1_1 t13 fun p =>
      ld1 h p fun v =>
      tStr v fun v1 =>
      ixS 1 s2_1 t13 fun p1 =>
      ld1 h p1 fun v2 =>
      tStr v2 fun v3 =>
      ifT (!strEq v1 v3) (
        retG (.bool false) h Ψ) (
        rg (t13 + 1) (
          s53l1_G (s53l1 Ψ n3) s1_1 s2_1 t12 (t13 + 1) h))) (
      retG (.bool true) h Ψ)

def s53 (Ψ : AVal → Heap → Prop) (s1 : AVal) (s2 : AVal) (h : Heap) : Prop :=
  lenN s1 fun n =>
  lenN s2 fun n1 =>
  ifT (n != n1) (
    retG (.bool false) h Ψ) (
    lenN s1 fun n2 =>
    s53l1_E (s53l1 Ψ) s1 s2 n2 0 h)

def s53_A (Ψ : AVal → Heap → Prop) : Ann :=
  .seq (rA 1)
  (.seq (.seq (rA 5)
  (.cond (.seq (rA 1)
  (.leaf))
  (.leaf)))
  (.seq (.seq (rA 3)
  (.block (.loop [(0, .any), (1, .any), (12, .int .i64), (13, .int .i64)] (fun n l h => s53l1_R (s53l1 Ψ n) l h) (fun L1 =>
  .seq (rA 1)
  (.seq (.cond (.leaf)
  (.leaf))
  (.seq (.block (.seq (rA 2)
  (.seq (.draw [(0, false), (1, false), (2, false), (3, false), (4, false), (5, false), (6, false), (7, false), (8, false)] [0, 0, 3, 7, 0, 0, 48, 112, 255])
  (.cond (.seq (rA 1)
  (.leaf))
  (.leaf)))))
  (rA 2)))))))
  (.seq (rA 1)
  (.leaf))))

theorem s53_ok {Ψ : AVal → Heap → Prop} {s1 : AVal} {s2 : AVal} {h : Heap} (H : s53 Ψ s1 s2 h) : ACalls prog 53 [s1, s2] h Ψ :=
  calls_of_evF func53 (by kernel_rfl) (by kernel_rfl) (by kernel_rfl)
    (Eq.mpr (by as_aux_lemma => kernel_rfl : oblF prog f53 (s53_A Ψ) Ψ = (True ∧ (True ∧ (True ∧ True) ∧ True) ∧ (True ∧ (∀ (h : Heap) (x0 x1 : AVal) (x2 x3 : Int), ON (s53l1 Ψ 0 x0 x1 x2 x3 h)) ∧ ∀ n1 : Nat, (∀ (h : Heap) (x0 x1 : AVal) (x2 x3 : Int), OI (s53l1 Ψ (n1 + 1) x0 x1 x2 x3 h)) ∧ (True ∧ (True ∧ True) ∧ (True ∧ True ∧ (True ∧ True) ∧ True) ∧ True)) ∧ True ∧ True)) ⟨trivial, ⟨⟨trivial, ⟨⟨trivial, trivial⟩, trivial⟩⟩, ⟨⟨trivial, ⟨fun _ _ _ _ _ H => H, fun _ => ⟨fun _ _ _ _ _ H => H, ⟨trivial, ⟨⟨trivial, trivial⟩, ⟨⟨trivial, ⟨trivial, ⟨⟨trivial, trivial⟩, trivial⟩⟩⟩, trivial⟩⟩⟩⟩⟩⟩, ⟨trivial, trivial⟩⟩⟩⟩)
    (Eq.mpr (by as_aux_lemma => kernel_rfl : evF prog f53 (s53_A Ψ) Ψ [s1, s2] h = s53 Ψ s1 s2 h) H)

/- 55 dictum/morph.Bounded$2 -/
def s55 (Ψ : AVal → Heap → Prop) (c : Int) (c0 : AVal) (h : Heap) : Prop :=
  ld1 h c0 fun v =>
  mapGet (.int .i64 0) h v (.int .i64 c) fun v1 b =>
  tInt .i64 v1 fun v2 =>
  retG (.bool (v2 == 0)) h Ψ

def s55_A (Ψ : AVal → Heap → Prop) : Ann :=
  .seq (rA 1)
  (.seq (rA 5)
  (.leaf))

theorem s55_ok {Ψ : AVal → Heap → Prop} {c : Int} {c0 : AVal} {h : Heap} (H : s55 Ψ c c0 h) : ACalls prog 55 [(.int .i64 c), c0] h Ψ :=
  calls_of_evF func55 (by kernel_rfl) (by kernel_rfl) (by kernel_rfl)
    (Eq.mpr (by as_aux_lemma => kernel_rfl : oblF prog f55 (s55_A Ψ) Ψ = (True ∧ True ∧ True)) ⟨trivial, ⟨trivial, trivial⟩⟩)
    (Eq.mpr (by as_aux_lemma => kernel_rfl : evF prog f55 (s55_A Ψ) Ψ [(.int .i64 c), c0] h = s55 Ψ c c0 h) H)

/- 57 dictum/morph.reckon$1 -/
abbrev s57l1_T := AVal → AVal → Int → Int → Heap → Prop
def s57l1_R (F : s57l1_T) (l : List AVal) (h : Heap) : Prop := J.cons l fun x0 l => J.cons l fun x1 l => J.cons l fun v l => J.int .i64 v fun x2 => J.cons l fun v l => J.int .i64 v fun x3 => J.nil l (F x0 x1 x2 x3 h)
def s57l1_G (F : s57l1_T) (x0 x1 : AVal) (x2 x3 : Int) (h : Heap) : Prop := gJ [.any, .any, .int .i64, .int .i64] [x0, x1, (.int .i64 x2), (.int .i64 x3)] h (s57l1_R F)
def s57l1_E (F : Nat → s57l1_T) (x0 x1 : AVal) (x2 x3 : Int) (h : Heap) : Prop := gJ [.any, .any, .int .i64, .int .i64] [x0, x1, (.int .i64 x2), (.int .i64 x3)] h (fun l h => ∃ n, s57l1_R (F n) l h)
theorem s57l1_go {F : s57l1_T} {x0 x1 : AVal} {x2 x3 : Int} {h : Heap} (H : F x0 x1 x2 x3 h) : s57l1_G F x0 x1 x2 x3 h := gJ_plain rfl H
theorem s57l1_in {F : Nat → s57l1_T} {x0 x1 : AVal} {x2 x3 : Int} {h : Heap} (n : Nat) (H : F n x0 x1 x2 x3 h) : s57l1_E F x0 x1 x2 x3 h := gJ_plain rfl ⟨n, H⟩

def s57l1 (Ψ : AVal → Heap → Prop) : Nat → s57l1_T
  | 0, _, _, _, _, _ => False
  | n1 + 1, t3, t17, t18, t19, h =>
    ifT (decide (t19 < t18)) (
      ixS 1 t17 t19 fun p2 =>
      ld1 h p2 fun v7 =>
      tInt .i64 v7 fun v8 =>
      ld1 h t3 fun v9 =>
      callV prog v9 [(.int .i64 v8)] h fun v10 h_1 =>
      rg (t19 + 1) (
        s57l1_G (s57l1 Ψ n1) t3 t17 t18 (t19 + 1) h_1)) (
      retG (.tuple []) h Ψ)

def s57 (Ψ : AVal → Heap → Prop) (v : Int) (c0 : AVal) (c1 : AVal) (c2 : AVal) (h : Heap) : Prop :=
  ld1 h c0 fun v1 =>
  mapGet (.int .i64 0) h v1 (.int .i64 v) fun v2 b =>
  tInt .i64 v2 fun v3 =>
  ifT (decide (0 < v3)) (
    retG (.tuple []) h Ψ) (
    ld1 h c0 fun v4 =>
    mapPut h v4 (.int .i64 v) (.int .i64 1) fun h_ =>
    addOff c1 0 fun p =>
    ld1 h_ p fun v5 =>
    ixS 1 v5 v fun p1 =>
    ld1 h_ p1 fun v6 =>
    lenN v6 fun n =>
    s57l1_E (s57l1 Ψ) c2 v6 n 0 h_)

def s57_A (Ψ : AVal → Heap → Prop) : Ann :=
  .seq (.seq (rA 4)
  (.cond (.leaf)
  (.leaf)))
  (.seq (rA 3)
  (.seq (rA 7)
  (.block (.loop [(3, .any), (17, .any), (18, .int .i64), (19, .int .i64)] (fun n l h => s57l1_R (s57l1 Ψ n) l h) (fun L1 =>
  .seq (rA 1)
  (.seq (.cond (.leaf)
  (.leaf))
  (.seq (.block (.seq (rA 3)
  (rA 3)))
  (rA 2))))))))

theorem s57_ok {Ψ : AVal → Heap → Prop} {v : Int} {c0 : AVal} {c1 : AVal} {c2 : AVal} {h : Heap} (H : s57 Ψ v c0 c1 c2 h) : ACalls prog 57 [(.int .i64 v), c0, c1, c2] h Ψ :=
  calls_of_evF func57 (by kernel_rfl) (by kernel_rfl) (by kernel_rfl)
    (Eq.mpr (by as_aux_lemma => kernel_rfl : oblF prog f57 (s57_A Ψ) Ψ = ((True ∧ True ∧ True) ∧ True ∧ True ∧ (∀ (h : Heap) (x0 x1 : AVal) (x2 x3 : Int), ON (s57l1 Ψ 0 x0 x1 x2 x3 h)) ∧ ∀ n1 : Nat, (∀ (h : Heap) (x0 x1 : AVal) (x2 x3 : Int), OI (s57l1 Ψ (n1 + 1) x0 x1 x2 x3 h)) ∧ (True ∧ (True ∧ True) ∧ (True ∧ True) ∧ True))) ⟨⟨trivial, ⟨trivial, trivial⟩⟩, ⟨trivial, ⟨trivial, ⟨fun _ _ _ _ _ H => H, fun _ => ⟨fun _ _ _ _ _ H => H, ⟨trivial, ⟨⟨trivial, trivial⟩, ⟨⟨trivial, trivial⟩, trivial⟩⟩⟩⟩⟩⟩⟩⟩)
    (Eq.mpr (by as_aux_lemma => kernel_rfl : evF prog f57 (s57_A Ψ) Ψ [(.int .i64 v), c0, c1, c2] h = s57 Ψ v c0 c1 c2 h) H)

/- 59 dictum/dictumref17.Order -/
abbrev s59l1_T := AVal → Int → AVal → Int → Heap → Prop
def s59l1_R (F : s59l1_T) (l : List AVal) (h : Heap) : Prop := J.cons l fun x0 l => J.cons l fun v l => J.int .i64 v fun x1 => J.cons l fun x2 l => J.cons l fun v l => J.int .i64 v fun x3 => J.nil l (F x0 x1 x2 x3 h)
def s59l1_G (F : s59l1_T) (x0 : AVal) (x1 : Int) (x2 : AVal) (x3 : Int) (h : Heap) : Prop := gJ [.any, .int .i64, .any, .int .i64] [x0, (.int .i64 x1), x2, (.int .i64 x3)] h (s59l1_R F)
def s59l1_E (F : Nat → s59l1_T) (x0 : AVal) (x1 : Int) (x2 : AVal) (x3 : Int) (h : Heap) : Prop := gJ [.any, .int .i64, .any, .int .i64] [x0, (.int .i64 x1), x2, (.int .i64 x3)] h (fun l h => ∃ n, s59l1_R (F n) l h)
theorem s59l1_go {F : s59l1_T} {x0 : AVal} {x1 : Int} {x2 : AVal} {x3 : Int} {h : Heap} (H : F x0 x1 x2 x3 h) : s59l1_G F x0 x1 x2 x3 h := gJ_plain rfl H
theorem s59l1_in {F : Nat → s59l1_T} {x0 : AVal} {x1 : Int} {x2 : AVal} {x3 : Int} {h : Heap} (n : Nat) (H : F n x0 x1 x2 x3 h) : s59l1_E F x0 x1 x2 x3 h := gJ_plain rfl ⟨n, H⟩

abbrev s59l2_T := AVal → Int → AVal → Int → AVal → Int → Heap → Prop
def s59l2_R (F : s59l2_T) (l : List AVal) (h : Heap) : Prop := J.cons l fun x0 l => J.cons l fun v l => J.int .i64 v fun x1 => J.cons l fun x2 l => J.cons l fun v l => J.int .i64 v fun x3 => J.cons l fun x4 l => J.cons l fun v l => J.int .i64 v fun x5 => J.nil l (F x0 x1 x2 x3 x4 x5 h)
def s59l2_G (F : s59l2_T) (x0 : AVal) (x1 : Int) (x2 : AVal) (x3 : Int) (x4 : AVal) (x5 : Int) (h : Heap) : Prop := gJ [.any, .int .i64, .any, .int .i64, .any, .int .i64] [x0, (.int .i64 x1), x2, (.int .i64 x3), x4, (.int .i64 x5)] h (s59l2_R F)
def s59l2_E (F : Nat → s59l2_T) (x0 : AVal) (x1 : Int) (x2 : AVal) (x3 : Int) (x4 : AVal) (x5 : Int) (h : Heap) : Prop := gJ [.any, .int .i64, .any, .int .i64, .any, .int .i64] [x0, (.int .i64 x1), x2, (.int .i64 x3), x4, (.int .i64 x5)] h (fun l h => ∃ n, s59l2_R (F n) l h)
theorem s59l2_go {F : s59l2_T} {x0 : AVal} {x1 : Int} {x2 : AVal} {x3 : Int} {x4 : AVal} {x5 : Int} {h : Heap} (H : F x0 x1 x2 x3 x4 x5 h) : s59l2_G F x0 x1 x2 x3 x4 x5 h := gJ_plain rfl H
theorem s59l2_in {F : Nat → s59l2_T} {x0 : AVal} {x1 : Int} {x2 : AVal} {x3 : Int} {x4 : AVal} {x5 : Int} {h : Heap} (n : Nat) (H : F n x0 x1 x2 x3 x4 x5 h) : s59l2_E F x0 x1 x2 x3 x4 x5 h := gJ_plain rfl ⟨n, H⟩

abbrev s59l3_T := AVal → Int → AVal → Int → AVal → Int → AVal → Int → Heap → Prop
def s59l3_R (F : s59l3_T) (l : List AVal) (h : Heap) : Prop := J.cons l fun x0 l => J.cons l fun v l => J.int .i64 v fun x1 => J.cons l fun x2 l => J.cons l fun v l => J.int .i64 v fun x3 => J.cons l fun x4 l => J.cons l fun v l => J.int .i64 v fun x5 => J.cons l fun x6 l => J.cons l fun v l => J.int .i64 v fun x7 => J.nil l (F x0 x1 x2 x3 x4 x5 x6 x7 h)
def s59l3_G (F : s59l3_T) (x0 : AVal) (x1 : Int) (x2 : AVal) (x3 : Int) (x4 : AVal) (x5 : Int) (x6 : AVal) (x7 : Int) (h : Heap) : Prop := gJ [.any, .int .i64, .any, .int .i64, .any, .int .i64, .any, .int .i64] [x0, (.int .i64 x1), x2, (.int .i64 x3), x4, (.int .i64 x5), x6, (.int .i64 x7)] h (s59l3_R F)
def s59l3_E (F : Nat → s59l3_T) (x0 : AVal) (x1 : Int) (x2 : AVal) (x3 : Int) (x4 : AVal) (x5 : Int) (x6 : AVal) (x7 : Int) (h : Heap) : Prop := gJ [.any, .int .i64, .any, .int .i64, .any, .int .i64, .any, .int .i64] [x0, (.int .i64 x1), x2, (.int .i64 x3), x4, (.int .i64 x5), x6, (.int .i64 x7)] h (fun l h => ∃ n, s59l3_R (F n) l h)
theorem s59l3_go {F : s59l3_T} {x0 : AVal} {x1 : Int} {x2 : AVal} {x3 : Int} {x4 : AVal} {x5 : Int} {x6 : AVal} {x7 : Int} {h : Heap} (H : F x0 x1 x2 x3 x4 x5 x6 x7 h) : s59l3_G F x0 x1 x2 x3 x4 x5 x6 x7 h := gJ_plain rfl H
theorem s59l3_in {F : Nat → s59l3_T} {x0 : AVal} {x1 : Int} {x2 : AVal} {x3 : Int} {x4 : AVal} {x5 : Int} {x6 : AVal} {x7 : Int} {h : Heap} (n : Nat) (H : F n x0 x1 x2 x3 x4 x5 x6 x7 h) : s59l3_E F x0 x1 x2 x3 x4 x5 x6 x7 h := gJ_plain rfl ⟨n, H⟩

def s59c4 (Ψ : AVal → Heap → Prop) (L1 : s59l1_T) (L2 : s59l2_T) (L3 : s59l3_T) (m3 : AVal) (n9 : Int) (out3 : AVal) (a3 : Int) (wait2 : AVal) (i2 : Int) (row1 : AVal) (k1 : Int) (h : Heap) : Prop :=
  rg (k1 + 1) (
    L3 m3 n9 out3 a3 wait2 i2 row1 (k1 + 1) h)

def s59c5 (Ψ : AVal → Heap → Prop) (L1 : s59l1_T) (L2 : s59l2_T) (L3 : s59l3_T) (m4 : AVal) (n10 : Int) (out4 : AVal) (a4 : Int) (wait3 : AVal) (i3 : Int) (row2 : AVal) (k2 b : Int) (t65 : Bool) (h : Heap) : Prop :=
  ifT t65 (
    retG (.tuple [.nilsl, (.bool false)]) h Ψ) (
    ixS 1 out4 a4 fun p7 =>
    ld1 h p7 fun v9 =>
    ixS 1 v9 b fun p8 =>
    ld1 h p8 fun v10 =>
    tBool v10 fun v11 =>
    ifT (!v11) (
      ixS 1 out4 a4 fun p9 =>
      ld1 h p9 fun v12 =>
      ixS 1 v12 b fun p10 =>
      st true h p10 [(.bool true)] fun h_5 =>
      appC 1 8 h_5 wait3 (.lsl 1 [(.int .i64 b)]) fun v13 h_6 =>
      s59c4 Ψ L1 L2 L3 m4 n10 out4 a4 v13 i3 row2 k2 h_6) (
      s59c4 Ψ L1 L2 L3 m4 n10 out4 a4 wait3 i3 row2 k2 h))

def s59l3 (Ψ : AVal → Heap → Prop) (L1 : s59l1_T) (L2 : s59l2_T) : Nat → s59l3_T
  | 0, _, _, _, _, _, _, _, _, _ => False
  | n7 + 1, m2, n6, out2, a2, wait1, i1, row, k, h =>
    lenN row fun n8 =>
    ifT (decide (k < n8)) (
      ixS 1 row k fun p6 =>
      ld1 h p6 fun v7 =>
      tInt .i64 v7 fun v8 =>
      ifT (decide (v8 < 0)) (
        s59c5 Ψ L1 L2 (s59l3_G (s59l3 Ψ L1 L2 n7)) m2 n6 out2 a2 wait1 i1 row k v8 true h) (
        s59c5 Ψ L1 L2 (s59l3_G (s59l3 Ψ L1 L2 n7)) m2 n6 out2 a2 wait1 i1 row k v8 (decide (n6 ≤ v8)) h)) (
      rg (i1 + 1) (
        L2 m2 n6 out2 a2 wait1 (i1 + 1) h))

def s59l2 (Ψ : AVal → Heap → Prop) (L1 : s59l1_T) : Nat → s59l2_T
  | 0, _, _, _, _, _, _, _ => False
  | n4 + 1, m1, n3, out1, a1, wait, i, h =>
    lenN wait fun n5 =>
    ifT (decide (i < n5)) (
      addOff m1 0 fun p3 =>
      ld1 h p3 fun v3 =>
      ixS 1 wait i fun p4 =>
      ld1 h p4 fun v4 =>
      tInt .i64 v4 fun v5 =>
      ixS 1 v3 v5 fun p5 =>
      ld1 h p5 fun v6 =>
      s59l3_E (s59l3 Ψ L1 (s59l2_G (s59l2 Ψ L1 n4))) m1 n3 out1 a1 wait i v6 0 h) (
      rg (a1 + 1) (
        L1 m1 n3 out1 (a1 + 1) h))

def s59l1 (Ψ : AVal → Heap → Prop) : Nat → s59l1_T
  | 0, _, _, _, _, _ => False
  | n2 + 1, m, n1, out, a, h =>
    ifT (decide (a < n1)) (
      mkS false 1 1 (.bool false) h n1 n1 fun v1 h_1 =>
      ixS 1 out a fun p =>
      chk (sc v1) (
        st true h_1 p [v1] fun h_2 =>
        ixS 1 out a fun p1 =>
        ld1 h_2 p1 fun v2 =>
        ixS 1 v2 a fun p2 =>
        st true h_2 p2 [(.bool true)] fun h_3 =>
        Sym.newRow 1 [(.int .i64 a)] h_3 fun r h_4 =>
        s59l2_E (s59l2 Ψ (s59l1_G (s59l1 Ψ n2))) m n1 out a (.sl r 1 0 1) 0 h_4)) (
      retG (.tuple [out, (.bool true)]) h Ψ)

def s59 (Ψ : AVal → Heap → Prop) (m_Up : AVal) (m_Val : AVal) (h : Heap) : Prop :=
  lenN m_Up fun n =>
  mkS false 1 24 .nilsl h n n fun v h_ =>
  s59l1_E (s59l1 Ψ) (.lptr [m_Up, m_Val]) n v 0 h_

def s59_A (Ψ : AVal → Heap → Prop) : Ann :=
  .seq (.reg [⟨none, [(0, true), (1, false), (2, false)]⟩])
  (.seq (rA 4)
  (.seq (rA 3)
  (.seq (.seq (rA 1)
  (.block (.loop [(1, .any), (4, .int .i64), (5, .any), (6, .int .i64)] (fun n l h => s59l1_R (s59l1 Ψ n) l h) (fun L1 =>
  .seq (.seq (rA 3)
  (.cond (.leaf)
  (.leaf)))
  (.seq (.block (.seq (rA 6)
  (.seq (rA 7)
  (.seq (rA 3)
  (.seq (rA 1)
  (.block (.loop [(1, .any), (4, .int .i64), (5, .any), (6, .int .i64), (7, .any), (8, .int .i64)] (fun n l h => s59l2_R (s59l2 Ψ (fun y0 y1 y2 y3 h => L1 [y0, (.int .i64 y1), y2, (.int .i64 y3)] h) n) l h) (fun L2 =>
  .seq (.seq (rA 4)
  (.cond (.leaf)
  (.leaf)))
  (.seq (.block (.seq (.draw [(0, false), (1, false), (2, false), (3, false), (4, false), (5, false), (6, false), (7, false), (8, false)] [0, 1, 0, 0, 12, 28, 63, 127, 255])
  (.seq (rA 1)
  (.block (.loop [(1, .any), (4, .int .i64), (5, .any), (6, .int .i64), (7, .any), (8, .int .i64), (9, .any), (10, .int .i64)] (fun n l h => s59l3_R (s59l3 Ψ (fun y0 y1 y2 y3 h => L1 [y0, (.int .i64 y1), y2, (.int .i64 y3)] h) (fun y0 y1 y2 y3 y4 y5 h => L2 [y0, (.int .i64 y1), y2, (.int .i64 y3), y4, (.int .i64 y5)] h) n) l h) (fun L3 =>
  .seq (.seq (rA 4)
  (.cond (.leaf)
  (.leaf)))
  (.cut [(1, .any), (4, .int .i64), (5, .any), (6, .int .i64), (7, .any), (8, .int .i64), (9, .any), (10, .int .i64)] (fun l h => J.cons l fun x0 l => J.cons l fun v l => J.int .i64 v fun x1 => J.cons l fun x2 l => J.cons l fun v l => J.int .i64 v fun x3 => J.cons l fun x4 l => J.cons l fun v l => J.int .i64 v fun x5 => J.cons l fun x6 l => J.cons l fun v l => J.int .i64 v fun x7 => J.nil l (s59c4 Ψ (fun y0 y1 y2 y3 h => L1 [y0, (.int .i64 y1), y2, (.int .i64 y3)] h) (fun y0 y1 y2 y3 y4 y5 h => L2 [y0, (.int .i64 y1), y2, (.int .i64 y3), y4, (.int .i64 y5)] h) (fun y0 y1 y2 y3 y4 y5 y6 y7 h => L3 [y0, (.int .i64 y1), y2, (.int .i64 y3), y4, (.int .i64 y5), y6, (.int .i64 y7)] h) x0 x1 x2 x3 x4 x5 x6 x7 h)) (.block (.seq (rA 5)
  (.seq (.cut [(1, .any), (4, .int .i64), (5, .any), (6, .int .i64), (7, .any), (8, .int .i64), (9, .any), (10, .int .i64), (11, .int .i64), (65, .bool)] (fun l h => J.cons l fun x0 l => J.cons l fun v l => J.int .i64 v fun x1 => J.cons l fun x2 l => J.cons l fun v l => J.int .i64 v fun x3 => J.cons l fun x4 l => J.cons l fun v l => J.int .i64 v fun x5 => J.cons l fun x6 l => J.cons l fun v l => J.int .i64 v fun x7 => J.cons l fun v l => J.int .i64 v fun x8 => J.cons l fun v l => J.bool v fun x9 => J.nil l (s59c5 Ψ (fun y0 y1 y2 y3 h => L1 [y0, (.int .i64 y1), y2, (.int .i64 y3)] h) (fun y0 y1 y2 y3 y4 y5 h => L2 [y0, (.int .i64 y1), y2, (.int .i64 y3), y4, (.int .i64 y5)] h) (fun y0 y1 y2 y3 y4 y5 y6 y7 h => L3 [y0, (.int .i64 y1), y2, (.int .i64 y3), y4, (.int .i64 y5), y6, (.int .i64 y7)] h) x0 x1 x2 x3 x4 x5 x6 x7 x8 x9 h)) (.reg [⟨none, [(0, false), (1, false), (2, false)]⟩, ⟨some (61, false), [(3, false), (4, false), (5, false)]⟩, ⟨none, [(6, false)]⟩])
  (.cond (.seq (rA 2)
  (.leaf))
  (.leaf)))
  (.seq (rA 8)
  (.cond (.seq (rA 7)
  (.reg [⟨none, [(0, false), (1, false), (2, true), (3, false), (4, false)]⟩]))
  (.leaf))))))
  (rA 3))))))))
  (rA 3))))))))))
  (rA 3))))))
  (.seq (rA 3)
  (.leaf)))))

theorem s59_ok {Ψ : AVal → Heap → Prop} {m_Up : AVal} {m_Val : AVal} {h : Heap} (H : s59 Ψ m_Up m_Val h) : ACalls prog 59 [(.agg [m_Up, m_Val])] h Ψ :=
  calls_of_evF func59 (by kernel_rfl) (by kernel_rfl) (by kernel_rfl)
    (Eq.mpr (by as_aux_lemma => kernel_rfl : oblF prog f59 (s59_A Ψ) Ψ = (True ∧ True ∧ True ∧ (True ∧ (∀ (h : Heap) (x0 : AVal) (x1 : Int) (x2 : AVal) (x3 : Int), ON (s59l1 Ψ 0 x0 x1 x2 x3 h)) ∧ ∀ n1 : Nat, (∀ (h : Heap) (x0 : AVal) (x1 : Int) (x2 : AVal) (x3 : Int), OI (s59l1 Ψ (n1 + 1) x0 x1 x2 x3 h)) ∧ ((True ∧ True ∧ True) ∧ (True ∧ True ∧ True ∧ True ∧ (∀ (h : Heap) (x0 : AVal) (x1 : Int) (x2 : AVal) (x3 : Int) (x4 : AVal) (x5 : Int), ON (s59l2 Ψ (s59l1_G (s59l1 Ψ n1)) 0 x0 x1 x2 x3 x4 x5 h)) ∧ ∀ n2 : Nat, (∀ (h : Heap) (x0 : AVal) (x1 : Int) (x2 : AVal) (x3 : Int) (x4 : AVal) (x5 : Int), OI (s59l2 Ψ (s59l1_G (s59l1 Ψ n1)) (n2 + 1) x0 x1 x2 x3 x4 x5 h)) ∧ ((True ∧ True ∧ True) ∧ (True ∧ True ∧ (∀ (h : Heap) (x0 : AVal) (x1 : Int) (x2 : AVal) (x3 : Int) (x4 : AVal) (x5 : Int) (x6 : AVal) (x7 : Int), ON (s59l3 Ψ (s59l1_G (s59l1 Ψ n1)) (s59l2_G (s59l2 Ψ (s59l1_G (s59l1 Ψ n1)) n2)) 0 x0 x1 x2 x3 x4 x5 x6 x7 h)) ∧ ∀ n3 : Nat, (∀ (h : Heap) (x0 : AVal) (x1 : Int) (x2 : AVal) (x3 : Int) (x4 : AVal) (x5 : Int) (x6 : AVal) (x7 : Int), OI (s59l3 Ψ (s59l1_G (s59l1 Ψ n1)) (s59l2_G (s59l2 Ψ (s59l1_G (s59l1 Ψ n1)) n2)) (n3 + 1) x0 x1 x2 x3 x4 x5 x6 x7 h)) ∧ ((True ∧ True ∧ True) ∧ (True ∧ ((True) ∧ (∀ (h : Heap) (x0 : AVal) (x1 : Int) (x2 : AVal) (x3 : Int) (x4 : AVal) (x5 : Int) (x6 : AVal) (x7 x8 : Int) (x9 : Bool), OI (s59c5 Ψ (s59l1_G (s59l1 Ψ n1)) (s59l2_G (s59l2 Ψ (s59l1_G (s59l1 Ψ n1)) n2)) (s59l3_G (s59l3 Ψ (s59l1_G (s59l1 Ψ n1)) (s59l2_G (s59l2 Ψ (s59l1_G (s59l1 Ψ n1)) n2)) n3)) x0 x1 x2 x3 x4 x5 x6 x7 x8 x9 h)) ∧ ((True ∧ True) ∧ True)) ∧ True ∧ (True ∧ True) ∧ True) ∧ (∀ (h : Heap) (x0 : AVal) (x1 : Int) (x2 : AVal) (x3 : Int) (x4 : AVal) (x5 : Int) (x6 : AVal) (x7 : Int), OI (s59c4 Ψ (s59l1_G (s59l1 Ψ n1)) (s59l2_G (s59l2 Ψ (s59l1_G (s59l1 Ψ n1)) n2)) (s59l3_G (s59l3 Ψ (s59l1_G (s59l1 Ψ n1)) (s59l2_G (s59l2 Ψ (s59l1_G (s59l1 Ψ n1)) n2)) n3)) x0 x1 x2 x3 x4 x5 x6 x7 h)) ∧ (True))) ∧ True)) ∧ True)) ∧ True ∧ True)) ⟨trivial, ⟨trivial, ⟨trivial, ⟨⟨trivial, ⟨fun _ _ _ _ _ H => H, fun _ => ⟨fun _ _ _ _ _ H => H, ⟨⟨trivial, ⟨trivial, trivial⟩⟩, ⟨⟨trivial, ⟨trivial, ⟨trivial, ⟨trivial, ⟨fun _ _ _ _ _ _ _ H => H, fun _ => ⟨fun _ _ _ _ _ _ _ H => H, ⟨⟨trivial, ⟨trivial, trivial⟩⟩, ⟨⟨trivial, ⟨trivial, ⟨fun _ _ _ _ _ _ _ _ _ H => H, fun _ => ⟨fun _ _ _ _ _ _ _ _ _ H => H, ⟨⟨trivial, ⟨trivial, trivial⟩⟩, ⟨⟨trivial, ⟨⟨trivial, fun _ _ _ _ _ _ _ _ _ _ _ H => H, ⟨⟨trivial, trivial⟩, trivial⟩⟩, ⟨trivial, ⟨⟨trivial, trivial⟩, trivial⟩⟩⟩⟩, fun _ _ _ _ _ _ _ _ _ H => H, trivial⟩⟩⟩⟩⟩⟩, trivial⟩⟩⟩⟩⟩⟩⟩⟩, trivial⟩⟩⟩⟩⟩, ⟨trivial, trivial⟩⟩⟩⟩⟩)
    (Eq.mpr (by as_aux_lemma => kernel_rfl : evF prog f59 (s59_A Ψ) Ψ [(.agg [m_Up, m_Val])] h = s59 Ψ m_Up m_Val h) H)

/- 61 dictum/dictumref17.has -/
abbrev s61l1_T := AVal → ByteArray → Int → Heap → Prop
def s61l1_R (F : s61l1_T) (l : List AVal) (h : Heap) : Prop := J.cons l fun x0 l => J.cons l fun v l => J.str v fun x1 => J.cons l fun v l => J.int .i64 v fun x2 => J.nil l (F x0 x1 x2 h)
def s61l1_G (F : s61l1_T) (x0 : AVal) (x1 : ByteArray) (x2 : Int) (h : Heap) : Prop := gJ [.any, .str, .int .i64] [x0, (.str x1), (.int .i64 x2)] h (s61l1_R F)
def s61l1_E (F : Nat → s61l1_T) (x0 : AVal) (x1 : ByteArray) (x2 : Int) (h : Heap) : Prop := gJ [.any, .str, .int .i64] [x0, (.str x1), (.int .i64 x2)] h (fun l h => ∃ n, s61l1_R (F n) l h)
theorem s61l1_go {F : s61l1_T} {x0 : AVal} {x1 : ByteArray} {x2 : Int} {h : Heap} (H : F x0 x1 x2 h) : s61l1_G F x0 x1 x2 h := gJ_plain rfl H
theorem s61l1_in {F : Nat → s61l1_T} {x0 : AVal} {x1 : ByteArray} {x2 : Int} {h : Heap} (n : Nat) (H : F n x0 x1 x2 h) : s61l1_E F x0 x1 x2 h := gJ_plain rfl ⟨n, H⟩

def s61l1 (Ψ : AVal → Heap → Prop) : Nat → s61l1_T
  | 0, _, _, _, _ => False
  | n + 1, l_1, s1, i, h =>
    lenN l_1 fun n1 =>
    ifT (decide (i < n1)) (
      ixS 1 l_1 i fun p =>
      ld1 h p fun v =>
      tStr v fun v1 =>
      ifT (strEq v1 s1) (
        retG (.bool true) h Ψ) (
        rg (i + 1) (
          s61l1_G (s61l1 Ψ n) l_1 s1 (i + 1) h))) (
      retG (.bool false) h Ψ)

def s61 (Ψ : AVal → Heap → Prop) (l_ : AVal) (s : ByteArray) (h : Heap) : Prop :=
  s61l1_E (s61l1 Ψ) l_ s 0 h

def s61_A (Ψ : AVal → Heap → Prop) : Ann :=
  .seq (rA 1)
  (.seq (.seq (rA 1)
  (.block (.loop [(0, .any), (1, .str), (5, .int .i64)] (fun n l h => s61l1_R (s61l1 Ψ n) l h) (fun L1 =>
  .seq (.seq (rA 4)
  (.cond (.leaf)
  (.leaf)))
  (.seq (.block (.seq (rA 6)
  (.cond (.seq (rA 1)
  (.leaf))
  (.leaf))))
  (rA 3))))))
  (.seq (rA 1)
  (.leaf)))

theorem s61_ok {Ψ : AVal → Heap → Prop} {l_ : AVal} {s : ByteArray} {h : Heap} (H : s61 Ψ l_ s h) : ACalls prog 61 [l_, (.str s)] h Ψ :=
  calls_of_evF func61 (by kernel_rfl) (by kernel_rfl) (by kernel_rfl)
    (Eq.mpr (by as_aux_lemma => kernel_rfl : oblF prog f61 (s61_A Ψ) Ψ = (True ∧ (True ∧ (∀ (h : Heap) (x0 : AVal) (x1 : ByteArray) (x2 : Int), ON (s61l1 Ψ 0 x0 x1 x2 h)) ∧ ∀ n1 : Nat, (∀ (h : Heap) (x0 : AVal) (x1 : ByteArray) (x2 : Int), OI (s61l1 Ψ (n1 + 1) x0 x1 x2 h)) ∧ ((True ∧ True ∧ True) ∧ (True ∧ (True ∧ True) ∧ True) ∧ True)) ∧ True ∧ True)) ⟨trivial, ⟨⟨trivial, ⟨fun _ _ _ _ H => H, fun _ => ⟨fun _ _ _ _ H => H, ⟨⟨trivial, ⟨trivial, trivial⟩⟩, ⟨⟨trivial, ⟨⟨trivial, trivial⟩, trivial⟩⟩, trivial⟩⟩⟩⟩⟩, ⟨trivial, trivial⟩⟩⟩)
    (Eq.mpr (by as_aux_lemma => kernel_rfl : evF prog f61 (s61_A Ψ) Ψ [l_, (.str s)] h = s61 Ψ l_ s h) H)

/- 64 dictum/morph.classes$1 -/
abbrev s64l1_T := AVal → AVal → AVal → AVal → Int → Int → Heap → Prop
def s64l1_R (F : s64l1_T) (l : List AVal) (h : Heap) : Prop := J.cons l fun x0 l => J.cons l fun x1 l => J.cons l fun x2 l => J.cons l fun x3 l => J.cons l fun v l => J.int .i64 v fun x4 => J.cons l fun v l => J.int .i64 v fun x5 => J.nil l (F x0 x1 x2 x3 x4 x5 h)
def s64l1_G (F : s64l1_T) (x0 x1 x2 x3 : AVal) (x4 x5 : Int) (h : Heap) : Prop := gJ [.any, .any, .any, .any, .int .i64, .int .i64] [x0, x1, x2, x3, (.int .i64 x4), (.int .i64 x5)] h (s64l1_R F)
def s64l1_E (F : Nat → s64l1_T) (x0 x1 x2 x3 : AVal) (x4 x5 : Int) (h : Heap) : Prop := gJ [.any, .any, .any, .any, .int .i64, .int .i64] [x0, x1, x2, x3, (.int .i64 x4), (.int .i64 x5)] h (fun l h => ∃ n, s64l1_R (F n) l h)
theorem s64l1_go {F : s64l1_T} {x0 x1 x2 x3 : AVal} {x4 x5 : Int} {h : Heap} (H : F x0 x1 x2 x3 x4 x5 h) : s64l1_G F x0 x1 x2 x3 x4 x5 h := gJ_plain rfl H
theorem s64l1_in {F : Nat → s64l1_T} {x0 x1 x2 x3 : AVal} {x4 x5 : Int} {h : Heap} (n : Nat) (H : F n x0 x1 x2 x3 x4 x5 h) : s64l1_E F x0 x1 x2 x3 x4 x5 h := gJ_plain rfl ⟨n, H⟩

abbrev s64l2_T := AVal → AVal → AVal → AVal → Int → AVal → Int → Int → AVal → Int → Int → Heap → Prop
def s64l2_R (F : s64l2_T) (l : List AVal) (h : Heap) : Prop := J.cons l fun x0 l => J.cons l fun x1 l => J.cons l fun x2 l => J.cons l fun x3 l => J.cons l fun v l => J.int .i64 v fun x4 => J.cons l fun x5 l => J.cons l fun v l => J.int .i64 v fun x6 => J.cons l fun v l => J.int .i64 v fun x7 => J.cons l fun x8 l => J.cons l fun v l => J.int .i64 v fun x9 => J.cons l fun v l => J.int .i64 v fun x10 => J.nil l (F x0 x1 x2 x3 x4 x5 x6 x7 x8 x9 x10 h)
def s64l2_G (F : s64l2_T) (x0 x1 x2 x3 : AVal) (x4 : Int) (x5 : AVal) (x6 x7 : Int) (x8 : AVal) (x9 x10 : Int) (h : Heap) : Prop := gJ [.any, .any, .any, .any, .int .i64, .any, .int .i64, .int .i64, .any, .int .i64, .int .i64] [x0, x1, x2, x3, (.int .i64 x4), x5, (.int .i64 x6), (.int .i64 x7), x8, (.int .i64 x9), (.int .i64 x10)] h (s64l2_R F)
def s64l2_E (F : Nat → s64l2_T) (x0 x1 x2 x3 : AVal) (x4 : Int) (x5 : AVal) (x6 x7 : Int) (x8 : AVal) (x9 x10 : Int) (h : Heap) : Prop := gJ [.any, .any, .any, .any, .int .i64, .any, .int .i64, .int .i64, .any, .int .i64, .int .i64] [x0, x1, x2, x3, (.int .i64 x4), x5, (.int .i64 x6), (.int .i64 x7), x8, (.int .i64 x9), (.int .i64 x10)] h (fun l h => ∃ n, s64l2_R (F n) l h)
theorem s64l2_go {F : s64l2_T} {x0 x1 x2 x3 : AVal} {x4 : Int} {x5 : AVal} {x6 x7 : Int} {x8 : AVal} {x9 x10 : Int} {h : Heap} (H : F x0 x1 x2 x3 x4 x5 x6 x7 x8 x9 x10 h) : s64l2_G F x0 x1 x2 x3 x4 x5 x6 x7 x8 x9 x10 h := gJ_plain rfl H
theorem s64l2_in {F : Nat → s64l2_T} {x0 x1 x2 x3 : AVal} {x4 : Int} {x5 : AVal} {x6 x7 : Int} {x8 : AVal} {x9 x10 : Int} {h : Heap} (n : Nat) (H : F n x0 x1 x2 x3 x4 x5 x6 x7 x8 x9 x10 h) : s64l2_E F x0 x1 x2 x3 x4 x5 x6 x7 x8 x9 x10 h := gJ_plain rfl ⟨n, H⟩

def s64l2 (Ψ : AVal → Heap → Prop) (L1 : s64l1_T) : Nat → s64l2_T
  | 0, _, _, _, _, _, _, _, _, _, _, _, _ => False
  | n4 + 1, t0_1, t1_1, t2_1, out1, w, seen, t13_1, t14_1, t22, t23, t24, h =>
    ifT (decide (t24 < t23)) (
      ixS 1 t22 t24 fun p1 =>
      ld1 h p1 fun v8 =>
      tInt .i64 v8 fun v9 =>
      ld1 h t2_1 fun v10 =>
      ixS 1 v10 v9 fun p2 =>
      ld1 h p2 fun v11 =>
      tInt .i64 v11 fun v12 =>
      ixS 1 seen v12 fun p3 =>
      st true h p3 [(.int .u8 1)] fun h_2 =>
      rg (t24 + 1) (
        s64l2_G (s64l2 Ψ L1 n4) t0_1 t1_1 t2_1 out1 w seen t13_1 t14_1 t22 t23 (t24 + 1) h_2)) (
      bStr h seen fun s =>
      ld1 h t2_1 fun v13 =>
      ixS 1 v13 w fun p4 =>
      ld1 h p4 fun v14 =>
      tInt .i64 v14 fun v15 =>
      rg (v15 + 1) (
        (s.size + (Utf8.encode (IntKind.i32.wrap (v15 + 1))).size ≤ 9223372036854775807) ∧
        ixS 1 out1 w fun p5 =>
        st true h p5 [(.str (s ++ (Utf8.encode (IntKind.i32.wrap (v15 + 1)))))] fun h_3 =>
        rg (t14_1 + 1) (
          L1 t0_1 t1_1 t2_1 out1 t13_1 (t14_1 + 1) h_3)))

def s64l1 (Ψ : AVal → Heap → Prop) : Nat → s64l1_T
  | 0, _, _, _, _, _, _, _ => False
  | n2 + 1, t0, t1, t2, out, t13, t14, h =>
    ifT (decide (t14 < t13)) (
      ld1 h t1 fun v3 =>
      tInt .i64 v3 fun v4 =>
      mkS false 1 1 (.int .u8 0) h v4 v4 fun v5 h_1 =>
      ld1 h_1 t0 fun v6 =>
      ixS 1 v6 t14 fun p =>
      ld1 h_1 p fun v7 =>
      lenN v7 fun n3 =>
      s64l2_E (s64l2 Ψ (s64l1_G (s64l1 Ψ n2))) t0 t1 t2 out t14 v5 t13 t14 v7 n3 0 h_1) (
      retG out h Ψ)

def s64 (Ψ : AVal → Heap → Prop) (c0 : AVal) (c1 : AVal) (c2 : AVal) (h : Heap) : Prop :=
  ld1 h c0 fun v =>
  lenN v fun n =>
  mkS false 1 16 (.str (ByteArray.mk #[])) h n n fun v1 h_ =>
  ld1 h_ c0 fun v2 =>
  lenN v2 fun n1 =>
  s64l1_E (s64l1 Ψ) c0 c1 c2 v1 n1 0 h_

def s64_A (Ψ : AVal → Heap → Prop) : Ann :=
  .seq (rA 1)
  (.seq (rA 4)
  (.seq (.seq (rA 3)
  (.block (.loop [(0, .any), (1, .any), (2, .any), (4, .any), (13, .int .i64), (14, .int .i64)] (fun n l h => s64l1_R (s64l1 Ψ n) l h) (fun L1 =>
  .seq (rA 1)
  (.seq (.cond (.leaf)
  (.leaf))
  (.seq (.block (.seq (rA 2)
  (.seq (rA 3)
  (.seq (.seq (rA 6)
  (.block (.loop [(0, .any), (1, .any), (2, .any), (4, .any), (5, .int .i64), (6, .any), (13, .int .i64), (14, .int .i64), (22, .any), (23, .int .i64), (24, .int .i64)] (fun n l h => s64l2_R (s64l2 Ψ (fun y0 y1 y2 y3 y4 y5 h => L1 [y0, y1, y2, y3, (.int .i64 y4), (.int .i64 y5)] h) n) l h) (fun L2 =>
  .seq (rA 1)
  (.seq (.cond (.leaf)
  (.leaf))
  (.seq (.block (.seq (rA 3)
  (rA 7)))
  (rA 2)))))))
  (.draw [(0, false), (1, false), (2, false), (3, false), (4, false), (5, false), (6, false), (7, false), (8, false), (9, false), (10, false), (11, false), (12, false), (13, false)] [0, 0, 0, 4, 0, 0, 48, 112, 240, 496, 1008, 2044, 4095, 8191])))))
  (rA 2)))))))
  (.seq (rA 2)
  (.leaf))))

theorem s64_ok {Ψ : AVal → Heap → Prop} {c0 : AVal} {c1 : AVal} {c2 : AVal} {h : Heap} (H : s64 Ψ c0 c1 c2 h) : ACalls prog 64 [c0, c1, c2] h Ψ :=
  calls_of_evF func64 (by kernel_rfl) (by kernel_rfl) (by kernel_rfl)
    (Eq.mpr (by as_aux_lemma => kernel_rfl : oblF prog f64 (s64_A Ψ) Ψ = (True ∧ True ∧ (True ∧ (∀ (h : Heap) (x0 x1 x2 x3 : AVal) (x4 x5 : Int), ON (s64l1 Ψ 0 x0 x1 x2 x3 x4 x5 h)) ∧ ∀ n1 : Nat, (∀ (h : Heap) (x0 x1 x2 x3 : AVal) (x4 x5 : Int), OI (s64l1 Ψ (n1 + 1) x0 x1 x2 x3 x4 x5 h)) ∧ (True ∧ (True ∧ True) ∧ (True ∧ True ∧ (True ∧ (∀ (h : Heap) (x0 x1 x2 x3 : AVal) (x4 : Int) (x5 : AVal) (x6 x7 : Int) (x8 : AVal) (x9 x10 : Int), ON (s64l2 Ψ (s64l1_G (s64l1 Ψ n1)) 0 x0 x1 x2 x3 x4 x5 x6 x7 x8 x9 x10 h)) ∧ ∀ n2 : Nat, (∀ (h : Heap) (x0 x1 x2 x3 : AVal) (x4 : Int) (x5 : AVal) (x6 x7 : Int) (x8 : AVal) (x9 x10 : Int), OI (s64l2 Ψ (s64l1_G (s64l1 Ψ n1)) (n2 + 1) x0 x1 x2 x3 x4 x5 x6 x7 x8 x9 x10 h)) ∧ (True ∧ (True ∧ True) ∧ (True ∧ True) ∧ True)) ∧ True) ∧ True)) ∧ True ∧ True)) ⟨trivial, ⟨trivial, ⟨⟨trivial, ⟨fun _ _ _ _ _ _ _ H => H, fun _ => ⟨fun _ _ _ _ _ _ _ H => H, ⟨trivial, ⟨⟨trivial, trivial⟩, ⟨⟨trivial, ⟨trivial, ⟨⟨trivial, ⟨fun _ _ _ _ _ _ _ _ _ _ _ _ H => H, fun _ => ⟨fun _ _ _ _ _ _ _ _ _ _ _ _ H => H, ⟨trivial, ⟨⟨trivial, trivial⟩, ⟨⟨trivial, trivial⟩, trivial⟩⟩⟩⟩⟩⟩, trivial⟩⟩⟩, trivial⟩⟩⟩⟩⟩⟩, ⟨trivial, trivial⟩⟩⟩⟩)
    (Eq.mpr (by as_aux_lemma => kernel_rfl : evF prog f64 (s64_A Ψ) Ψ [c0, c1, c2] h = s64 Ψ c0 c1 c2 h) H)

/- 67 dictum/worlds.asked -/
abbrev s67l1_T := AVal → AVal → AVal → Int → Int → Heap → Prop
def s67l1_R (F : s67l1_T) (l : List AVal) (h : Heap) : Prop := J.cons l fun x0 l => J.cons l fun x1 l => J.cons l fun x2 l => J.cons l fun v l => J.int .i64 v fun x3 => J.cons l fun v l => J.int .i64 v fun x4 => J.nil l (F x0 x1 x2 x3 x4 h)
def s67l1_G (F : s67l1_T) (x0 x1 x2 : AVal) (x3 x4 : Int) (h : Heap) : Prop := gJ [.any, .any, .any, .int .i64, .int .i64] [x0, x1, x2, (.int .i64 x3), (.int .i64 x4)] h (s67l1_R F)
def s67l1_E (F : Nat → s67l1_T) (x0 x1 x2 : AVal) (x3 x4 : Int) (h : Heap) : Prop := gJ [.any, .any, .any, .int .i64, .int .i64] [x0, x1, x2, (.int .i64 x3), (.int .i64 x4)] h (fun l h => ∃ n, s67l1_R (F n) l h)
theorem s67l1_go {F : s67l1_T} {x0 x1 x2 : AVal} {x3 x4 : Int} {h : Heap} (H : F x0 x1 x2 x3 x4 h) : s67l1_G F x0 x1 x2 x3 x4 h := gJ_plain rfl H
theorem s67l1_in {F : Nat → s67l1_T} {x0 x1 x2 : AVal} {x3 x4 : Int} {h : Heap} (n : Nat) (H : F n x0 x1 x2 x3 x4 h) : s67l1_E F x0 x1 x2 x3 x4 h := gJ_plain rfl ⟨n, H⟩

def s67c2 (Ψ : AVal → Heap → Prop) (L1 : s67l1_T) (m1 leq1 t17_1 : AVal) (t18_1 t19_1 : Int) (t31 : Bool) (h : Heap) : Prop :=
  ifT t31 (
    retG (.tuple [.nilfunc, (.int .i64 2)]) h Ψ) (
    rg (t19_1 + 1) (
      L1 m1 leq1 t17_1 t18_1 (t19_1 + 1) h))

def s67l1 (Ψ : AVal → Heap → Prop) : Nat → s67l1_T
  | 0, _, _, _, _, _, _ => False
  | n1 + 1, m, leq, t17, t18, t19, h =>
    ifT (decide (t19 < t18)) (
      ixS 1 t17 t19 fun p =>
      ld1 h p fun v4 =>
      tInt .i64 v4 fun v5 =>
      ifT (decide (v5 < 0)) (
        s67c2 Ψ (s67l1_G (s67l1 Ψ n1)) m leq t17 t18 t19 true h) (
        addOff m 0 fun p1 =>
        ld1 h p1 fun v6 =>
        lenN v6 fun n2 =>
        s67c2 Ψ (s67l1_G (s67l1 Ψ n1)) m leq t17 t18 t19 (decide (n2 ≤ v5)) h)) (
      retG (.tuple [leq, (.int .i64 0)]) h Ψ)

def s67 (Ψ : AVal → Heap → Prop) (m_Up : AVal) (m_Val : AVal) (worlds : AVal) (h : Heap) : Prop :=
  callG prog 83 [(.agg [m_Up, m_Val])] h fun v h_ =>
  tTup v fun l_ =>
  tCons l_ fun v1 l_1 =>
  tCons l_1 fun v2 l_2 =>
  tBool v2 fun v3 =>
  tNil l_2 (
    ifT (!v3) (
      retG (.tuple [.nilfunc, (.int .i64 170)]) h_ Ψ) (
      lenN worlds fun n =>
      s67l1_E (s67l1 Ψ) (.lptr [m_Up, m_Val]) v1 worlds n 0 h_))

def s67_A (Ψ : AVal → Heap → Prop) : Ann :=
  .seq (.reg [⟨none, [(0, true), (1, false), (2, false)]⟩])
  (.seq (rA 7)
  (.seq (.seq (rA 2)
  (.cond (.seq (rA 2)
  (.leaf))
  (.leaf)))
  (.seq (.seq (rA 3)
  (.block (.loop [(2, .any), (6, .any), (17, .any), (18, .int .i64), (19, .int .i64)] (fun n l h => s67l1_R (s67l1 Ψ n) l h) (fun L1 =>
  .seq (rA 1)
  (.seq (.cond (.leaf)
  (.leaf))
  (.seq (.block (.seq (rA 3)
  (.cut [(2, .any), (6, .any), (17, .any), (18, .int .i64), (19, .int .i64), (31, .bool)] (fun l h => J.cons l fun x0 l => J.cons l fun x1 l => J.cons l fun x2 l => J.cons l fun v l => J.int .i64 v fun x3 => J.cons l fun v l => J.int .i64 v fun x4 => J.cons l fun v l => J.bool v fun x5 => J.nil l (s67c2 Ψ (fun y0 y1 y2 y3 y4 h => L1 [y0, y1, y2, (.int .i64 y3), (.int .i64 y4)] h) x0 x1 x2 x3 x4 x5 h)) (.reg [⟨none, [(0, false), (1, false), (2, false)]⟩, ⟨some (25, false), [(3, false), (4, false), (5, false), (6, false), (7, false)]⟩, ⟨none, [(8, false)]⟩])
  (.cond (.seq (rA 2)
  (.leaf))
  (.leaf)))))
  (rA 2)))))))
  (.seq (rA 3)
  (.leaf)))))

theorem s67_ok {Ψ : AVal → Heap → Prop} {m_Up : AVal} {m_Val : AVal} {worlds : AVal} {h : Heap} (H : s67 Ψ m_Up m_Val worlds h) : ACalls prog 67 [(.agg [m_Up, m_Val]), worlds] h Ψ :=
  calls_of_evF func67 (by kernel_rfl) (by kernel_rfl) (by kernel_rfl)
    (Eq.mpr (by as_aux_lemma => kernel_rfl : oblF prog f67 (s67_A Ψ) Ψ = (True ∧ True ∧ (True ∧ (True ∧ True) ∧ True) ∧ (True ∧ (∀ (h : Heap) (x0 x1 x2 : AVal) (x3 x4 : Int), ON (s67l1 Ψ 0 x0 x1 x2 x3 x4 h)) ∧ ∀ n1 : Nat, (∀ (h : Heap) (x0 x1 x2 : AVal) (x3 x4 : Int), OI (s67l1 Ψ (n1 + 1) x0 x1 x2 x3 x4 h)) ∧ (True ∧ (True ∧ True) ∧ (True ∧ (True) ∧ (∀ (h : Heap) (x0 x1 x2 : AVal) (x3 x4 : Int) (x5 : Bool), OI (s67c2 Ψ (s67l1_G (s67l1 Ψ n1)) x0 x1 x2 x3 x4 x5 h)) ∧ ((True ∧ True) ∧ True)) ∧ True)) ∧ True ∧ True)) ⟨trivial, ⟨trivial, ⟨⟨trivial, ⟨⟨trivial, trivial⟩, trivial⟩⟩, ⟨⟨trivial, ⟨fun _ _ _ _ _ _ H => H, fun _ => ⟨fun _ _ _ _ _ _ H => H, ⟨trivial, ⟨⟨trivial, trivial⟩, ⟨⟨trivial, ⟨trivial, fun _ _ _ _ _ _ _ H => H, ⟨⟨trivial, trivial⟩, trivial⟩⟩⟩, trivial⟩⟩⟩⟩⟩⟩, ⟨trivial, trivial⟩⟩⟩⟩⟩)
    (Eq.mpr (by as_aux_lemma => kernel_rfl : evF prog f67 (s67_A Ψ) Ψ [(.agg [m_Up, m_Val]), worlds] h = s67 Ψ m_Up m_Val worlds h) H)

/- 69 dictum/worlds.Tidy$1 -/
def s69 (Ψ : AVal → Heap → Prop) (b : Int) (c0 : AVal) (c1 : AVal) (h : Heap) : Prop :=
  ld1 h c0 fun v =>
  tInt .i64 v fun v1 =>
  ifT (v1 != b) (
    ld1 h c1 fun v2 =>
    ld1 h c0 fun v3 =>
    tInt .i64 v3 fun v4 =>
    callV prog v2 [(.int .i64 v4), (.int .i64 b)] h fun v5 h_ =>
    tBool v5 fun v6 =>
    retG (.bool v6) h_ Ψ) (
    retG (.bool false) h Ψ)

def s69_A (Ψ : AVal → Heap → Prop) : Ann :=
  .seq (rA 1)
  (.seq (.reg [⟨none, [(0, false), (1, false), (2, false), (3, false)]⟩, ⟨some (8, true), [(4, false), (5, false), (6, false), (7, false)]⟩, ⟨none, [(8, false), (9, false)]⟩])
  (.leaf))

theorem s69_ok {Ψ : AVal → Heap → Prop} {b : Int} {c0 : AVal} {c1 : AVal} {h : Heap} (H : s69 Ψ b c0 c1 h) : ACalls prog 69 [(.int .i64 b), c0, c1] h Ψ :=
  calls_of_evF func69 (by kernel_rfl) (by kernel_rfl) (by kernel_rfl)
    (Eq.mpr (by as_aux_lemma => kernel_rfl : oblF prog f69 (s69_A Ψ) Ψ = (True ∧ True ∧ True)) ⟨trivial, ⟨trivial, trivial⟩⟩)
    (Eq.mpr (by as_aux_lemma => kernel_rfl : evF prog f69 (s69_A Ψ) Ψ [(.int .i64 b), c0, c1] h = s69 Ψ b c0 c1 h) H)

/- 71 dictum/worlds.Tidy$2$1 -/
def s71 (Ψ : AVal → Heap → Prop) (c : Int) (c0 : AVal) (c1 : AVal) (h : Heap) : Prop :=
  ld1 h c0 fun v =>
  tInt .i64 v fun v1 =>
  ifT (c != v1) (
    ld1 h c1 fun v2 =>
    ld1 h c0 fun v3 =>
    tInt .i64 v3 fun v4 =>
    callV prog v2 [(.int .i64 c), (.int .i64 v4)] h fun v5 h_ =>
    tBool v5 fun v6 =>
    retG (.bool v6) h_ Ψ) (
    retG (.bool false) h Ψ)

def s71_A (Ψ : AVal → Heap → Prop) : Ann :=
  .seq (rA 1)
  (.seq (.reg [⟨none, [(0, false), (1, false), (2, false), (3, false)]⟩, ⟨some (8, true), [(4, false), (5, false), (6, false), (7, false)]⟩, ⟨none, [(8, false), (9, false)]⟩])
  (.leaf))

theorem s71_ok {Ψ : AVal → Heap → Prop} {c : Int} {c0 : AVal} {c1 : AVal} {h : Heap} (H : s71 Ψ c c0 c1 h) : ACalls prog 71 [(.int .i64 c), c0, c1] h Ψ :=
  calls_of_evF func71 (by kernel_rfl) (by kernel_rfl) (by kernel_rfl)
    (Eq.mpr (by as_aux_lemma => kernel_rfl : oblF prog f71 (s71_A Ψ) Ψ = (True ∧ True ∧ True)) ⟨trivial, ⟨trivial, trivial⟩⟩)
    (Eq.mpr (by as_aux_lemma => kernel_rfl : evF prog f71 (s71_A Ψ) Ψ [(.int .i64 c), c0, c1] h = s71 Ψ c c0 c1 h) H)

/- 73 dictum/worlds.Root$1 -/
def s73 (Ψ : AVal → Heap → Prop) (b : Int) (c0 : AVal) (c1 : AVal) (h : Heap) : Prop :=
  ld1 h c0 fun v =>
  ld1 h c1 fun v1 =>
  tInt .i64 v1 fun v2 =>
  callV prog v [(.int .i64 v2), (.int .i64 b)] h fun v3 h_ =>
  tBool v3 fun v4 =>
  retG (.bool v4) h_ Ψ

def s73_A (Ψ : AVal → Heap → Prop) : Ann :=
  .seq (rA 1)
  (.seq (rA 5)
  (.leaf))

theorem s73_ok {Ψ : AVal → Heap → Prop} {b : Int} {c0 : AVal} {c1 : AVal} {h : Heap} (H : s73 Ψ b c0 c1 h) : ACalls prog 73 [(.int .i64 b), c0, c1] h Ψ :=
  calls_of_evF func73 (by kernel_rfl) (by kernel_rfl) (by kernel_rfl)
    (Eq.mpr (by as_aux_lemma => kernel_rfl : oblF prog f73 (s73_A Ψ) Ψ = (True ∧ True ∧ True)) ⟨trivial, ⟨trivial, trivial⟩⟩)
    (Eq.mpr (by as_aux_lemma => kernel_rfl : evF prog f73 (s73_A Ψ) Ψ [(.int .i64 b), c0, c1] h = s73 Ψ b c0 c1 h) H)

/- 75 slices.Index[[]string,string] -/
abbrev s75l1_T := AVal → ByteArray → Int → Int → Heap → Prop
def s75l1_R (F : s75l1_T) (l : List AVal) (h : Heap) : Prop := J.cons l fun x0 l => J.cons l fun v l => J.str v fun x1 => J.cons l fun v l => J.int .i64 v fun x2 => J.cons l fun v l => J.int .i64 v fun x3 => J.nil l (F x0 x1 x2 x3 h)
def s75l1_G (F : s75l1_T) (x0 : AVal) (x1 : ByteArray) (x2 x3 : Int) (h : Heap) : Prop := gJ [.any, .str, .int .i64, .int .i64] [x0, (.str x1), (.int .i64 x2), (.int .i64 x3)] h (s75l1_R F)
def s75l1_E (F : Nat → s75l1_T) (x0 : AVal) (x1 : ByteArray) (x2 x3 : Int) (h : Heap) : Prop := gJ [.any, .str, .int .i64, .int .i64] [x0, (.str x1), (.int .i64 x2), (.int .i64 x3)] h (fun l h => ∃ n, s75l1_R (F n) l h)
theorem s75l1_go {F : s75l1_T} {x0 : AVal} {x1 : ByteArray} {x2 x3 : Int} {h : Heap} (H : F x0 x1 x2 x3 h) : s75l1_G F x0 x1 x2 x3 h := gJ_plain rfl H
theorem s75l1_in {F : Nat → s75l1_T} {x0 : AVal} {x1 : ByteArray} {x2 x3 : Int} {h : Heap} (n : Nat) (H : F n x0 x1 x2 x3 h) : s75l1_E F x0 x1 x2 x3 h := gJ_plain rfl ⟨n, H⟩

def s75l1 (Ψ : AVal → Heap → Prop) : Nat → s75l1_T
  | 0, _, _, _, _, _ => False
  | n1 + 1, s1, v1, t7, t8, h =>
    ifT (decide (t8 < t7)) (
      ixS 1 s1 t8 fun p =>
      ld1 h p fun v2 =>
      tStr v2 fun v3 =>
      ifT (strEq v1 v3) (
        retG (.int .i64 t8) h Ψ) (
        rg (t8 + 1) (
          s75l1_G (s75l1 Ψ n1) s1 v1 t7 (t8 + 1) h))) (
      retG (.int .i64 (-1)) h Ψ)

def s75 (Ψ : AVal → Heap → Prop) (s : AVal) (v : ByteArray) (h : Heap) : Prop :=
  lenN s fun n =>
  s75l1_E (s75l1 Ψ) s v n 0 h

def s75_A (Ψ : AVal → Heap → Prop) : Ann :=
  .seq (rA 1)
  (.seq (.seq (rA 3)
  (.block (.loop [(0, .any), (1, .str), (7, .int .i64), (8, .int .i64)] (fun n l h => s75l1_R (s75l1 Ψ n) l h) (fun L1 =>
  .seq (rA 1)
  (.seq (.cond (.leaf)
  (.leaf))
  (.seq (.block (.seq (rA 2)
  (.seq (rA 6)
  (.cond (.seq (rA 2)
  (.leaf))
  (.leaf)))))
  (rA 2)))))))
  (.seq (rA 1)
  (.leaf)))

theorem s75_ok {Ψ : AVal → Heap → Prop} {s : AVal} {v : ByteArray} {h : Heap} (H : s75 Ψ s v h) : ACalls prog 75 [s, (.str v)] h Ψ :=
  calls_of_evF func75 (by kernel_rfl) (by kernel_rfl) (by kernel_rfl)
    (Eq.mpr (by as_aux_lemma => kernel_rfl : oblF prog f75 (s75_A Ψ) Ψ = (True ∧ (True ∧ (∀ (h : Heap) (x0 : AVal) (x1 : ByteArray) (x2 x3 : Int), ON (s75l1 Ψ 0 x0 x1 x2 x3 h)) ∧ ∀ n1 : Nat, (∀ (h : Heap) (x0 : AVal) (x1 : ByteArray) (x2 x3 : Int), OI (s75l1 Ψ (n1 + 1) x0 x1 x2 x3 h)) ∧ (True ∧ (True ∧ True) ∧ (True ∧ True ∧ (True ∧ True) ∧ True) ∧ True)) ∧ True ∧ True)) ⟨trivial, ⟨⟨trivial, ⟨fun _ _ _ _ _ H => H, fun _ => ⟨fun _ _ _ _ _ H => H, ⟨trivial, ⟨⟨trivial, trivial⟩, ⟨⟨trivial, ⟨trivial, ⟨⟨trivial, trivial⟩, trivial⟩⟩⟩, trivial⟩⟩⟩⟩⟩⟩, ⟨trivial, trivial⟩⟩⟩)
    (Eq.mpr (by as_aux_lemma => kernel_rfl : evF prog f75 (s75_A Ψ) Ψ [s, (.str v)] h = s75 Ψ s v h) H)

/- 77 dictum/dictumref03.Reserved -/
def s77 (Ψ : AVal → Heap → Prop) (h : Heap) : Prop :=
  retG (.lsl 1 [(.str (ByteArray.mk #[97, 98, 111, 114, 116])), (.str (ByteArray.mk #[99, 97, 115, 101])), (.str (ByteArray.mk #[102, 97, 108, 115, 101])), (.str (ByteArray.mk #[102, 115, 116])), (.str (ByteArray.mk #[102, 117, 110])), (.str (ByteArray.mk #[105, 110])), (.str (ByteArray.mk #[105, 110, 108])), (.str (ByteArray.mk #[105, 110, 114])), (.str (ByteArray.mk #[108, 101, 116])), (.str (ByteArray.mk #[111, 102])), (.str (ByteArray.mk #[115, 110, 100])), (.str (ByteArray.mk #[116, 114, 117, 101]))]) h Ψ

def s77_A (Ψ : AVal → Heap → Prop) : Ann :=
  .seq (rA 1)
  (.seq (.reg [⟨none, [(0, true), (1, false)]⟩])
  (.leaf))

theorem s77_ok {Ψ : AVal → Heap → Prop} {h : Heap} (H : s77 Ψ  h) : ACalls prog 77 [] h Ψ :=
  calls_of_evF func77 (by kernel_rfl) (by kernel_rfl) (by kernel_rfl)
    (Eq.mpr (by as_aux_lemma => kernel_rfl : oblF prog f77 (s77_A Ψ) Ψ = (True ∧ True ∧ True)) ⟨trivial, ⟨trivial, trivial⟩⟩)
    (Eq.mpr (by as_aux_lemma => kernel_rfl : evF prog f77 (s77_A Ψ) Ψ [] h = s77 Ψ  h) H)

/- 79 slices.IndexFunc[[]int,int] -/
abbrev s79l1_T := AVal → AVal → Int → Int → Heap → Prop
def s79l1_R (F : s79l1_T) (l : List AVal) (h : Heap) : Prop := J.cons l fun x0 l => J.cons l fun x1 l => J.cons l fun v l => J.int .i64 v fun x2 => J.cons l fun v l => J.int .i64 v fun x3 => J.nil l (F x0 x1 x2 x3 h)
def s79l1_G (F : s79l1_T) (x0 x1 : AVal) (x2 x3 : Int) (h : Heap) : Prop := gJ [.any, .any, .int .i64, .int .i64] [x0, x1, (.int .i64 x2), (.int .i64 x3)] h (s79l1_R F)
def s79l1_E (F : Nat → s79l1_T) (x0 x1 : AVal) (x2 x3 : Int) (h : Heap) : Prop := gJ [.any, .any, .int .i64, .int .i64] [x0, x1, (.int .i64 x2), (.int .i64 x3)] h (fun l h => ∃ n, s79l1_R (F n) l h)
theorem s79l1_go {F : s79l1_T} {x0 x1 : AVal} {x2 x3 : Int} {h : Heap} (H : F x0 x1 x2 x3 h) : s79l1_G F x0 x1 x2 x3 h := gJ_plain rfl H
theorem s79l1_in {F : Nat → s79l1_T} {x0 x1 : AVal} {x2 x3 : Int} {h : Heap} (n : Nat) (H : F n x0 x1 x2 x3 h) : s79l1_E F x0 x1 x2 x3 h := gJ_plain rfl ⟨n, H⟩

def s79l1 (Ψ : AVal → Heap → Prop) : Nat → s79l1_T
  | 0, _, _, _, _, _ => False
  | n1 + 1, s1, f1, t7, t8, h =>
    ifT (decide (t8 < t7)) (
      ixS 1 s1 t8 fun p =>
      ld1 h p fun v =>
      tInt .i64 v fun v1 =>
      callV prog f1 [(.int .i64 v1)] h fun v2 h_ =>
      tBool v2 fun v3 =>
      ifT v3 (
        retG (.int .i64 t8) h_ Ψ) (
        rg (t8 + 1) (
          s79l1_G (s79l1 Ψ n1) s1 f1 t7 (t8 + 1) h_))) (
      retG (.int .i64 (-1)) h Ψ)

def s79 (Ψ : AVal → Heap → Prop) (s : AVal) (f : AVal) (h : Heap) : Prop :=
  lenN s fun n =>
  s79l1_E (s79l1 Ψ) s f n 0 h

def s79_A (Ψ : AVal → Heap → Prop) : Ann :=
  .seq (rA 1)
  (.seq (.seq (rA 3)
  (.block (.loop [(0, .any), (1, .any), (7, .int .i64), (8, .int .i64)] (fun n l h => s79l1_R (s79l1 Ψ n) l h) (fun L1 =>
  .seq (rA 1)
  (.seq (.cond (.leaf)
  (.leaf))
  (.seq (.block (.seq (rA 2)
  (.seq (rA 6)
  (.cond (.seq (rA 2)
  (.leaf))
  (.leaf)))))
  (rA 2)))))))
  (.seq (rA 1)
  (.leaf)))

theorem s79_ok {Ψ : AVal → Heap → Prop} {s : AVal} {f : AVal} {h : Heap} (H : s79 Ψ s f h) : ACalls prog 79 [s, f] h Ψ :=
  calls_of_evF func79 (by kernel_rfl) (by kernel_rfl) (by kernel_rfl)
    (Eq.mpr (by as_aux_lemma => kernel_rfl : oblF prog f79 (s79_A Ψ) Ψ = (True ∧ (True ∧ (∀ (h : Heap) (x0 x1 : AVal) (x2 x3 : Int), ON (s79l1 Ψ 0 x0 x1 x2 x3 h)) ∧ ∀ n1 : Nat, (∀ (h : Heap) (x0 x1 : AVal) (x2 x3 : Int), OI (s79l1 Ψ (n1 + 1) x0 x1 x2 x3 h)) ∧ (True ∧ (True ∧ True) ∧ (True ∧ True ∧ (True ∧ True) ∧ True) ∧ True)) ∧ True ∧ True)) ⟨trivial, ⟨⟨trivial, ⟨fun _ _ _ _ _ H => H, fun _ => ⟨fun _ _ _ _ _ H => H, ⟨trivial, ⟨⟨trivial, trivial⟩, ⟨⟨trivial, ⟨trivial, ⟨⟨trivial, trivial⟩, trivial⟩⟩⟩, trivial⟩⟩⟩⟩⟩⟩, ⟨trivial, trivial⟩⟩⟩)
    (Eq.mpr (by as_aux_lemma => kernel_rfl : evF prog f79 (s79_A Ψ) Ψ [s, f] h = s79 Ψ s f h) H)

/- 81 cmp.Less[int] -/
def s81 (Ψ : AVal → Heap → Prop) (x : Int) (y : Int) (h : Heap) : Prop :=
  callG prog 86 [(.int .i64 x)] h fun v h_ =>
  tBool v fun v1 =>
  ifT v1 (
    callG prog 86 [(.int .i64 y)] h_ fun v2 h_1 =>
    tBool v2 fun v3 =>
    ifT (!v3) (
      retG (.bool true) h_1 Ψ) (
      retG (.bool (decide (x < y))) h_1 Ψ)) (
    retG (.bool (decide (x < y))) h_ Ψ)

def s81_A (Ψ : AVal → Heap → Prop) : Ann :=
  .seq (rA 1)
  (.seq (.reg [⟨none, [(0, false), (1, false), (2, false)]⟩, ⟨some (7, true), [(3, false), (4, false), (5, false)]⟩, ⟨none, [(6, false), (7, false)]⟩, ⟨some (12, false), [(8, false), (9, false), (10, false)]⟩, ⟨none, [(11, false), (12, false)]⟩])
  (.leaf))

theorem s81_ok {Ψ : AVal → Heap → Prop} {x : Int} {y : Int} {h : Heap} (H : s81 Ψ x y h) : ACalls prog 81 [(.int .i64 x), (.int .i64 y)] h Ψ :=
  calls_of_evF func81 (by kernel_rfl) (by kernel_rfl) (by kernel_rfl)
    (Eq.mpr (by as_aux_lemma => kernel_rfl : oblF prog f81 (s81_A Ψ) Ψ = (True ∧ True ∧ True)) ⟨trivial, ⟨trivial, trivial⟩⟩)
    (Eq.mpr (by as_aux_lemma => kernel_rfl : evF prog f81 (s81_A Ψ) Ψ [(.int .i64 x), (.int .i64 y)] h = s81 Ψ x y h) H)

/- 83 dictum/worlds.looked -/
abbrev s83l2_T := AVal → Int → AVal → AVal → Int → Int → Heap → Prop
def s83l2_R (F : s83l2_T) (l : List AVal) (h : Heap) : Prop := J.cons l fun x0 l => J.cons l fun v l => J.int .i64 v fun x1 => J.cons l fun x2 l => J.cons l fun x3 l => J.cons l fun v l => J.int .i64 v fun x4 => J.cons l fun v l => J.int .i64 v fun x5 => J.nil l (F x0 x1 x2 x3 x4 x5 h)
def s83l2_G (F : s83l2_T) (x0 : AVal) (x1 : Int) (x2 x3 : AVal) (x4 x5 : Int) (h : Heap) : Prop := gJ [.any, .int .i64, .any, .any, .int .i64, .int .i64] [x0, (.int .i64 x1), x2, x3, (.int .i64 x4), (.int .i64 x5)] h (s83l2_R F)
def s83l2_E (F : Nat → s83l2_T) (x0 : AVal) (x1 : Int) (x2 x3 : AVal) (x4 x5 : Int) (h : Heap) : Prop := gJ [.any, .int .i64, .any, .any, .int .i64, .int .i64] [x0, (.int .i64 x1), x2, x3, (.int .i64 x4), (.int .i64 x5)] h (fun l h => ∃ n, s83l2_R (F n) l h)
theorem s83l2_go {F : s83l2_T} {x0 : AVal} {x1 : Int} {x2 x3 : AVal} {x4 x5 : Int} {h : Heap} (H : F x0 x1 x2 x3 x4 x5 h) : s83l2_G F x0 x1 x2 x3 x4 x5 h := gJ_plain rfl H
theorem s83l2_in {F : Nat → s83l2_T} {x0 : AVal} {x1 : Int} {x2 x3 : AVal} {x4 x5 : Int} {h : Heap} (n : Nat) (H : F n x0 x1 x2 x3 x4 x5 h) : s83l2_E F x0 x1 x2 x3 x4 x5 h := gJ_plain rfl ⟨n, H⟩

abbrev s83l3_T := AVal → Int → AVal → Int → AVal → AVal → Int → Int → Int → Int → Heap → Prop
def s83l3_R (F : s83l3_T) (l : List AVal) (h : Heap) : Prop := J.cons l fun x0 l => J.cons l fun v l => J.int .i64 v fun x1 => J.cons l fun x2 l => J.cons l fun v l => J.int .i64 v fun x3 => J.cons l fun x4 l => J.cons l fun x5 l => J.cons l fun v l => J.int .i64 v fun x6 => J.cons l fun v l => J.int .i64 v fun x7 => J.cons l fun v l => J.int .i64 v fun x8 => J.cons l fun v l => J.int .i64 v fun x9 => J.nil l (F x0 x1 x2 x3 x4 x5 x6 x7 x8 x9 h)
def s83l3_G (F : s83l3_T) (x0 : AVal) (x1 : Int) (x2 : AVal) (x3 : Int) (x4 x5 : AVal) (x6 x7 x8 x9 : Int) (h : Heap) : Prop := gJ [.any, .int .i64, .any, .int .i64, .any, .any, .int .i64, .int .i64, .int .i64, .int .i64] [x0, (.int .i64 x1), x2, (.int .i64 x3), x4, x5, (.int .i64 x6), (.int .i64 x7), (.int .i64 x8), (.int .i64 x9)] h (s83l3_R F)
def s83l3_E (F : Nat → s83l3_T) (x0 : AVal) (x1 : Int) (x2 : AVal) (x3 : Int) (x4 x5 : AVal) (x6 x7 x8 x9 : Int) (h : Heap) : Prop := gJ [.any, .int .i64, .any, .int .i64, .any, .any, .int .i64, .int .i64, .int .i64, .int .i64] [x0, (.int .i64 x1), x2, (.int .i64 x3), x4, x5, (.int .i64 x6), (.int .i64 x7), (.int .i64 x8), (.int .i64 x9)] h (fun l h => ∃ n, s83l3_R (F n) l h)
theorem s83l3_go {F : s83l3_T} {x0 : AVal} {x1 : Int} {x2 : AVal} {x3 : Int} {x4 x5 : AVal} {x6 x7 x8 x9 : Int} {h : Heap} (H : F x0 x1 x2 x3 x4 x5 x6 x7 x8 x9 h) : s83l3_G F x0 x1 x2 x3 x4 x5 x6 x7 x8 x9 h := gJ_plain rfl H
theorem s83l3_in {F : Nat → s83l3_T} {x0 : AVal} {x1 : Int} {x2 : AVal} {x3 : Int} {x4 x5 : AVal} {x6 x7 x8 x9 : Int} {h : Heap} (n : Nat) (H : F n x0 x1 x2 x3 x4 x5 x6 x7 x8 x9 h) : s83l3_E F x0 x1 x2 x3 x4 x5 x6 x7 x8 x9 h := gJ_plain rfl ⟨n, H⟩

def s83c4 (Ψ : AVal → Heap → Prop) (L2 : s83l2_T) (L3 : s83l3_T) (m3 : AVal) (n7 : Int) (leq2 : AVal) (a1 : Int) (l_7 t34_2 : AVal) (t35_2 t36_2 t44_1 t45_1 : Int) (h : Heap) : Prop :=
  rg (t45_1 + 1) (
    L3 m3 n7 leq2 a1 l_7 t34_2 t35_2 t36_2 t44_1 (t45_1 + 1) h)

def s83c6 (Ψ : AVal → Heap → Prop) (L2 : s83l2_T) (L3 : s83l3_T) (m5 : AVal) (n9 : Int) (leq4 : AVal) (a3 : Int) (l_9 t34_4 : AVal) (t35_4 t36_4 t44_3 t45_3 : Int) (t66 : Bool) (h : Heap) : Prop :=
  ifT t66 (
    retG (.tuple [.nilfunc, (.bool false)]) h Ψ) (
    s83c4 Ψ L2 L3 m5 n9 leq4 a3 l_9 t34_4 t35_4 t36_4 t44_3 t45_3 h)

def s83c5 (Ψ : AVal → Heap → Prop) (L2 : s83l2_T) (L3 : s83l3_T) (m4 : AVal) (n8 : Int) (leq3 : AVal) (a2 : Int) (l_8 b t34_3 : AVal) (t35_3 t36_3 t44_2 t45_2 : Int) (t57 : Bool) (h : Heap) : Prop :=
  ifT t57 (
    s83c4 Ψ L2 L3 m4 n8 leq3 a2 l_8 t34_3 t35_3 t36_3 t44_2 t45_2 h) (
    ld1 h b fun v10 =>
    tInt .i64 v10 fun v11 =>
    callV prog leq3 [(.int .i64 v11), (.int .i64 a2)] h fun v12 h_4 =>
    tBool v12 fun v13 =>
    ifT v13 (
      s83c6 Ψ L2 L3 m4 n8 leq3 a2 l_8 t34_3 t35_3 t36_3 t44_2 t45_2 true h_4) (
      callG prog 44 [l_8, (.func (.func 89) [] [m4, b])] h_4 fun v14 h_5 =>
      tBool v14 fun v15 =>
      s83c6 Ψ L2 L3 m4 n8 leq3 a2 l_8 t34_3 t35_3 t36_3 t44_2 t45_2 v15 h_5))

def s83l3 (Ψ : AVal → Heap → Prop) (L2 : s83l2_T) : Nat → s83l3_T
  | 0, _, _, _, _, _, _, _, _, _, _, _ => False
  | n6 + 1, m2, n5, leq1, a, l_6, t34_1, t35_1, t36_1, t44, t45, h =>
    ifT (decide (t45 < t44)) (
      Sym.newRow 1 [(.int .i64 0)] h fun r h_2 =>
      st true h_2 (.ptr r 0 0) [(.int .i64 t45)] fun h_3 =>
      ld1 h_3 (.ptr r 0 0) fun v16 =>
      tInt .i64 v16 fun v17 =>
      ifT (a == v17) (
        s83c5 Ψ L2 (s83l3_G (s83l3 Ψ L2 n6)) m2 n5 leq1 a l_6 (.ptr r 0 0) t34_1 t35_1 t36_1 t44 t45 true h_3) (
        ld1 h_3 (.ptr r 0 0) fun v18 =>
        tInt .i64 v18 fun v19 =>
        callV prog leq1 [(.int .i64 a), (.int .i64 v19)] h_3 fun v20 h_6 =>
        tBool v20 fun v21 =>
        s83c5 Ψ L2 (s83l3_G (s83l3 Ψ L2 n6)) m2 n5 leq1 a l_6 (.ptr r 0 0) t34_1 t35_1 t36_1 t44 t45 (!v21) h_6)) (
      rg (t36_1 + 1) (
        L2 m2 n5 leq1 t34_1 t35_1 (t36_1 + 1) h))

def s83l2 (Ψ : AVal → Heap → Prop) : Nat → s83l2_T
  | 0, _, _, _, _, _, _, _ => False
  | n4 + 1, m1, n3, leq, t34, t35, t36, h =>
    ifT (decide (t36 < t35)) (
      ixS 1 t34 t36 fun p1 =>
      ld1 h p1 fun v7 =>
      callG prog 88 [v7] h fun v8 h_1 =>
      tBool v8 fun v9 =>
      ifT (!v9) (
        retG (.tuple [.nilfunc, (.bool false)]) h_1 Ψ) (
        s83l3_E (s83l3 Ψ (s83l2_G (s83l2 Ψ n4))) m1 n3 leq t36 v7 t34 t35 t36 n3 0 h_1)) (
      retG (.tuple [leq, (.bool true)]) h Ψ)

def s83c1 (Ψ : AVal → Heap → Prop) (m : AVal) (n1 : Int) (t25 : Bool) (h : Heap) : Prop :=
  ifT t25 (
    retG (.tuple [.nilfunc, (.bool false)]) h Ψ) (
    ldN 2 h m fun l_ =>
    tCons l_ fun v l_1 =>
    tCons l_1 fun v1 l_2 =>
    tNil l_2 (
      callG prog 87 [(.agg [v, v1])] h fun v2 h_ =>
      tTup v2 fun l_3 =>
      tCons l_3 fun v3 l_4 =>
      tCons l_4 fun v4 l_5 =>
      tBool v4 fun v5 =>
      tNil l_5 (
        ifT (!v5) (
          retG (.tuple [.nilfunc, (.bool false)]) h_ Ψ) (
          addOff m 1 fun p =>
          ld1 h_ p fun v6 =>
          lenN v6 fun n2 =>
          s83l2_E (s83l2 Ψ) m n1 v3 v6 n2 0 h_))))

def s83 (Ψ : AVal → Heap → Prop) (m_Up : AVal) (m_Val : AVal) (h : Heap) : Prop :=
  lenN m_Up fun n =>
  ifT (decide (n < 1)) (
    s83c1 Ψ (.lptr [m_Up, m_Val]) n true h) (
    ifT (decide (512 < n)) (
      s83c1 Ψ (.lptr [m_Up, m_Val]) n true h) (
      lenN m_Val fun n12 =>
      s83c1 Ψ (.lptr [m_Up, m_Val]) n (n12 != n) h))

def s83_A (Ψ : AVal → Heap → Prop) : Ann :=
  .seq (.reg [⟨none, [(0, true), (1, false), (2, false)]⟩])
  (.seq (rA 4)
  (.seq (.cut [(1, .any), (4, .int .i64), (25, .bool)] (fun l h => J.cons l fun x0 l => J.cons l fun v l => J.int .i64 v fun x1 => J.cons l fun v l => J.bool v fun x2 => J.nil l (s83c1 Ψ x0 x1 x2 h)) (.reg [⟨none, [(0, false), (1, false), (2, false)]⟩, ⟨some (15, false), [(3, false), (4, false)]⟩, ⟨none, [(5, false), (6, false)]⟩, ⟨some (19, false), [(7, false), (8, false), (9, false), (10, false), (11, false)]⟩, ⟨none, [(12, false)]⟩])
  (.cond (.seq (rA 2)
  (.leaf))
  (.leaf)))
  (.seq (rA 7)
  (.seq (.seq (rA 2)
  (.cond (.seq (rA 2)
  (.leaf))
  (.leaf)))
  (.seq (.seq (rA 4)
  (.block (.loop [(1, .any), (4, .int .i64), (5, .any), (34, .any), (35, .int .i64), (36, .int .i64)] (fun n l h => s83l2_R (s83l2 Ψ n) l h) (fun L2 =>
  .seq (rA 1)
  (.seq (.cond (.leaf)
  (.leaf))
  (.seq (.block (.seq (rA 5)
  (.seq (.seq (rA 3)
  (.cond (.seq (rA 2)
  (.leaf))
  (.leaf)))
  (.seq (rA 2)
  (.block (.loop [(1, .any), (4, .int .i64), (5, .any), (7, .int .i64), (8, .any), (34, .any), (35, .int .i64), (36, .int .i64), (44, .int .i64), (45, .int .i64)] (fun n l h => s83l3_R (s83l3 Ψ (fun y0 y1 y2 y3 y4 y5 h => L2 [y0, (.int .i64 y1), y2, y3, (.int .i64 y4), (.int .i64 y5)] h) n) l h) (fun L3 =>
  .seq (rA 1)
  (.seq (.cond (.leaf)
  (.leaf))
  (.cut [(1, .any), (4, .int .i64), (5, .any), (7, .int .i64), (8, .any), (34, .any), (35, .int .i64), (36, .int .i64), (44, .int .i64), (45, .int .i64)] (fun l h => J.cons l fun x0 l => J.cons l fun v l => J.int .i64 v fun x1 => J.cons l fun x2 l => J.cons l fun v l => J.int .i64 v fun x3 => J.cons l fun x4 l => J.cons l fun x5 l => J.cons l fun v l => J.int .i64 v fun x6 => J.cons l fun v l => J.int .i64 v fun x7 => J.cons l fun v l => J.int .i64 v fun x8 => J.cons l fun v l => J.int .i64 v fun x9 => J.nil l (s83c4 Ψ (fun y0 y1 y2 y3 y4 y5 h => L2 [y0, (.int .i64 y1), y2, y3, (.int .i64 y4), (.int .i64 y5)] h) (fun y0 y1 y2 y3 y4 y5 y6 y7 y8 y9 h => L3 [y0, (.int .i64 y1), y2, (.int .i64 y3), y4, y5, (.int .i64 y6), (.int .i64 y7), (.int .i64 y8), (.int .i64 y9)] h) x0 x1 x2 x3 x4 x5 x6 x7 x8 x9 h)) (.block (.seq (rA 3)
  (.seq (.cut [(1, .any), (4, .int .i64), (5, .any), (7, .int .i64), (8, .any), (9, .any), (34, .any), (35, .int .i64), (36, .int .i64), (44, .int .i64), (45, .int .i64), (57, .bool)] (fun l h => J.cons l fun x0 l => J.cons l fun v l => J.int .i64 v fun x1 => J.cons l fun x2 l => J.cons l fun v l => J.int .i64 v fun x3 => J.cons l fun x4 l => J.cons l fun x5 l => J.cons l fun x6 l => J.cons l fun v l => J.int .i64 v fun x7 => J.cons l fun v l => J.int .i64 v fun x8 => J.cons l fun v l => J.int .i64 v fun x9 => J.cons l fun v l => J.int .i64 v fun x10 => J.cons l fun v l => J.bool v fun x11 => J.nil l (s83c5 Ψ (fun y0 y1 y2 y3 y4 y5 h => L2 [y0, (.int .i64 y1), y2, y3, (.int .i64 y4), (.int .i64 y5)] h) (fun y0 y1 y2 y3 y4 y5 y6 y7 y8 y9 h => L3 [y0, (.int .i64 y1), y2, (.int .i64 y3), y4, y5, (.int .i64 y6), (.int .i64 y7), (.int .i64 y8), (.int .i64 y9)] h) x0 x1 x2 x3 x4 x5 x6 x7 x8 x9 x10 x11 h)) (.reg [⟨none, [(0, false), (1, false), (2, false), (3, false)]⟩, ⟨some (51, false), [(4, false), (5, false), (6, false), (7, false), (8, false)]⟩, ⟨none, [(9, false)]⟩])
  (.cond (.leaf)
  (.leaf)))
  (.cut [(1, .any), (4, .int .i64), (5, .any), (7, .int .i64), (8, .any), (34, .any), (35, .int .i64), (36, .int .i64), (44, .int .i64), (45, .int .i64), (66, .bool)] (fun l h => J.cons l fun x0 l => J.cons l fun v l => J.int .i64 v fun x1 => J.cons l fun x2 l => J.cons l fun v l => J.int .i64 v fun x3 => J.cons l fun x4 l => J.cons l fun x5 l => J.cons l fun v l => J.int .i64 v fun x6 => J.cons l fun v l => J.int .i64 v fun x7 => J.cons l fun v l => J.int .i64 v fun x8 => J.cons l fun v l => J.int .i64 v fun x9 => J.cons l fun v l => J.bool v fun x10 => J.nil l (s83c6 Ψ (fun y0 y1 y2 y3 y4 y5 h => L2 [y0, (.int .i64 y1), y2, y3, (.int .i64 y4), (.int .i64 y5)] h) (fun y0 y1 y2 y3 y4 y5 y6 y7 y8 y9 h => L3 [y0, (.int .i64 y1), y2, (.int .i64 y3), y4, y5, (.int .i64 y6), (.int .i64 y7), (.int .i64 y8), (.int .i64 y9)] h) x0 x1 x2 x3 x4 x5 x6 x7 x8 x9 x10 h)) (.reg [⟨none, [(0, false), (1, false), (2, false), (3, false), (4, false)]⟩, ⟨some (62, false), [(5, false), (6, false), (7, false)]⟩, ⟨none, [(8, false)]⟩])
  (.cond (.seq (rA 2)
  (.leaf))
  (.leaf))))))
  (rA 2))))))))))
  (rA 2)))))))
  (.seq (rA 3)
  (.leaf)))))))

theorem s83_ok {Ψ : AVal → Heap → Prop} {m_Up : AVal} {m_Val : AVal} {h : Heap} (H : s83 Ψ m_Up m_Val h) : ACalls prog 83 [(.agg [m_Up, m_Val])] h Ψ :=
  calls_of_evF func83 (by kernel_rfl) (by kernel_rfl) (by kernel_rfl)
    (Eq.mpr (by as_aux_lemma => kernel_rfl : oblF prog f83 (s83_A Ψ) Ψ = (True ∧ True ∧ ((True) ∧ (∀ (h : Heap) (x0 : AVal) (x1 : Int) (x2 : Bool), OI (s83c1 Ψ x0 x1 x2 h)) ∧ ((True ∧ True) ∧ True)) ∧ True ∧ (True ∧ (True ∧ True) ∧ True) ∧ (True ∧ (∀ (h : Heap) (x0 : AVal) (x1 : Int) (x2 x3 : AVal) (x4 x5 : Int), ON (s83l2 Ψ 0 x0 x1 x2 x3 x4 x5 h)) ∧ ∀ n2 : Nat, (∀ (h : Heap) (x0 : AVal) (x1 : Int) (x2 x3 : AVal) (x4 x5 : Int), OI (s83l2 Ψ (n2 + 1) x0 x1 x2 x3 x4 x5 h)) ∧ (True ∧ (True ∧ True) ∧ (True ∧ (True ∧ (True ∧ True) ∧ True) ∧ True ∧ (∀ (h : Heap) (x0 : AVal) (x1 : Int) (x2 : AVal) (x3 : Int) (x4 x5 : AVal) (x6 x7 x8 x9 : Int), ON (s83l3 Ψ (s83l2_G (s83l2 Ψ n2)) 0 x0 x1 x2 x3 x4 x5 x6 x7 x8 x9 h)) ∧ ∀ n3 : Nat, (∀ (h : Heap) (x0 : AVal) (x1 : Int) (x2 : AVal) (x3 : Int) (x4 x5 : AVal) (x6 x7 x8 x9 : Int), OI (s83l3 Ψ (s83l2_G (s83l2 Ψ n2)) (n3 + 1) x0 x1 x2 x3 x4 x5 x6 x7 x8 x9 h)) ∧ (True ∧ (True ∧ True) ∧ (True ∧ ((True) ∧ (∀ (h : Heap) (x0 : AVal) (x1 : Int) (x2 : AVal) (x3 : Int) (x4 x5 x6 : AVal) (x7 x8 x9 x10 : Int) (x11 : Bool), OI (s83c5 Ψ (s83l2_G (s83l2 Ψ n2)) (s83l3_G (s83l3 Ψ (s83l2_G (s83l2 Ψ n2)) n3)) x0 x1 x2 x3 x4 x5 x6 x7 x8 x9 x10 x11 h)) ∧ (True ∧ True)) ∧ (True) ∧ (∀ (h : Heap) (x0 : AVal) (x1 : Int) (x2 : AVal) (x3 : Int) (x4 x5 : AVal) (x6 x7 x8 x9 : Int) (x10 : Bool), OI (s83c6 Ψ (s83l2_G (s83l2 Ψ n2)) (s83l3_G (s83l3 Ψ (s83l2_G (s83l2 Ψ n2)) n3)) x0 x1 x2 x3 x4 x5 x6 x7 x8 x9 x10 h)) ∧ ((True ∧ True) ∧ True)) ∧ (∀ (h : Heap) (x0 : AVal) (x1 : Int) (x2 : AVal) (x3 : Int) (x4 x5 : AVal) (x6 x7 x8 x9 : Int), OI (s83c4 Ψ (s83l2_G (s83l2 Ψ n2)) (s83l3_G (s83l3 Ψ (s83l2_G (s83l2 Ψ n2)) n3)) x0 x1 x2 x3 x4 x5 x6 x7 x8 x9 h)) ∧ (True))) ∧ True)) ∧ True ∧ True)) ⟨trivial, ⟨trivial, ⟨⟨trivial, fun _ _ _ _ H => H, ⟨⟨trivial, trivial⟩, trivial⟩⟩, ⟨trivial, ⟨⟨trivial, ⟨⟨trivial, trivial⟩, trivial⟩⟩, ⟨⟨trivial, ⟨fun _ _ _ _ _ _ _ H => H, fun _ => ⟨fun _ _ _ _ _ _ _ H => H, ⟨trivial, ⟨⟨trivial, trivial⟩, ⟨⟨trivial, ⟨⟨trivial, ⟨⟨trivial, trivial⟩, trivial⟩⟩, ⟨trivial, ⟨fun _ _ _ _ _ _ _ _ _ _ _ H => H, fun _ => ⟨fun _ _ _ _ _ _ _ _ _ _ _ H => H, ⟨trivial, ⟨⟨trivial, trivial⟩, ⟨⟨trivial, ⟨⟨trivial, fun _ _ _ _ _ _ _ _ _ _ _ _ _ H => H, ⟨trivial, trivial⟩⟩, ⟨trivial, fun _ _ _ _ _ _ _ _ _ _ _ _ H => H, ⟨⟨trivial, trivial⟩, trivial⟩⟩⟩⟩, fun _ _ _ _ _ _ _ _ _ _ _ H => H, trivial⟩⟩⟩⟩⟩⟩⟩⟩, trivial⟩⟩⟩⟩⟩⟩, ⟨trivial, trivial⟩⟩⟩⟩⟩⟩⟩)
    (Eq.mpr (by as_aux_lemma => kernel_rfl : evF prog f83 (s83_A Ψ) Ψ [(.agg [m_Up, m_Val])] h = s83 Ψ m_Up m_Val h) H)

/- 85 (*dictum/dictumref03.T).Find -/
abbrev s85l1_T := AVal → AVal → Int → Heap → Prop
def s85l1_R (F : s85l1_T) (l : List AVal) (h : Heap) : Prop := J.cons l fun x0 l => J.cons l fun x1 l => J.cons l fun v l => J.int .i64 v fun x2 => J.nil l (F x0 x1 x2 h)
def s85l1_G (F : s85l1_T) (x0 x1 : AVal) (x2 : Int) (h : Heap) : Prop := gJ [.any, .any, .int .i64] [x0, x1, (.int .i64 x2)] h (s85l1_R F)
def s85l1_E (F : Nat → s85l1_T) (x0 x1 : AVal) (x2 : Int) (h : Heap) : Prop := gJ [.any, .any, .int .i64] [x0, x1, (.int .i64 x2)] h (fun l h => ∃ n, s85l1_R (F n) l h)
theorem s85l1_go {F : s85l1_T} {x0 x1 : AVal} {x2 : Int} {h : Heap} (H : F x0 x1 x2 h) : s85l1_G F x0 x1 x2 h := gJ_plain rfl H
theorem s85l1_in {F : Nat → s85l1_T} {x0 x1 : AVal} {x2 : Int} {h : Heap} (n : Nat) (H : F n x0 x1 x2 h) : s85l1_E F x0 x1 x2 h := gJ_plain rfl ⟨n, H⟩

def s85l1 (Ψ : AVal → Heap → Prop) : Nat → s85l1_T
  | 0, _, _, _, _ => False
  | n1 + 1, t1, n, i, h =>
    nilCheckA t1 fun p =>
    addOff p 0 fun p1 =>
    ld1 h p1 fun v =>
    lenN v fun n2 =>
    ifT (decide (i < n2)) (
      nilCheckA t1 fun p2 =>
      addOff p2 0 fun p3 =>
      ld1 h p3 fun v1 =>
      ixS 4 v1 i fun p4 =>
      ldN 4 h p4 fun l_ =>
      tCons l_ fun v2 l_1 =>
      tInt .i64 v2 fun v3 =>
      tCons l_1 fun v4 l_2 =>
      tStr v4 fun v5 =>
      tCons l_2 fun v6 l_3 =>
      tInt .i64 v6 fun v7 =>
      tCons l_3 fun v8 l_4 =>
      tInt .i64 v8 fun v9 =>
      tNil l_4 (
        ldN 4 h n fun l_5 =>
        tCons l_5 fun v10 l_6 =>
        tInt .i64 v10 fun v11 =>
        tCons l_6 fun v12 l_7 =>
        tStr v12 fun v13 =>
        tCons l_7 fun v14 l_8 =>
        tInt .i64 v14 fun v15 =>
        tCons l_8 fun v16 l_9 =>
        tInt .i64 v16 fun v17 =>
        tNil l_9 (
          eqQ prog 115 (.agg [(.int .i64 v3), (.str v5), (.int .i64 v7), (.int .i64 v9)]) (.agg [(.int .i64 v11), (.str v13), (.int .i64 v15), (.int .i64 v17)]) fun b =>
          ifT b (
            retG (.tuple [(.int .i64 i), (.bool true)]) h Ψ) (
            rg (i + 1) (
              s85l1_G (s85l1 Ψ n1) t1 n (i + 1) h))))) (
      retG (.tuple [(.int .i64 0), (.bool false)]) h Ψ)

def s85 (Ψ : AVal → Heap → Prop) (t : AVal) (n_Kind : Int) (n_Name : ByteArray) (n_L : Int) (n_R : Int) (h : Heap) : Prop :=
  s85l1_E (s85l1 Ψ) t (.lptr [(.int .i64 n_Kind), (.str n_Name), (.int .i64 n_L), (.int .i64 n_R)]) 0 h

def s85_A (Ψ : AVal → Heap → Prop) : Ann :=
  .seq (.reg [⟨none, [(0, true), (1, false), (2, false)]⟩])
  (.seq (.seq (rA 1)
  (.block (.loop [(0, .any), (3, .any), (6, .int .i64)] (fun n l h => s85l1_R (s85l1 Ψ n) l h) (fun L1 =>
  .seq (.seq (rA 7)
  (.cond (.leaf)
  (.leaf)))
  (.seq (.block (.seq (.draw [(0, false), (1, false), (2, false), (3, false), (4, false), (5, false), (6, false), (7, false), (8, false)] [0, 1, 3, 7, 0, 31, 63, 0, 255])
  (.cond (.seq (rA 3)
  (.leaf))
  (.leaf))))
  (rA 3))))))
  (.seq (rA 2)
  (.leaf)))

theorem s85_ok {Ψ : AVal → Heap → Prop} {t : AVal} {n_Kind : Int} {n_Name : ByteArray} {n_L : Int} {n_R : Int} {h : Heap} (H : s85 Ψ t n_Kind n_Name n_L n_R h) : ACalls prog 85 [t, (.agg [(.int .i64 n_Kind), (.str n_Name), (.int .i64 n_L), (.int .i64 n_R)])] h Ψ :=
  calls_of_evF func85 (by kernel_rfl) (by kernel_rfl) (by kernel_rfl)
    (Eq.mpr (by as_aux_lemma => kernel_rfl : oblF prog f85 (s85_A Ψ) Ψ = (True ∧ (True ∧ (∀ (h : Heap) (x0 x1 : AVal) (x2 : Int), ON (s85l1 Ψ 0 x0 x1 x2 h)) ∧ ∀ n1 : Nat, (∀ (h : Heap) (x0 x1 : AVal) (x2 : Int), OI (s85l1 Ψ (n1 + 1) x0 x1 x2 h)) ∧ ((True ∧ True ∧ True) ∧ (True ∧ (True ∧ True) ∧ True) ∧ True)) ∧ True ∧ True)) ⟨trivial, ⟨⟨trivial, ⟨fun _ _ _ _ H => H, fun _ => ⟨fun _ _ _ _ H => H, ⟨⟨trivial, ⟨trivial, trivial⟩⟩, ⟨⟨trivial, ⟨⟨trivial, trivial⟩, trivial⟩⟩, trivial⟩⟩⟩⟩⟩, ⟨trivial, trivial⟩⟩⟩)
    (Eq.mpr (by as_aux_lemma => kernel_rfl : evF prog f85 (s85_A Ψ) Ψ [t, (.agg [(.int .i64 n_Kind), (.str n_Name), (.int .i64 n_L), (.int .i64 n_R)])] h = s85 Ψ t n_Kind n_Name n_L n_R h) H)

/- 87 dictum/worlds.reckon -/
abbrev s87l1_T := AVal → Int → AVal → Int → Int → Heap → Prop
def s87l1_R (F : s87l1_T) (l : List AVal) (h : Heap) : Prop := J.cons l fun x0 l => J.cons l fun v l => J.int .i64 v fun x1 => J.cons l fun x2 l => J.cons l fun v l => J.int .i64 v fun x3 => J.cons l fun v l => J.int .i64 v fun x4 => J.nil l (F x0 x1 x2 x3 x4 h)
def s87l1_G (F : s87l1_T) (x0 : AVal) (x1 : Int) (x2 : AVal) (x3 x4 : Int) (h : Heap) : Prop := gJ [.any, .int .i64, .any, .int .i64, .int .i64] [x0, (.int .i64 x1), x2, (.int .i64 x3), (.int .i64 x4)] h (s87l1_R F)
def s87l1_E (F : Nat → s87l1_T) (x0 : AVal) (x1 : Int) (x2 : AVal) (x3 x4 : Int) (h : Heap) : Prop := gJ [.any, .int .i64, .any, .int .i64, .int .i64] [x0, (.int .i64 x1), x2, (.int .i64 x3), (.int .i64 x4)] h (fun l h => ∃ n, s87l1_R (F n) l h)
theorem s87l1_go {F : s87l1_T} {x0 : AVal} {x1 : Int} {x2 : AVal} {x3 x4 : Int} {h : Heap} (H : F x0 x1 x2 x3 x4 h) : s87l1_G F x0 x1 x2 x3 x4 h := gJ_plain rfl H
theorem s87l1_in {F : Nat → s87l1_T} {x0 : AVal} {x1 : Int} {x2 : AVal} {x3 x4 : Int} {h : Heap} (n : Nat) (H : F n x0 x1 x2 x3 x4 h) : s87l1_E F x0 x1 x2 x3 x4 h := gJ_plain rfl ⟨n, H⟩

abbrev s87l2_T := AVal → Int → AVal → AVal → AVal → Int → Int → Heap → Prop
def s87l2_R (F : s87l2_T) (l : List AVal) (h : Heap) : Prop := J.cons l fun x0 l => J.cons l fun v l => J.int .i64 v fun x1 => J.cons l fun x2 l => J.cons l fun x3 l => J.cons l fun x4 l => J.cons l fun v l => J.int .i64 v fun x5 => J.cons l fun v l => J.int .i64 v fun x6 => J.nil l (F x0 x1 x2 x3 x4 x5 x6 h)
def s87l2_G (F : s87l2_T) (x0 : AVal) (x1 : Int) (x2 x3 x4 : AVal) (x5 x6 : Int) (h : Heap) : Prop := gJ [.any, .int .i64, .any, .any, .any, .int .i64, .int .i64] [x0, (.int .i64 x1), x2, x3, x4, (.int .i64 x5), (.int .i64 x6)] h (s87l2_R F)
def s87l2_E (F : Nat → s87l2_T) (x0 : AVal) (x1 : Int) (x2 x3 x4 : AVal) (x5 x6 : Int) (h : Heap) : Prop := gJ [.any, .int .i64, .any, .any, .any, .int .i64, .int .i64] [x0, (.int .i64 x1), x2, x3, x4, (.int .i64 x5), (.int .i64 x6)] h (fun l h => ∃ n, s87l2_R (F n) l h)
theorem s87l2_go {F : s87l2_T} {x0 : AVal} {x1 : Int} {x2 x3 x4 : AVal} {x5 x6 : Int} {h : Heap} (H : F x0 x1 x2 x3 x4 x5 x6 h) : s87l2_G F x0 x1 x2 x3 x4 x5 x6 h := gJ_plain rfl H
theorem s87l2_in {F : Nat → s87l2_T} {x0 : AVal} {x1 : Int} {x2 x3 x4 : AVal} {x5 x6 : Int} {h : Heap} (n : Nat) (H : F n x0 x1 x2 x3 x4 x5 x6 h) : s87l2_E F x0 x1 x2 x3 x4 x5 x6 h := gJ_plain rfl ⟨n, H⟩

abbrev s87l3_T := AVal → Int → AVal → AVal → AVal → Int → Int → AVal → Int → Int → Heap → Prop
def s87l3_R (F : s87l3_T) (l : List AVal) (h : Heap) : Prop := J.cons l fun x0 l => J.cons l fun v l => J.int .i64 v fun x1 => J.cons l fun x2 l => J.cons l fun x3 l => J.cons l fun x4 l => J.cons l fun v l => J.int .i64 v fun x5 => J.cons l fun v l => J.int .i64 v fun x6 => J.cons l fun x7 l => J.cons l fun v l => J.int .i64 v fun x8 => J.cons l fun v l => J.int .i64 v fun x9 => J.nil l (F x0 x1 x2 x3 x4 x5 x6 x7 x8 x9 h)
def s87l3_G (F : s87l3_T) (x0 : AVal) (x1 : Int) (x2 x3 x4 : AVal) (x5 x6 : Int) (x7 : AVal) (x8 x9 : Int) (h : Heap) : Prop := gJ [.any, .int .i64, .any, .any, .any, .int .i64, .int .i64, .any, .int .i64, .int .i64] [x0, (.int .i64 x1), x2, x3, x4, (.int .i64 x5), (.int .i64 x6), x7, (.int .i64 x8), (.int .i64 x9)] h (s87l3_R F)
def s87l3_E (F : Nat → s87l3_T) (x0 : AVal) (x1 : Int) (x2 x3 x4 : AVal) (x5 x6 : Int) (x7 : AVal) (x8 x9 : Int) (h : Heap) : Prop := gJ [.any, .int .i64, .any, .any, .any, .int .i64, .int .i64, .any, .int .i64, .int .i64] [x0, (.int .i64 x1), x2, x3, x4, (.int .i64 x5), (.int .i64 x6), x7, (.int .i64 x8), (.int .i64 x9)] h (fun l h => ∃ n, s87l3_R (F n) l h)
theorem s87l3_go {F : s87l3_T} {x0 : AVal} {x1 : Int} {x2 x3 x4 : AVal} {x5 x6 : Int} {x7 : AVal} {x8 x9 : Int} {h : Heap} (H : F x0 x1 x2 x3 x4 x5 x6 x7 x8 x9 h) : s87l3_G F x0 x1 x2 x3 x4 x5 x6 x7 x8 x9 h := gJ_plain rfl H
theorem s87l3_in {F : Nat → s87l3_T} {x0 : AVal} {x1 : Int} {x2 x3 x4 : AVal} {x5 x6 : Int} {x7 : AVal} {x8 x9 : Int} {h : Heap} (n : Nat) (H : F n x0 x1 x2 x3 x4 x5 x6 x7 x8 x9 h) : s87l3_E F x0 x1 x2 x3 x4 x5 x6 x7 x8 x9 h := gJ_plain rfl ⟨n, H⟩

def s87c4 (Ψ : AVal → Heap → Prop) (L1 : s87l1_T) (L2 : s87l2_T) (L3 : s87l3_T) (m3 : AVal) (n12 : Int) (above3 row2 stack2 : AVal) (t18_3 t19_3 : Int) (t51_1 : AVal) (t52_1 t53_1 : Int) (h : Heap) : Prop :=
  rg (t53_1 + 1) (
    L3 m3 n12 above3 row2 stack2 t18_3 t19_3 t51_1 t52_1 (t53_1 + 1) h)

def s87c5 (Ψ : AVal → Heap → Prop) (L1 : s87l1_T) (L2 : s87l2_T) (L3 : s87l3_T) (m4 : AVal) (n13 : Int) (above4 row3 stack3 : AVal) (b t18_4 t19_4 : Int) (t51_2 : AVal) (t52_2 t53_2 : Int) (t63 : Bool) (h : Heap) : Prop :=
  ifT t63 (
    retG (.tuple [.nilfunc, (.bool false)]) h Ψ) (
    ixS 1 row3 b fun p6 =>
    ld1 h p6 fun v11 =>
    tBool v11 fun v12 =>
    ifT (!v12) (
      ixS 1 row3 b fun p7 =>
      st true h p7 [(.bool true)] fun h_7 =>
      appC 1 8 h_7 stack3 (.lsl 1 [(.int .i64 b)]) fun v13 h_8 =>
      s87c4 Ψ L1 L2 L3 m4 n13 above4 row3 v13 t18_4 t19_4 t51_2 t52_2 t53_2 h_8) (
      s87c4 Ψ L1 L2 L3 m4 n13 above4 row3 stack3 t18_4 t19_4 t51_2 t52_2 t53_2 h))

def s87l3 (Ψ : AVal → Heap → Prop) (L1 : s87l1_T) (L2 : s87l2_T) : Nat → s87l3_T
  | 0, _, _, _, _, _, _, _, _, _, _, _ => False
  | n11 + 1, m2, n10, above2, row1, stack1, t18_2, t19_2, t51, t52, t53, h =>
    ifT (decide (t53 < t52)) (
      ixS 1 t51 t53 fun p5 =>
      ld1 h p5 fun v9 =>
      tInt .i64 v9 fun v10 =>
      ifT (decide (v10 < 0)) (
        s87c5 Ψ L1 L2 (s87l3_G (s87l3 Ψ L1 L2 n11)) m2 n10 above2 row1 stack1 v10 t18_2 t19_2 t51 t52 t53 true h) (
        s87c5 Ψ L1 L2 (s87l3_G (s87l3 Ψ L1 L2 n11)) m2 n10 above2 row1 stack1 v10 t18_2 t19_2 t51 t52 t53 (decide (n10 ≤ v10)) h)) (
      L2 m2 n10 above2 row1 stack1 t18_2 t19_2 h)

def s87l2 (Ψ : AVal → Heap → Prop) (L1 : s87l1_T) : Nat → s87l2_T
  | 0, _, _, _, _, _, _, _, _ => False
  | n5 + 1, m1, n4, above1, row, stack, t18_1, t19_1, h =>
    lenN stack fun n6 =>
    ifT (decide (0 < n6)) (
      lenN stack fun n7 =>
      rg (n7 - 1) (
        ixS 1 stack (n7 - 1) fun p2 =>
        ld1 h p2 fun v4 =>
        tInt .i64 v4 fun v5 =>
        lenN stack fun n8 =>
        rg (n8 - 1) (
          slX 1 stack 0 (some (n8 - 1)) fun v6 =>
          addOff m1 0 fun p3 =>
          ld1 h p3 fun v7 =>
          ixS 1 v7 v5 fun p4 =>
          ld1 h p4 fun v8 =>
          lenN v8 fun n9 =>
          s87l3_E (s87l3 Ψ L1 (s87l2_G (s87l2 Ψ L1 n5))) m1 n4 above1 row v6 t18_1 t19_1 v8 n9 0 h))) (
      rg (t19_1 + 1) (
        L1 m1 n4 above1 t18_1 (t19_1 + 1) h))

def s87l1 (Ψ : AVal → Heap → Prop) : Nat → s87l1_T
  | 0, _, _, _, _, _, _ => False
  | n3 + 1, m, n2, above, t18, t19, h =>
    ifT (decide (t19 < t18)) (
      mkS false 1 1 (.bool false) h n2 n2 fun v2 h_3 =>
      ld1 h_3 above fun v3 =>
      ixS 1 v3 t19 fun p =>
      chk (sc v2) (
        st true h_3 p [v2] fun h_4 =>
        ixS 1 v2 t19 fun p1 =>
        st true h_4 p1 [(.bool true)] fun h_5 =>
        Sym.newRow 1 [(.int .i64 t19)] h_5 fun r1 h_6 =>
        s87l2_E (s87l2 Ψ (s87l1_G (s87l1 Ψ n3))) m n2 above v2 (.sl r1 1 0 1) t18 t19 h_6)) (
      retG (.tuple [(.func (.func 90) [] [above]), (.bool true)]) h Ψ)

def s87 (Ψ : AVal → Heap → Prop) (m_Up : AVal) (m_Val : AVal) (h : Heap) : Prop :=
  lenN m_Up fun n =>
  mkS false 1 24 .nilsl h n n fun v h_ =>
  Sym.newRow 1 [.nilsl] h_ fun r h_1 =>
  chk (sc v) (
    st true h_1 (.ptr r 0 0) [v] fun h_2 =>
    ld1 h_2 (.ptr r 0 0) fun v1 =>
    lenN v1 fun n1 =>
    s87l1_E (s87l1 Ψ) (.lptr [m_Up, m_Val]) n (.ptr r 0 0) n1 0 h_2)

def s87_A (Ψ : AVal → Heap → Prop) : Ann :=
  .seq (.reg [⟨none, [(0, true), (1, false), (2, false)]⟩])
  (.seq (rA 4)
  (.seq (rA 4)
  (.seq (.seq (rA 3)
  (.block (.loop [(1, .any), (4, .int .i64), (5, .any), (18, .int .i64), (19, .int .i64)] (fun n l h => s87l1_R (s87l1 Ψ n) l h) (fun L1 =>
  .seq (rA 1)
  (.seq (.cond (.leaf)
  (.leaf))
  (.seq (.block (.seq (rA 2)
  (.seq (rA 3)
  (.seq (rA 5)
  (.seq (rA 4)
  (.seq (rA 3)
  (.block (.loop [(1, .any), (4, .int .i64), (5, .any), (7, .any), (8, .any), (18, .int .i64), (19, .int .i64)] (fun n l h => s87l2_R (s87l2 Ψ (fun y0 y1 y2 y3 y4 h => L1 [y0, (.int .i64 y1), y2, (.int .i64 y3), (.int .i64 y4)] h) n) l h) (fun L2 =>
  .seq (.seq (rA 3)
  (.cond (.leaf)
  (.leaf)))
  (.block (.seq (rA 7)
  (.seq (rA 6)
  (.seq (rA 7)
  (.block (.loop [(1, .any), (4, .int .i64), (5, .any), (7, .any), (8, .any), (18, .int .i64), (19, .int .i64), (51, .any), (52, .int .i64), (53, .int .i64)] (fun n l h => s87l3_R (s87l3 Ψ (fun y0 y1 y2 y3 y4 h => L1 [y0, (.int .i64 y1), y2, (.int .i64 y3), (.int .i64 y4)] h) (fun y0 y1 y2 y3 y4 y5 y6 h => L2 [y0, (.int .i64 y1), y2, y3, y4, (.int .i64 y5), (.int .i64 y6)] h) n) l h) (fun L3 =>
  .seq (rA 1)
  (.seq (.cond (.leaf)
  (.leaf))
  (.cut [(1, .any), (4, .int .i64), (5, .any), (7, .any), (8, .any), (18, .int .i64), (19, .int .i64), (51, .any), (52, .int .i64), (53, .int .i64)] (fun l h => J.cons l fun x0 l => J.cons l fun v l => J.int .i64 v fun x1 => J.cons l fun x2 l => J.cons l fun x3 l => J.cons l fun x4 l => J.cons l fun v l => J.int .i64 v fun x5 => J.cons l fun v l => J.int .i64 v fun x6 => J.cons l fun x7 l => J.cons l fun v l => J.int .i64 v fun x8 => J.cons l fun v l => J.int .i64 v fun x9 => J.nil l (s87c4 Ψ (fun y0 y1 y2 y3 y4 h => L1 [y0, (.int .i64 y1), y2, (.int .i64 y3), (.int .i64 y4)] h) (fun y0 y1 y2 y3 y4 y5 y6 h => L2 [y0, (.int .i64 y1), y2, y3, y4, (.int .i64 y5), (.int .i64 y6)] h) (fun y0 y1 y2 y3 y4 y5 y6 y7 y8 y9 h => L3 [y0, (.int .i64 y1), y2, y3, y4, (.int .i64 y5), (.int .i64 y6), y7, (.int .i64 y8), (.int .i64 y9)] h) x0 x1 x2 x3 x4 x5 x6 x7 x8 x9 h)) (.block (.seq (rA 3)
  (.seq (.cut [(1, .any), (4, .int .i64), (5, .any), (7, .any), (8, .any), (11, .int .i64), (18, .int .i64), (19, .int .i64), (51, .any), (52, .int .i64), (53, .int .i64), (63, .bool)] (fun l h => J.cons l fun x0 l => J.cons l fun v l => J.int .i64 v fun x1 => J.cons l fun x2 l => J.cons l fun x3 l => J.cons l fun x4 l => J.cons l fun v l => J.int .i64 v fun x5 => J.cons l fun v l => J.int .i64 v fun x6 => J.cons l fun v l => J.int .i64 v fun x7 => J.cons l fun x8 l => J.cons l fun v l => J.int .i64 v fun x9 => J.cons l fun v l => J.int .i64 v fun x10 => J.cons l fun v l => J.bool v fun x11 => J.nil l (s87c5 Ψ (fun y0 y1 y2 y3 y4 h => L1 [y0, (.int .i64 y1), y2, (.int .i64 y3), (.int .i64 y4)] h) (fun y0 y1 y2 y3 y4 y5 y6 h => L2 [y0, (.int .i64 y1), y2, y3, y4, (.int .i64 y5), (.int .i64 y6)] h) (fun y0 y1 y2 y3 y4 y5 y6 y7 y8 y9 h => L3 [y0, (.int .i64 y1), y2, y3, y4, (.int .i64 y5), (.int .i64 y6), y7, (.int .i64 y8), (.int .i64 y9)] h) x0 x1 x2 x3 x4 x5 x6 x7 x8 x9 x10 x11 h)) (.reg [⟨none, [(0, false), (1, false), (2, false)]⟩, ⟨some (59, false), [(3, false), (4, false), (5, false)]⟩, ⟨none, [(6, false)]⟩])
  (.cond (.seq (rA 2)
  (.leaf))
  (.leaf)))
  (.seq (rA 5)
  (.cond (.seq (rA 4)
  (.reg [⟨none, [(0, false), (1, false), (2, true), (3, false), (4, false)]⟩]))
  (.leaf))))))
  (rA 2)))))))))))))))))))
  (rA 2)))))))
  (.seq (rA 3)
  (.leaf)))))

theorem s87_ok {Ψ : AVal → Heap → Prop} {m_Up : AVal} {m_Val : AVal} {h : Heap} (H : s87 Ψ m_Up m_Val h) : ACalls prog 87 [(.agg [m_Up, m_Val])] h Ψ :=
  calls_of_evF func87 (by kernel_rfl) (by kernel_rfl) (by kernel_rfl)
    (Eq.mpr (by as_aux_lemma => kernel_rfl : oblF prog f87 (s87_A Ψ) Ψ = (True ∧ True ∧ True ∧ (True ∧ (∀ (h : Heap) (x0 : AVal) (x1 : Int) (x2 : AVal) (x3 x4 : Int), ON (s87l1 Ψ 0 x0 x1 x2 x3 x4 h)) ∧ ∀ n1 : Nat, (∀ (h : Heap) (x0 : AVal) (x1 : Int) (x2 : AVal) (x3 x4 : Int), OI (s87l1 Ψ (n1 + 1) x0 x1 x2 x3 x4 h)) ∧ (True ∧ (True ∧ True) ∧ (True ∧ True ∧ True ∧ True ∧ True ∧ (∀ (h : Heap) (x0 : AVal) (x1 : Int) (x2 x3 x4 : AVal) (x5 x6 : Int), ON (s87l2 Ψ (s87l1_G (s87l1 Ψ n1)) 0 x0 x1 x2 x3 x4 x5 x6 h)) ∧ ∀ n2 : Nat, (∀ (h : Heap) (x0 : AVal) (x1 : Int) (x2 x3 x4 : AVal) (x5 x6 : Int), OI (s87l2 Ψ (s87l1_G (s87l1 Ψ n1)) (n2 + 1) x0 x1 x2 x3 x4 x5 x6 h)) ∧ ((True ∧ True ∧ True) ∧ True ∧ True ∧ True ∧ (∀ (h : Heap) (x0 : AVal) (x1 : Int) (x2 x3 x4 : AVal) (x5 x6 : Int) (x7 : AVal) (x8 x9 : Int), ON (s87l3 Ψ (s87l1_G (s87l1 Ψ n1)) (s87l2_G (s87l2 Ψ (s87l1_G (s87l1 Ψ n1)) n2)) 0 x0 x1 x2 x3 x4 x5 x6 x7 x8 x9 h)) ∧ ∀ n3 : Nat, (∀ (h : Heap) (x0 : AVal) (x1 : Int) (x2 x3 x4 : AVal) (x5 x6 : Int) (x7 : AVal) (x8 x9 : Int), OI (s87l3 Ψ (s87l1_G (s87l1 Ψ n1)) (s87l2_G (s87l2 Ψ (s87l1_G (s87l1 Ψ n1)) n2)) (n3 + 1) x0 x1 x2 x3 x4 x5 x6 x7 x8 x9 h)) ∧ (True ∧ (True ∧ True) ∧ (True ∧ ((True) ∧ (∀ (h : Heap) (x0 : AVal) (x1 : Int) (x2 x3 x4 : AVal) (x5 x6 x7 : Int) (x8 : AVal) (x9 x10 : Int) (x11 : Bool), OI (s87c5 Ψ (s87l1_G (s87l1 Ψ n1)) (s87l2_G (s87l2 Ψ (s87l1_G (s87l1 Ψ n1)) n2)) (s87l3_G (s87l3 Ψ (s87l1_G (s87l1 Ψ n1)) (s87l2_G (s87l2 Ψ (s87l1_G (s87l1 Ψ n1)) n2)) n3)) x0 x1 x2 x3 x4 x5 x6 x7 x8 x9 x10 x11 h)) ∧ ((True ∧ True) ∧ True)) ∧ True ∧ (True ∧ True) ∧ True) ∧ (∀ (h : Heap) (x0 : AVal) (x1 : Int) (x2 x3 x4 : AVal) (x5 x6 : Int) (x7 : AVal) (x8 x9 : Int), OI (s87c4 Ψ (s87l1_G (s87l1 Ψ n1)) (s87l2_G (s87l2 Ψ (s87l1_G (s87l1 Ψ n1)) n2)) (s87l3_G (s87l3 Ψ (s87l1_G (s87l1 Ψ n1)) (s87l2_G (s87l2 Ψ (s87l1_G (s87l1 Ψ n1)) n2)) n3)) x0 x1 x2 x3 x4 x5 x6 x7 x8 x9 h)) ∧ (True)))) ∧ True)) ∧ True ∧ True)) ⟨trivial, ⟨trivial, ⟨trivial, ⟨⟨trivial, ⟨fun _ _ _ _ _ _ H => H, fun _ => ⟨fun _ _ _ _ _ _ H => H, ⟨trivial, ⟨⟨trivial, trivial⟩, ⟨⟨trivial, ⟨trivial, ⟨trivial, ⟨trivial, ⟨trivial, ⟨fun _ _ _ _ _ _ _ _ H => H, fun _ => ⟨fun _ _ _ _ _ _ _ _ H => H, ⟨⟨trivial, ⟨trivial, trivial⟩⟩, ⟨trivial, ⟨trivial, ⟨trivial, ⟨fun _ _ _ _ _ _ _ _ _ _ _ H => H, fun _ => ⟨fun _ _ _ _ _ _ _ _ _ _ _ H => H, ⟨trivial, ⟨⟨trivial, trivial⟩, ⟨⟨trivial, ⟨⟨trivial, fun _ _ _ _ _ _ _ _ _ _ _ _ _ H => H, ⟨⟨trivial, trivial⟩, trivial⟩⟩, ⟨trivial, ⟨⟨trivial, trivial⟩, trivial⟩⟩⟩⟩, fun _ _ _ _ _ _ _ _ _ _ _ H => H, trivial⟩⟩⟩⟩⟩⟩⟩⟩⟩⟩⟩⟩⟩⟩⟩⟩, trivial⟩⟩⟩⟩⟩⟩, ⟨trivial, trivial⟩⟩⟩⟩⟩)
    (Eq.mpr (by as_aux_lemma => kernel_rfl : evF prog f87 (s87_A Ψ) Ψ [(.agg [m_Up, m_Val])] h = s87 Ψ m_Up m_Val h) H)

/- 89 dictum/worlds.looked$1 -/
def s89 (Ψ : AVal → Heap → Prop) (s : ByteArray) (c0 : AVal) (c1 : AVal) (h : Heap) : Prop :=
  addOff c0 1 fun p =>
  ld1 h p fun v =>
  ld1 h c1 fun v1 =>
  tInt .i64 v1 fun v2 =>
  ixS 1 v v2 fun p1 =>
  ld1 h p1 fun v3 =>
  callG prog 46 [v3, (.str s)] h fun v4 h_ =>
  tBool v4 fun v5 =>
  retG (.bool (!v5)) h_ Ψ

def s89_A (Ψ : AVal → Heap → Prop) : Ann :=
  .seq (rA 1)
  (.seq (rA 9)
  (.leaf))

theorem s89_ok {Ψ : AVal → Heap → Prop} {s : ByteArray} {c0 : AVal} {c1 : AVal} {h : Heap} (H : s89 Ψ s c0 c1 h) : ACalls prog 89 [(.str s), c0, c1] h Ψ :=
  calls_of_evF func89 (by kernel_rfl) (by kernel_rfl) (by kernel_rfl)
    (Eq.mpr (by as_aux_lemma => kernel_rfl : oblF prog f89 (s89_A Ψ) Ψ = (True ∧ True ∧ True)) ⟨trivial, ⟨trivial, trivial⟩⟩)
    (Eq.mpr (by as_aux_lemma => kernel_rfl : evF prog f89 (s89_A Ψ) Ψ [(.str s), c0, c1] h = s89 Ψ s c0 c1 h) H)

end Go.Proofs.Ytinficcdpggiaaa

/- The functions that the proof meets, each as a text that Lean has checked against the program. No condition. -/
import Derived.Test.YtinficcdpggiaaaM3
import Derived.Test.YtinficcdpggiaaaChecked
namespace Go.Proofs.Ytinficcdpggiaaa
open Go Go.Sym Go.Proofs.Try
set_option maxRecDepth 100000
set_option linter.unusedVariables false

/- 8 dictum/dictumref17.Copy -/
abbrev s8l1_T := AVal → AVal → AVal → Int → Heap → Prop
def s8l1_R (F : s8l1_T) (l : List AVal) (h : Heap) : Prop := J.cons l fun x0 l => J.cons l fun x1 l => J.cons l fun x2 l => J.cons l fun v l => J.int .i64 v fun x3 => J.nil l (F x0 x1 x2 x3 h)
def s8l1_G (F : s8l1_T) (x0 x1 x2 : AVal) (x3 : Int) (h : Heap) : Prop := gJ [.any, .any, .any, .int .i64] [x0, x1, x2, (.int .i64 x3)] h (s8l1_R F)
def s8l1_E (F : Nat → s8l1_T) (x0 x1 x2 : AVal) (x3 : Int) (h : Heap) : Prop := gJ [.any, .any, .any, .int .i64] [x0, x1, x2, (.int .i64 x3)] h (fun l h => ∃ n, s8l1_R (F n) l h)
theorem s8l1_go {F : s8l1_T} {x0 x1 x2 : AVal} {x3 : Int} {h : Heap} (H : F x0 x1 x2 x3 h) : s8l1_G F x0 x1 x2 x3 h := gJ_plain rfl H
theorem s8l1_in {F : Nat → s8l1_T} {x0 x1 x2 : AVal} {x3 : Int} {h : Heap} (n : Nat) (H : F n x0 x1 x2 x3 h) : s8l1_E F x0 x1 x2 x3 h := gJ_plain rfl ⟨n, H⟩

abbrev s8l2_T := AVal → AVal → AVal → Int → Heap → Prop
def s8l2_R (F : s8l2_T) (l : List AVal) (h : Heap) : Prop := J.cons l fun x0 l => J.cons l fun x1 l => J.cons l fun x2 l => J.cons l fun v l => J.int .i64 v fun x3 => J.nil l (F x0 x1 x2 x3 h)
def s8l2_G (F : s8l2_T) (x0 x1 x2 : AVal) (x3 : Int) (h : Heap) : Prop := gJ [.any, .any, .any, .int .i64] [x0, x1, x2, (.int .i64 x3)] h (s8l2_R F)
def s8l2_E (F : Nat → s8l2_T) (x0 x1 x2 : AVal) (x3 : Int) (h : Heap) : Prop := gJ [.any, .any, .any, .int .i64] [x0, x1, x2, (.int .i64 x3)] h (fun l h => ∃ n, s8l2_R (F n) l h)
theorem s8l2_go {F : s8l2_T} {x0 x1 x2 : AVal} {x3 : Int} {h : Heap} (H : F x0 x1 x2 x3 h) : s8l2_G F x0 x1 x2 x3 h := gJ_plain rfl H
theorem s8l2_in {F : Nat → s8l2_T} {x0 x1 x2 : AVal} {x3 : Int} {h : Heap} (n : Nat) (H : F n x0 x1 x2 x3 h) : s8l2_E F x0 x1 x2 x3 h := gJ_plain rfl ⟨n, H⟩

def s8l2 (Ψ : AVal → Heap → Prop) : Nat → s8l2_T
  | 0, _, _, _, _, _ => False
  | n2 + 1, m1, t2_1, out1, i1, h =>
    addOff m1 1 fun p5 =>
    ld1 h p5 fun v11 =>
    lenN v11 fun n3 =>
    ifT (decide (i1 < n3)) (
      addOff out1 1 fun p6 =>
      ld1 h p6 fun v12 =>
      addOff m1 1 fun p7 =>
      ld1 h p7 fun v13 =>
      ixS 1 v13 i1 fun p8 =>
      ld1 h p8 fun v14 =>
      Sym.newRow 1 [] h fun r3 h_7 =>
      (ld1 h_7 p8 fun v15 =>
      v15 = v14) ∧
      (ld1 h_7 p7 fun v16 =>
      v16 = v13) ∧
      (ld1 h_7 p6 fun v17 =>
      v17 = v12) ∧
      appC 1 16 h_7 (.sl r3 1 0 0) v14 fun v18 h_8 =>
      (ld1 h_8 p6 fun v19 =>
      v19 = v12) ∧
      chk (sc v18) (
        (ld1 h_8 p6 fun v20 =>
        v20 = v12) ∧
        appC 1 24 h_8 v12 (.lsl 1 [v18]) fun v21 h_9 =>
        addOff out1 1 fun p9 =>
        chk (sc v21) (
          st true h_9 p9 [v21] fun h_10 =>
          rg (i1 + 1) (
            s8l2_G (s8l2 Ψ n2) m1 t2_1 out1 (i1 + 1) h_10)))) (
      ldN 2 h out1 fun l_ =>
      tCons l_ fun v22 l_1 =>
      tCons l_1 fun v23 l_2 =>
      tNil l_2 (
        st false h t2_1 [v22, v23] fun h_11 =>
        ldN 2 h_11 t2_1 fun l_3 =>
        tCons l_3 fun v24 l_4 =>
        tCons l_4 fun v25 l_5 =>
        tNil l_5 (
          retG (.agg [v24, v25]) h_11 Ψ)))

def s8l1 (Ψ : AVal → Heap → Prop) : Nat → s8l1_T
  | 0, _, _, _, _, _ => False
  | n + 1, m, t2, out, i, h =>
    addOff m 0 fun p =>
    ld1 h p fun v =>
    lenN v fun n1 =>
    ifT (decide (i < n1)) (
      addOff out 0 fun p1 =>
      ld1 h p1 fun v1 =>
      addOff m 0 fun p2 =>
      ld1 h p2 fun v2 =>
      ixS 1 v2 i fun p3 =>
      ld1 h p3 fun v3 =>
      Sym.newRow 1 [] h fun r2 h_3 =>
      (ld1 h_3 p3 fun v4 =>
      v4 = v3) ∧
      (ld1 h_3 p2 fun v5 =>
      v5 = v2) ∧
      (ld1 h_3 p1 fun v6 =>
      v6 = v1) ∧
      appC 1 8 h_3 (.sl r2 1 0 0) v3 fun v7 h_4 =>
      (ld1 h_4 p1 fun v8 =>
      v8 = v1) ∧
      chk (sc v7) (
        (ld1 h_4 p1 fun v9 =>
        v9 = v1) ∧
        appC 1 24 h_4 v1 (.lsl 1 [v7]) fun v10 h_5 =>
        addOff out 0 fun p4 =>
        chk (sc v10) (
          st true h_5 p4 [v10] fun h_6 =>
          rg (i + 1) (
            s8l1_G (s8l1 Ψ n) m t2 out (i + 1) h_6)))) (
      s8l2_E (s8l2 Ψ) m t2 out 0 h)

def s8 (Ψ : AVal → Heap → Prop) (m_Up : AVal) (m_Val : AVal) (h : Heap) : Prop :=
  Sym.newRow 2 [(.agg [.nilsl, .nilsl])] h fun r h_ =>
  Sym.newRow 2 [(.agg [.nilsl, .nilsl])] h_ fun r1 h_1 =>
  st false h_1 (.ptr r1 0 0) [.nilsl, .nilsl] fun h_2 =>
  s8l1_E (s8l1 Ψ) (.lptr [m_Up, m_Val]) (.ptr r 0 0) (.ptr r1 0 0) 0 h_2

def s8_A (Ψ : AVal → Heap → Prop) : Ann :=
  .seq (.reg [⟨none, [(0, true), (1, false)]⟩])
  (.seq (rA 3)
  (.seq (.seq (rA 1)
  (.block (.loop [(1, .any), (2, .any), (3, .any), (4, .int .i64)] (fun n l h => s8l1_R (s8l1 Ψ n) l h) (fun L1 =>
  .seq (.seq (rA 5)
  (.cond (.leaf)
  (.leaf)))
  (.seq (.block (.draw [(0, false), (1, false), (3, false), (4, false), (5, false), (6, false), (7, false), (2, false), (8, false), (9, true), (10, false), (11, false), (12, false)] [0, 1, 0, 0, 8, 0, 56, 120, 252, 508, 1023, 2047, 4095]))
  (rA 3))))))
  (.seq (.seq (rA 1)
  (.block (.loop [(1, .any), (2, .any), (3, .any), (5, .int .i64)] (fun n l h => s8l2_R (s8l2 Ψ n) l h) (fun L2 =>
  .seq (.seq (rA 5)
  (.cond (.leaf)
  (.leaf)))
  (.seq (.block (.draw [(0, false), (1, false), (3, false), (4, false), (5, false), (6, false), (7, false), (2, false), (8, false), (9, true), (10, false), (11, false), (12, false)] [0, 1, 0, 0, 8, 0, 56, 120, 252, 508, 1023, 2047, 4095]))
  (rA 3))))))
  (.seq (rA 2)
  (.leaf)))))

theorem s8_ok {Ψ : AVal → Heap → Prop} {m_Up : AVal} {m_Val : AVal} {h : Heap} (H : s8 Ψ m_Up m_Val h) : ACalls prog 8 [(.agg [m_Up, m_Val])] h Ψ :=
  calls_of_evF func8 (by kernel_rfl) (by kernel_rfl) (by kernel_rfl)
    (Eq.mpr (by as_aux_lemma => kernel_rfl : oblF prog f8 (s8_A Ψ) Ψ = (True ∧ True ∧ (True ∧ (∀ (h : Heap) (x0 x1 x2 : AVal) (x3 : Int), ON (s8l1 Ψ 0 x0 x1 x2 x3 h)) ∧ ∀ n1 : Nat, (∀ (h : Heap) (x0 x1 x2 : AVal) (x3 : Int), OI (s8l1 Ψ (n1 + 1) x0 x1 x2 x3 h)) ∧ ((True ∧ True ∧ True) ∧ True ∧ True)) ∧ (True ∧ (∀ (h : Heap) (x0 x1 x2 : AVal) (x3 : Int), ON (s8l2 Ψ 0 x0 x1 x2 x3 h)) ∧ ∀ n2 : Nat, (∀ (h : Heap) (x0 x1 x2 : AVal) (x3 : Int), OI (s8l2 Ψ (n2 + 1) x0 x1 x2 x3 h)) ∧ ((True ∧ True ∧ True) ∧ True ∧ True)) ∧ True ∧ True)) ⟨trivial, ⟨trivial, ⟨⟨trivial, ⟨fun _ _ _ _ _ H => H, fun _ => ⟨fun _ _ _ _ _ H => H, ⟨⟨trivial, ⟨trivial, trivial⟩⟩, ⟨trivial, trivial⟩⟩⟩⟩⟩, ⟨⟨trivial, ⟨fun _ _ _ _ _ H => H, fun _ => ⟨fun _ _ _ _ _ H => H, ⟨⟨trivial, ⟨trivial, trivial⟩⟩, ⟨trivial, trivial⟩⟩⟩⟩⟩, ⟨trivial, trivial⟩⟩⟩⟩⟩)
    (Eq.mpr (by as_aux_lemma => kernel_rfl : evF prog f8 (s8_A Ψ) Ψ [(.agg [m_Up, m_Val])] h = s8 Ψ m_Up m_Val h) H)

/- 10 dictum/dictumref19.Above -/
def s10c1 (Ψ : AVal → Heap → Prop) (w1 : Int) (m t4 o : AVal) (t26 : Bool) (h : Heap) : Prop :=
  ifT t26 (
    st false h t4 [.nilsl, .nilsl] fun h_3 =>
    ldN 2 h_3 t4 fun l_6 =>
    tCons l_6 fun v6 l_7 =>
    tCons l_7 fun v7 l_8 =>
    tNil l_8 (
      retG (.tuple [(.agg [v6, v7]), .nilsl, (.int .i64 2)]) h_3 Ψ)) (
    ldN 2 h m fun l_9 =>
    tCons l_9 fun v8 l_10 =>
    tCons l_10 fun v9 l_11 =>
    tNil l_11 (
      callG prog 32 [(.agg [v8, v9]), (.int .i64 w1)] h fun v10 h_4 =>
      tTup v10 fun l_12 =>
      tCons l_12 fun v11 l_13 =>
      tCons l_13 fun v12 l_14 =>
      tInt .i64 v12 fun v13 =>
      tNil l_14 (
        ldN 2 h_4 m fun l_15 =>
        tCons l_15 fun v14 l_16 =>
        tCons l_16 fun v15 l_17 =>
        tNil l_17 (
          callG prog 33 [(.agg [v14, v15]), o, v11] h_4 fun v16 h_5 =>
          tAgg v16 fun l_18 =>
          tCons l_18 fun v17 l_19 =>
          tCons l_19 fun v18 l_20 =>
          tNil l_20 (
            st false h_5 t4 [v17, v18] fun h_6 =>
            ldN 2 h_6 t4 fun l_21 =>
            tCons l_21 fun v19 l_22 =>
            tCons l_22 fun v20 l_23 =>
            tNil l_23 (
              retG (.tuple [(.agg [v19, v20]), v11, (.int .i64 0)]) h_6 Ψ))))))

def s10 (Ψ : AVal → Heap → Prop) (m_Up : AVal) (m_Val : AVal) (w : Int) (h : Heap) : Prop :=
  Sym.newRow 2 [(.agg [.nilsl, .nilsl])] h fun r h_ =>
  callG prog 31 [(.agg [m_Up, m_Val])] h_ fun v h_1 =>
  tTup v fun l_ =>
  tCons l_ fun v1 l_1 =>
  tCons l_1 fun v2 l_2 =>
  tBool v2 fun v3 =>
  tNil l_2 (
    ifT (!v3) (
      st false h_1 (.ptr r 0 0) [.nilsl, .nilsl] fun h_2 =>
      ldN 2 h_2 (.ptr r 0 0) fun l_3 =>
      tCons l_3 fun v4 l_4 =>
      tCons l_4 fun v5 l_5 =>
      tNil l_5 (
        retG (.tuple [(.agg [v4, v5]), .nilsl, (.int .i64 170)]) h_2 Ψ)) (
      ifT (decide (w < 0)) (
        s10c1 Ψ w (.lptr [m_Up, m_Val]) (.ptr r 0 0) v1 true h_1) (
        lenN v1 fun n =>
        s10c1 Ψ w (.lptr [m_Up, m_Val]) (.ptr r 0 0) v1 (decide (n ≤ w)) h_1)))

def s10_A (Ψ : AVal → Heap → Prop) : Ann :=
  .seq (.reg [⟨none, [(0, true), (1, false), (2, false), (3, false)]⟩])
  (.seq (rA 7)
  (.seq (.seq (rA 2)
  (.cond (.seq (rA 4)
  (.leaf))
  (.leaf)))
  (.seq (.cut [(1, .int .i64), (2, .any), (4, .any), (7, .any), (26, .bool)] (fun l h => J.cons l fun v l => J.int .i64 v fun x0 => J.cons l fun x1 l => J.cons l fun x2 l => J.cons l fun x3 l => J.cons l fun v l => J.bool v fun x4 => J.nil l (s10c1 Ψ x0 x1 x2 x3 x4 h)) (.reg [⟨none, [(0, false), (1, false), (2, false)]⟩, ⟨some (21, false), [(3, false), (4, false), (5, false), (6, false)]⟩, ⟨none, [(7, false)]⟩])
  (.cond (.seq (rA 4)
  (.leaf))
  (.leaf)))
  (.seq (rA 8)
  (.seq (rA 8)
  (.leaf))))))

theorem s10_ok {Ψ : AVal → Heap → Prop} {m_Up : AVal} {m_Val : AVal} {w : Int} {h : Heap} (H : s10 Ψ m_Up m_Val w h) : ACalls prog 10 [(.agg [m_Up, m_Val]), (.int .i64 w)] h Ψ :=
  calls_of_evF func10 (by kernel_rfl) (by kernel_rfl) (by kernel_rfl)
    (Eq.mpr (by as_aux_lemma => kernel_rfl : oblF prog f10 (s10_A Ψ) Ψ = (True ∧ True ∧ (True ∧ (True ∧ True) ∧ True) ∧ ((True) ∧ (∀ (h : Heap) (x0 : Int) (x1 x2 x3 : AVal) (x4 : Bool), OI (s10c1 Ψ x0 x1 x2 x3 x4 h)) ∧ ((True ∧ True) ∧ True)) ∧ True ∧ True ∧ True)) ⟨trivial, ⟨trivial, ⟨⟨trivial, ⟨⟨trivial, trivial⟩, trivial⟩⟩, ⟨⟨trivial, fun _ _ _ _ _ _ H => H, ⟨⟨trivial, trivial⟩, trivial⟩⟩, ⟨trivial, ⟨trivial, trivial⟩⟩⟩⟩⟩⟩)
    (Eq.mpr (by as_aux_lemma => kernel_rfl : evF prog f10 (s10_A Ψ) Ψ [(.agg [m_Up, m_Val]), (.int .i64 w)] h = s10 Ψ m_Up m_Val w h) H)

/- 12 dictum/morph.Quotient -/
abbrev s12l1_T := AVal → AVal → AVal → AVal → AVal → AVal → Int → Int → Heap → Prop
def s12l1_R (F : s12l1_T) (l : List AVal) (h : Heap) : Prop := J.cons l fun x0 l => J.cons l fun x1 l => J.cons l fun x2 l => J.cons l fun x3 l => J.cons l fun x4 l => J.cons l fun x5 l => J.cons l fun v l => J.int .i64 v fun x6 => J.cons l fun v l => J.int .i64 v fun x7 => J.nil l (F x0 x1 x2 x3 x4 x5 x6 x7 h)
def s12l1_G (F : s12l1_T) (x0 x1 x2 x3 x4 x5 : AVal) (x6 x7 : Int) (h : Heap) : Prop := gJ [.any, .any, .any, .any, .any, .any, .int .i64, .int .i64] [x0, x1, x2, x3, x4, x5, (.int .i64 x6), (.int .i64 x7)] h (s12l1_R F)
def s12l1_E (F : Nat → s12l1_T) (x0 x1 x2 x3 x4 x5 : AVal) (x6 x7 : Int) (h : Heap) : Prop := gJ [.any, .any, .any, .any, .any, .any, .int .i64, .int .i64] [x0, x1, x2, x3, x4, x5, (.int .i64 x6), (.int .i64 x7)] h (fun l h => ∃ n, s12l1_R (F n) l h)
theorem s12l1_go {F : s12l1_T} {x0 x1 x2 x3 x4 x5 : AVal} {x6 x7 : Int} {h : Heap} (H : F x0 x1 x2 x3 x4 x5 x6 x7 h) : s12l1_G F x0 x1 x2 x3 x4 x5 x6 x7 h := gJ_plain rfl H
theorem s12l1_in {F : Nat → s12l1_T} {x0 x1 x2 x3 x4 x5 : AVal} {x6 x7 : Int} {h : Heap} (n : Nat) (H : F n x0 x1 x2 x3 x4 x5 x6 x7 h) : s12l1_E F x0 x1 x2 x3 x4 x5 x6 x7 h := gJ_plain rfl ⟨n, H⟩

def s12c2 (Ψ : AVal → Heap → Prop) (L1 : s12l1_T) (m1 t2_1 o1 class_1 out1 t27_1 : AVal) (t28_1 t29_1 : Int) (h : Heap) : Prop :=
  rg (t29_1 + 1) (
    L1 m1 t2_1 o1 class_1 out1 t27_1 t28_1 (t29_1 + 1) h)

abbrev s12l3_T := AVal → AVal → AVal → AVal → AVal → Int → Int → Heap → Prop
def s12l3_R (F : s12l3_T) (l : List AVal) (h : Heap) : Prop := J.cons l fun x0 l => J.cons l fun x1 l => J.cons l fun x2 l => J.cons l fun x3 l => J.cons l fun x4 l => J.cons l fun v l => J.int .i64 v fun x5 => J.cons l fun v l => J.int .i64 v fun x6 => J.nil l (F x0 x1 x2 x3 x4 x5 x6 h)
def s12l3_G (F : s12l3_T) (x0 x1 x2 x3 x4 : AVal) (x5 x6 : Int) (h : Heap) : Prop := gJ [.any, .any, .any, .any, .any, .int .i64, .int .i64] [x0, x1, x2, x3, x4, (.int .i64 x5), (.int .i64 x6)] h (s12l3_R F)
def s12l3_E (F : Nat → s12l3_T) (x0 x1 x2 x3 x4 : AVal) (x5 x6 : Int) (h : Heap) : Prop := gJ [.any, .any, .any, .any, .any, .int .i64, .int .i64] [x0, x1, x2, x3, x4, (.int .i64 x5), (.int .i64 x6)] h (fun l h => ∃ n, s12l3_R (F n) l h)
theorem s12l3_go {F : s12l3_T} {x0 x1 x2 x3 x4 : AVal} {x5 x6 : Int} {h : Heap} (H : F x0 x1 x2 x3 x4 x5 x6 h) : s12l3_G F x0 x1 x2 x3 x4 x5 x6 h := gJ_plain rfl H
theorem s12l3_in {F : Nat → s12l3_T} {x0 x1 x2 x3 x4 : AVal} {x5 x6 : Int} {h : Heap} (n : Nat) (H : F n x0 x1 x2 x3 x4 x5 x6 h) : s12l3_E F x0 x1 x2 x3 x4 x5 x6 h := gJ_plain rfl ⟨n, H⟩

abbrev s12l4_T := AVal → AVal → AVal → AVal → Int → AVal → Int → Int → AVal → Int → Int → Heap → Prop
def s12l4_R (F : s12l4_T) (l : List AVal) (h : Heap) : Prop := J.cons l fun x0 l => J.cons l fun x1 l => J.cons l fun x2 l => J.cons l fun x3 l => J.cons l fun v l => J.int .i64 v fun x4 => J.cons l fun x5 l => J.cons l fun v l => J.int .i64 v fun x6 => J.cons l fun v l => J.int .i64 v fun x7 => J.cons l fun x8 l => J.cons l fun v l => J.int .i64 v fun x9 => J.cons l fun v l => J.int .i64 v fun x10 => J.nil l (F x0 x1 x2 x3 x4 x5 x6 x7 x8 x9 x10 h)
def s12l4_G (F : s12l4_T) (x0 x1 x2 x3 : AVal) (x4 : Int) (x5 : AVal) (x6 x7 : Int) (x8 : AVal) (x9 x10 : Int) (h : Heap) : Prop := gJ [.any, .any, .any, .any, .int .i64, .any, .int .i64, .int .i64, .any, .int .i64, .int .i64] [x0, x1, x2, x3, (.int .i64 x4), x5, (.int .i64 x6), (.int .i64 x7), x8, (.int .i64 x9), (.int .i64 x10)] h (s12l4_R F)
def s12l4_E (F : Nat → s12l4_T) (x0 x1 x2 x3 : AVal) (x4 : Int) (x5 : AVal) (x6 x7 : Int) (x8 : AVal) (x9 x10 : Int) (h : Heap) : Prop := gJ [.any, .any, .any, .any, .int .i64, .any, .int .i64, .int .i64, .any, .int .i64, .int .i64] [x0, x1, x2, x3, (.int .i64 x4), x5, (.int .i64 x6), (.int .i64 x7), x8, (.int .i64 x9), (.int .i64 x10)] h (fun l h => ∃ n, s12l4_R (F n) l h)
theorem s12l4_go {F : s12l4_T} {x0 x1 x2 x3 : AVal} {x4 : Int} {x5 : AVal} {x6 x7 : Int} {x8 : AVal} {x9 x10 : Int} {h : Heap} (H : F x0 x1 x2 x3 x4 x5 x6 x7 x8 x9 x10 h) : s12l4_G F x0 x1 x2 x3 x4 x5 x6 x7 x8 x9 x10 h := gJ_plain rfl H
theorem s12l4_in {F : Nat → s12l4_T} {x0 x1 x2 x3 : AVal} {x4 : Int} {x5 : AVal} {x6 x7 : Int} {x8 : AVal} {x9 x10 : Int} {h : Heap} (n : Nat) (H : F n x0 x1 x2 x3 x4 x5 x6 x7 x8 x9 x10 h) : s12l4_E F x0 x1 x2 x3 x4 x5 x6 x7 x8 x9 x10 h := gJ_plain rfl ⟨n, H⟩

def s12c5 (Ψ : AVal → Heap → Prop) (L3 : s12l3_T) (L4 : s12l4_T) (t2_4 o4 class_4 out4 : AVal) (c1 : Int) (t56_2 : AVal) (t57_2 t58_2 : Int) (t66_1 : AVal) (t67_1 t68_1 : Int) (h : Heap) : Prop :=
  rg (t68_1 + 1) (
    L4 t2_4 o4 class_4 out4 c1 t56_2 t57_2 t58_2 t66_1 t67_1 (t68_1 + 1) h)

def s12l4 (Ψ : AVal → Heap → Prop) (L3 : s12l3_T) : Nat → s12l4_T
  | 0, _, _, _, _, _, _, _, _, _, _, _, _ => False
  | n6 + 1, t2_3, o3, class_3, out3, c, t56_1, t57_1, t58_1, t66, t67, t68, h =>
    ifT (decide (t68 < t67)) (
      ixS 1 t66 t68 fun p10 =>
      ld1 h p10 fun v22 =>
      tInt .i64 v22 fun v23 =>
      ixS 1 class_3 v23 fun p11 =>
      ld1 h p11 fun v24 =>
      tInt .i64 v24 fun v25 =>
      ifT (v25 != c) (
        addOff out3 0 fun p12 =>
        ld1 h p12 fun v26 =>
        addOff out3 0 fun p13 =>
        ld1 h p13 fun v27 =>
        ixS 1 v27 c fun p14 =>
        ld1 h p14 fun v28 =>
        ixS 1 class_3 v23 fun p15 =>
        ld1 h p15 fun v29 =>
        tInt .i64 v29 fun v30 =>
        (ld1 h p14 fun v31 =>
        v31 = v28) ∧
        (ld1 h p13 fun v32 =>
        v32 = v27) ∧
        (ld1 h p12 fun v33 =>
        v33 = v26) ∧
        appC 1 8 h v28 (.lsl 1 [(.int .i64 v30)]) fun v34 h_10 =>
        (ld1 h_10 p12 fun v35 =>
        v35 = v26) ∧
        ixS 1 v26 c fun p16 =>
        chk (sc v34) (
          st true h_10 p16 [v34] fun h_11 =>
          s12c5 Ψ L3 (s12l4_G (s12l4 Ψ L3 n6)) t2_3 o3 class_3 out3 c t56_1 t57_1 t58_1 t66 t67 t68 h_11)) (
        s12c5 Ψ L3 (s12l4_G (s12l4 Ψ L3 n6)) t2_3 o3 class_3 out3 c t56_1 t57_1 t58_1 t66 t67 t68 h)) (
      rg (t58_1 + 1) (
        L3 t2_3 o3 class_3 out3 t56_1 t57_1 (t58_1 + 1) h))

def s12l3 (Ψ : AVal → Heap → Prop) : Nat → s12l3_T
  | 0, _, _, _, _, _, _, _, _ => False
  | n4 + 1, t2_2, o2, class_2, out2, t56, t57, t58, h =>
    ifT (decide (t58 < t57)) (
      ixS 1 t56 t58 fun p8 =>
      ld1 h p8 fun v19 =>
      tInt .i64 v19 fun v20 =>
      ixS 1 o2 t58 fun p9 =>
      ld1 h p9 fun v21 =>
      lenN v21 fun n5 =>
      s12l4_E (s12l4 Ψ (s12l3_G (s12l3 Ψ n4))) t2_2 o2 class_2 out2 v20 t56 t57 t58 v21 n5 0 h) (
      ldN 2 h out2 fun l_6 =>
      tCons l_6 fun v36 l_7 =>
      tCons l_7 fun v37 l_8 =>
      tNil l_8 (
        callG prog 36 [(.agg [v36, v37])] h fun v38 h_12 =>
        tAgg v38 fun l_9 =>
        tCons l_9 fun v39 l_10 =>
        tCons l_10 fun v40 l_11 =>
        tNil l_11 (
          st false h_12 t2_2 [v39, v40] fun h_13 =>
          ldN 2 h_13 t2_2 fun l_12 =>
          tCons l_12 fun v41 l_13 =>
          tCons l_13 fun v42 l_14 =>
          tNil l_14 (
            retG (.tuple [(.agg [v41, v42]), class_2, (.int .i64 0)]) h_13 Ψ))))

def s12l1 (Ψ : AVal → Heap → Prop) : Nat → s12l1_T
  | 0, _, _, _, _, _, _, _, _, _ => False
  | n1 + 1, m, t2, o, class_, out, t27, t28, t29, h =>
    ifT (decide (t29 < t28)) (
      ixS 1 t27 t29 fun p =>
      ld1 h p fun v7 =>
      tInt .i64 v7 fun v8 =>
      addOff out 0 fun p1 =>
      ld1 h p1 fun v9 =>
      lenN v9 fun n2 =>
      ifT (v8 == n2) (
        addOff out 0 fun p2 =>
        ld1 h p2 fun v10 =>
        appC 1 24 h v10 (.lsl 1 [.nilsl]) fun v11 h_5 =>
        addOff out 0 fun p3 =>
        chk (sc v11) (
          st true h_5 p3 [v11] fun h_6 =>
          addOff out 1 fun p4 =>
          ld1 h_6 p4 fun v12 =>
          addOff m 1 fun p5 =>
          ld1 h_6 p5 fun v13 =>
          ixS 1 v13 t29 fun p6 =>
          ld1 h_6 p6 fun v14 =>
          callG prog 35 [v14] h_6 fun v15 h_7 =>
          (ld1 h_7 p4 fun v16 =>
          v16 = v12) ∧
          chk (sc v15) (
            (ld1 h_7 p4 fun v17 =>
            v17 = v12) ∧
            appC 1 24 h_7 v12 (.lsl 1 [v15]) fun v18 h_8 =>
            addOff out 1 fun p7 =>
            chk (sc v18) (
              st true h_8 p7 [v18] fun h_9 =>
              s12c2 Ψ (s12l1_G (s12l1 Ψ n1)) m t2 o class_ out t27 t28 t29 h_9)))) (
        s12c2 Ψ (s12l1_G (s12l1 Ψ n1)) m t2 o class_ out t27 t28 t29 h)) (
      lenN class_ fun n3 =>
      s12l3_E (s12l3 Ψ) t2 o class_ out class_ n3 0 h)

def s12 (Ψ : AVal → Heap → Prop) (m_Up : AVal) (m_Val : AVal) (h : Heap) : Prop :=
  Sym.newRow 2 [(.agg [.nilsl, .nilsl])] h fun r h_ =>
  callG prog 28 [(.agg [m_Up, m_Val])] h_ fun v h_1 =>
  tTup v fun l_ =>
  tCons l_ fun v1 l_1 =>
  tCons l_1 fun v2 l_2 =>
  tInt .i64 v2 fun v3 =>
  tNil l_2 (
    ifT (v3 != 0) (
      st false h_1 (.ptr r 0 0) [.nilsl, .nilsl] fun h_2 =>
      ldN 2 h_2 (.ptr r 0 0) fun l_3 =>
      tCons l_3 fun v4 l_4 =>
      tCons l_4 fun v5 l_5 =>
      tNil l_5 (
        retG (.tuple [(.agg [v4, v5]), .nilsl, (.int .i64 v3)]) h_2 Ψ)) (
      callG prog 34 [(.agg [m_Up, m_Val]), v1] h_1 fun v6 h_3 =>
      Sym.newRow 2 [(.agg [.nilsl, .nilsl])] h_3 fun r1 h_4 =>
      lenN v6 fun n =>
      s12l1_E (s12l1 Ψ) (.lptr [m_Up, m_Val]) (.ptr r 0 0) v1 v6 (.ptr r1 0 0) v6 n 0 h_4))

def s12_A (Ψ : AVal → Heap → Prop) : Ann :=
  .seq (.reg [⟨none, [(0, true), (1, false), (2, false), (3, false)]⟩])
  (.seq (rA 7)
  (.seq (.seq (rA 2)
  (.cond (.seq (rA 5)
  (.leaf))
  (.leaf)))
  (.seq (rA 4)
  (.seq (rA 1)
  (.seq (.seq (rA 3)
  (.block (.loop [(1, .any), (2, .any), (5, .any), (7, .any), (8, .any), (27, .any), (28, .int .i64), (29, .int .i64)] (fun n l h => s12l1_R (s12l1 Ψ n) l h) (fun L1 =>
  .seq (rA 1)
  (.seq (.cond (.leaf)
  (.leaf))
  (.cut [(1, .any), (2, .any), (5, .any), (7, .any), (8, .any), (27, .any), (28, .int .i64), (29, .int .i64)] (fun l h => J.cons l fun x0 l => J.cons l fun x1 l => J.cons l fun x2 l => J.cons l fun x3 l => J.cons l fun x4 l => J.cons l fun x5 l => J.cons l fun v l => J.int .i64 v fun x6 => J.cons l fun v l => J.int .i64 v fun x7 => J.nil l (s12c2 Ψ (fun y0 y1 y2 y3 y4 y5 y6 y7 h => L1 [y0, y1, y2, y3, y4, y5, (.int .i64 y6), (.int .i64 y7)] h) x0 x1 x2 x3 x4 x5 x6 x7 h)) (.block (.seq (rA 5)
  (.seq (rA 5)
  (.cond (.seq (.reg [⟨none, [(0, false), (1, false), (2, true), (3, false), (4, false), (5, false)]⟩])
  (.draw [(0, false), (1, false), (2, false), (3, false), (4, false), (5, false), (6, false), (7, false), (8, true), (9, false), (10, false), (11, false)] [0, 1, 0, 4, 0, 28, 60, 124, 252, 511, 1023, 2047]))
  (.leaf)))))
  (rA 2)))))))
  (.seq (.seq (rA 3)
  (.block (.loop [(2, .any), (5, .any), (7, .any), (8, .any), (56, .any), (57, .int .i64), (58, .int .i64)] (fun n l h => s12l3_R (s12l3 Ψ n) l h) (fun L3 =>
  .seq (rA 1)
  (.seq (.cond (.leaf)
  (.leaf))
  (.seq (.block (.seq (rA 5)
  (.seq (rA 6)
  (.block (.loop [(2, .any), (5, .any), (7, .any), (8, .any), (12, .int .i64), (56, .any), (57, .int .i64), (58, .int .i64), (66, .any), (67, .int .i64), (68, .int .i64)] (fun n l h => s12l4_R (s12l4 Ψ (fun y0 y1 y2 y3 y4 y5 y6 h => L3 [y0, y1, y2, y3, y4, (.int .i64 y5), (.int .i64 y6)] h) n) l h) (fun L4 =>
  .seq (rA 1)
  (.seq (.cond (.leaf)
  (.leaf))
  (.cut [(2, .any), (5, .any), (7, .any), (8, .any), (12, .int .i64), (56, .any), (57, .int .i64), (58, .int .i64), (66, .any), (67, .int .i64), (68, .int .i64)] (fun l h => J.cons l fun x0 l => J.cons l fun x1 l => J.cons l fun x2 l => J.cons l fun x3 l => J.cons l fun v l => J.int .i64 v fun x4 => J.cons l fun x5 l => J.cons l fun v l => J.int .i64 v fun x6 => J.cons l fun v l => J.int .i64 v fun x7 => J.cons l fun x8 l => J.cons l fun v l => J.int .i64 v fun x9 => J.cons l fun v l => J.int .i64 v fun x10 => J.nil l (s12c5 Ψ (fun y0 y1 y2 y3 y4 y5 y6 h => L3 [y0, y1, y2, y3, y4, (.int .i64 y5), (.int .i64 y6)] h) (fun y0 y1 y2 y3 y4 y5 y6 y7 y8 y9 y10 h => L4 [y0, y1, y2, y3, (.int .i64 y4), y5, (.int .i64 y6), (.int .i64 y7), y8, (.int .i64 y9), (.int .i64 y10)] h) x0 x1 x2 x3 x4 x5 x6 x7 x8 x9 x10 h)) (.block (.seq (rA 3)
  (.seq (rA 6)
  (.cond (.draw [(0, false), (1, false), (2, false), (3, false), (4, false), (5, false), (6, false), (7, false), (8, false), (9, false), (10, false), (11, false), (12, true), (13, false), (14, false), (15, false)] [0, 1, 0, 0, 8, 0, 56, 120, 0, 0, 768, 1792, 3840, 8184, 16383, 32767])
  (.leaf)))))
  (rA 2)))))))))
  (rA 2)))))))
  (.seq (rA 6)
  (.leaf))))))))

theorem s12_ok {Ψ : AVal → Heap → Prop} {m_Up : AVal} {m_Val : AVal} {h : Heap} (H : s12 Ψ m_Up m_Val h) : ACalls prog 12 [(.agg [m_Up, m_Val])] h Ψ :=
  calls_of_evF func12 (by kernel_rfl) (by kernel_rfl) (by kernel_rfl)
    (Eq.mpr (by as_aux_lemma => kernel_rfl : oblF prog f12 (s12_A Ψ) Ψ = (True ∧ True ∧ (True ∧ (True ∧ True) ∧ True) ∧ True ∧ True ∧ (True ∧ (∀ (h : Heap) (x0 x1 x2 x3 x4 x5 : AVal) (x6 x7 : Int), ON (s12l1 Ψ 0 x0 x1 x2 x3 x4 x5 x6 x7 h)) ∧ ∀ n1 : Nat, (∀ (h : Heap) (x0 x1 x2 x3 x4 x5 : AVal) (x6 x7 : Int), OI (s12l1 Ψ (n1 + 1) x0 x1 x2 x3 x4 x5 x6 x7 h)) ∧ (True ∧ (True ∧ True) ∧ (True ∧ True ∧ (True ∧ True) ∧ True) ∧ (∀ (h : Heap) (x0 x1 x2 x3 x4 x5 : AVal) (x6 x7 : Int), OI (s12c2 Ψ (s12l1_G (s12l1 Ψ n1)) x0 x1 x2 x3 x4 x5 x6 x7 h)) ∧ (True))) ∧ (True ∧ (∀ (h : Heap) (x0 x1 x2 x3 x4 : AVal) (x5 x6 : Int), ON (s12l3 Ψ 0 x0 x1 x2 x3 x4 x5 x6 h)) ∧ ∀ n3 : Nat, (∀ (h : Heap) (x0 x1 x2 x3 x4 : AVal) (x5 x6 : Int), OI (s12l3 Ψ (n3 + 1) x0 x1 x2 x3 x4 x5 x6 h)) ∧ (True ∧ (True ∧ True) ∧ (True ∧ True ∧ (∀ (h : Heap) (x0 x1 x2 x3 : AVal) (x4 : Int) (x5 : AVal) (x6 x7 : Int) (x8 : AVal) (x9 x10 : Int), ON (s12l4 Ψ (s12l3_G (s12l3 Ψ n3)) 0 x0 x1 x2 x3 x4 x5 x6 x7 x8 x9 x10 h)) ∧ ∀ n4 : Nat, (∀ (h : Heap) (x0 x1 x2 x3 : AVal) (x4 : Int) (x5 : AVal) (x6 x7 : Int) (x8 : AVal) (x9 x10 : Int), OI (s12l4 Ψ (s12l3_G (s12l3 Ψ n3)) (n4 + 1) x0 x1 x2 x3 x4 x5 x6 x7 x8 x9 x10 h)) ∧ (True ∧ (True ∧ True) ∧ (True ∧ True ∧ True ∧ True) ∧ (∀ (h : Heap) (x0 x1 x2 x3 : AVal) (x4 : Int) (x5 : AVal) (x6 x7 : Int) (x8 : AVal) (x9 x10 : Int), OI (s12c5 Ψ (s12l3_G (s12l3 Ψ n3)) (s12l4_G (s12l4 Ψ (s12l3_G (s12l3 Ψ n3)) n4)) x0 x1 x2 x3 x4 x5 x6 x7 x8 x9 x10 h)) ∧ (True))) ∧ True)) ∧ True ∧ True)) ⟨trivial, ⟨trivial, ⟨⟨trivial, ⟨⟨trivial, trivial⟩, trivial⟩⟩, ⟨trivial, ⟨trivial, ⟨⟨trivial, ⟨fun _ _ _ _ _ _ _ _ _ H => H, fun _ => ⟨fun _ _ _ _ _ _ _ _ _ H => H, ⟨trivial, ⟨⟨trivial, trivial⟩, ⟨⟨trivial, ⟨trivial, ⟨⟨trivial, trivial⟩, trivial⟩⟩⟩, fun _ _ _ _ _ _ _ _ _ H => H, trivial⟩⟩⟩⟩⟩⟩, ⟨⟨trivial, ⟨fun _ _ _ _ _ _ _ _ H => H, fun _ => ⟨fun _ _ _ _ _ _ _ _ H => H, ⟨trivial, ⟨⟨trivial, trivial⟩, ⟨⟨trivial, ⟨trivial, ⟨fun _ _ _ _ _ _ _ _ _ _ _ _ H => H, fun _ => ⟨fun _ _ _ _ _ _ _ _ _ _ _ _ H => H, ⟨trivial, ⟨⟨trivial, trivial⟩, ⟨⟨trivial, ⟨trivial, ⟨trivial, trivial⟩⟩⟩, fun _ _ _ _ _ _ _ _ _ _ _ _ H => H, trivial⟩⟩⟩⟩⟩⟩⟩, trivial⟩⟩⟩⟩⟩⟩, ⟨trivial, trivial⟩⟩⟩⟩⟩⟩⟩⟩)
    (Eq.mpr (by as_aux_lemma => kernel_rfl : evF prog f12 (s12_A Ψ) Ψ [(.agg [m_Up, m_Val])] h = s12 Ψ m_Up m_Val h) H)

/- 14 dictum/morph.Classes -/
def s14 (Ψ : AVal → Heap → Prop) (m_Up : AVal) (m_Val : AVal) (h : Heap) : Prop :=
  callG prog 28 [(.agg [m_Up, m_Val])] h fun v h_ =>
  tTup v fun l_ =>
  tCons l_ fun v1 l_1 =>
  tCons l_1 fun v2 l_2 =>
  tInt .i64 v2 fun v3 =>
  tNil l_2 (
    ifT (v3 != 0) (
      retG (.tuple [.nilsl, (.int .i64 v3)]) h_ Ψ) (
      callG prog 34 [(.agg [m_Up, m_Val]), v1] h_ fun v4 h_1 =>
      retG (.tuple [v4, (.int .i64 0)]) h_1 Ψ))

def s14_A (Ψ : AVal → Heap → Prop) : Ann :=
  .seq (.reg [⟨none, [(0, true), (1, false), (2, false)]⟩])
  (.seq (rA 7)
  (.seq (.seq (rA 2)
  (.cond (.seq (rA 3)
  (.leaf))
  (.leaf)))
  (.seq (rA 5)
  (.leaf))))

theorem s14_ok {Ψ : AVal → Heap → Prop} {m_Up : AVal} {m_Val : AVal} {h : Heap} (H : s14 Ψ m_Up m_Val h) : ACalls prog 14 [(.agg [m_Up, m_Val])] h Ψ :=
  calls_of_evF func14 (by kernel_rfl) (by kernel_rfl) (by kernel_rfl)
    (Eq.mpr (by as_aux_lemma => kernel_rfl : oblF prog f14 (s14_A Ψ) Ψ = (True ∧ True ∧ (True ∧ (True ∧ True) ∧ True) ∧ True ∧ True)) ⟨trivial, ⟨trivial, ⟨⟨trivial, ⟨⟨trivial, trivial⟩, trivial⟩⟩, ⟨trivial, trivial⟩⟩⟩⟩)
    (Eq.mpr (by as_aux_lemma => kernel_rfl : evF prog f14 (s14_A Ψ) Ψ [(.agg [m_Up, m_Val])] h = s14 Ψ m_Up m_Val h) H)

/- 16 dictum/dictumref03.Ints -/
abbrev s16l1_T := AVal → AVal → Int → Heap → Prop
def s16l1_R (F : s16l1_T) (l : List AVal) (h : Heap) : Prop := J.cons l fun x0 l => J.cons l fun x1 l => J.cons l fun v l => J.int .i64 v fun x2 => J.nil l (F x0 x1 x2 h)
def s16l1_G (F : s16l1_T) (x0 x1 : AVal) (x2 : Int) (h : Heap) : Prop := gJ [.any, .any, .int .i64] [x0, x1, (.int .i64 x2)] h (s16l1_R F)
def s16l1_E (F : Nat → s16l1_T) (x0 x1 : AVal) (x2 : Int) (h : Heap) : Prop := gJ [.any, .any, .int .i64] [x0, x1, (.int .i64 x2)] h (fun l h => ∃ n, s16l1_R (F n) l h)
theorem s16l1_go {F : s16l1_T} {x0 x1 : AVal} {x2 : Int} {h : Heap} (H : F x0 x1 x2 h) : s16l1_G F x0 x1 x2 h := gJ_plain rfl H
theorem s16l1_in {F : Nat → s16l1_T} {x0 x1 : AVal} {x2 : Int} {h : Heap} (n : Nat) (H : F n x0 x1 x2 h) : s16l1_E F x0 x1 x2 h := gJ_plain rfl ⟨n, H⟩

def s16l1 (Ψ : AVal → Heap → Prop) : Nat → s16l1_T
  | 0, _, _, _, _ => False
  | n2 + 1, a1, b1, i, h =>
    lenN a1 fun n3 =>
    ifT (decide (i < n3)) (
      ixS 1 a1 i fun p =>
      ld1 h p fun v =>
      tInt .i64 v fun v1 =>
      ixS 1 b1 i fun p1 =>
      ld1 h p1 fun v2 =>
      tInt .i64 v2 fun v3 =>
      ifT (v1 != v3) (
        retG (.bool false) h Ψ) (
        rg (i + 1) (
          s16l1_G (s16l1 Ψ n2) a1 b1 (i + 1) h))) (
      retG (.bool true) h Ψ)

def s16 (Ψ : AVal → Heap → Prop) (a : AVal) (b : AVal) (h : Heap) : Prop :=
  lenN a fun n =>
  lenN b fun n1 =>
  ifT (n != n1) (
    retG (.bool false) h Ψ) (
    s16l1_E (s16l1 Ψ) a b 0 h)

def s16_A (Ψ : AVal → Heap → Prop) : Ann :=
  .seq (rA 1)
  (.seq (.seq (rA 5)
  (.cond (.seq (rA 1)
  (.leaf))
  (.leaf)))
  (.seq (.seq (rA 1)
  (.block (.loop [(0, .any), (1, .any), (5, .int .i64)] (fun n l h => s16l1_R (s16l1 Ψ n) l h) (fun L1 =>
  .seq (.seq (rA 4)
  (.cond (.leaf)
  (.leaf)))
  (.seq (.block (.seq (.draw [(0, false), (1, false), (2, false), (3, false), (4, false), (5, false), (6, false), (7, false), (8, false)] [0, 0, 3, 7, 0, 0, 48, 112, 255])
  (.cond (.seq (rA 1)
  (.leaf))
  (.leaf))))
  (rA 3))))))
  (.seq (rA 1)
  (.leaf))))

theorem s16_ok {Ψ : AVal → Heap → Prop} {a : AVal} {b : AVal} {h : Heap} (H : s16 Ψ a b h) : ACalls prog 16 [a, b] h Ψ :=
  calls_of_evF func16 (by kernel_rfl) (by kernel_rfl) (by kernel_rfl)
    (Eq.mpr (by as_aux_lemma => kernel_rfl : oblF prog f16 (s16_A Ψ) Ψ = (True ∧ (True ∧ (True ∧ True) ∧ True) ∧ (True ∧ (∀ (h : Heap) (x0 x1 : AVal) (x2 : Int), ON (s16l1 Ψ 0 x0 x1 x2 h)) ∧ ∀ n1 : Nat, (∀ (h : Heap) (x0 x1 : AVal) (x2 : Int), OI (s16l1 Ψ (n1 + 1) x0 x1 x2 h)) ∧ ((True ∧ True ∧ True) ∧ (True ∧ (True ∧ True) ∧ True) ∧ True)) ∧ True ∧ True)) ⟨trivial, ⟨⟨trivial, ⟨⟨trivial, trivial⟩, trivial⟩⟩, ⟨⟨trivial, ⟨fun _ _ _ _ H => H, fun _ => ⟨fun _ _ _ _ H => H, ⟨⟨trivial, ⟨trivial, trivial⟩⟩, ⟨⟨trivial, ⟨⟨trivial, trivial⟩, trivial⟩⟩, trivial⟩⟩⟩⟩⟩, ⟨trivial, trivial⟩⟩⟩⟩)
    (Eq.mpr (by as_aux_lemma => kernel_rfl : evF prog f16 (s16_A Ψ) Ψ [a, b] h = s16 Ψ a b h) H)

/- 18 dictum/dictumref19.Unravel -/
abbrev s18l2_T := AVal → AVal → AVal → AVal → AVal → Int → Heap → Prop
def s18l2_R (F : s18l2_T) (l : List AVal) (h : Heap) : Prop := J.cons l fun x0 l => J.cons l fun x1 l => J.cons l fun x2 l => J.cons l fun x3 l => J.cons l fun x4 l => J.cons l fun v l => J.int .i64 v fun x5 => J.nil l (F x0 x1 x2 x3 x4 x5 h)
def s18l2_G (F : s18l2_T) (x0 x1 x2 x3 x4 : AVal) (x5 : Int) (h : Heap) : Prop := gJ [.any, .any, .any, .any, .any, .int .i64] [x0, x1, x2, x3, x4, (.int .i64 x5)] h (s18l2_R F)
def s18l2_E (F : Nat → s18l2_T) (x0 x1 x2 x3 x4 : AVal) (x5 : Int) (h : Heap) : Prop := gJ [.any, .any, .any, .any, .any, .int .i64] [x0, x1, x2, x3, x4, (.int .i64 x5)] h (fun l h => ∃ n, s18l2_R (F n) l h)
theorem s18l2_go {F : s18l2_T} {x0 x1 x2 x3 x4 : AVal} {x5 : Int} {h : Heap} (H : F x0 x1 x2 x3 x4 x5 h) : s18l2_G F x0 x1 x2 x3 x4 x5 h := gJ_plain rfl H
theorem s18l2_in {F : Nat → s18l2_T} {x0 x1 x2 x3 x4 : AVal} {x5 : Int} {h : Heap} (n : Nat) (H : F n x0 x1 x2 x3 x4 x5 h) : s18l2_E F x0 x1 x2 x3 x4 x5 h := gJ_plain rfl ⟨n, H⟩

abbrev s18l3_T := AVal → AVal → AVal → AVal → AVal → Int → AVal → Int → Heap → Prop
def s18l3_R (F : s18l3_T) (l : List AVal) (h : Heap) : Prop := J.cons l fun x0 l => J.cons l fun x1 l => J.cons l fun x2 l => J.cons l fun x3 l => J.cons l fun x4 l => J.cons l fun v l => J.int .i64 v fun x5 => J.cons l fun x6 l => J.cons l fun v l => J.int .i64 v fun x7 => J.nil l (F x0 x1 x2 x3 x4 x5 x6 x7 h)
def s18l3_G (F : s18l3_T) (x0 x1 x2 x3 x4 : AVal) (x5 : Int) (x6 : AVal) (x7 : Int) (h : Heap) : Prop := gJ [.any, .any, .any, .any, .any, .int .i64, .any, .int .i64] [x0, x1, x2, x3, x4, (.int .i64 x5), x6, (.int .i64 x7)] h (s18l3_R F)
def s18l3_E (F : Nat → s18l3_T) (x0 x1 x2 x3 x4 : AVal) (x5 : Int) (x6 : AVal) (x7 : Int) (h : Heap) : Prop := gJ [.any, .any, .any, .any, .any, .int .i64, .any, .int .i64] [x0, x1, x2, x3, x4, (.int .i64 x5), x6, (.int .i64 x7)] h (fun l h => ∃ n, s18l3_R (F n) l h)
theorem s18l3_go {F : s18l3_T} {x0 x1 x2 x3 x4 : AVal} {x5 : Int} {x6 : AVal} {x7 : Int} {h : Heap} (H : F x0 x1 x2 x3 x4 x5 x6 x7 h) : s18l3_G F x0 x1 x2 x3 x4 x5 x6 x7 h := gJ_plain rfl H
theorem s18l3_in {F : Nat → s18l3_T} {x0 x1 x2 x3 x4 : AVal} {x5 : Int} {x6 : AVal} {x7 : Int} {h : Heap} (n : Nat) (H : F n x0 x1 x2 x3 x4 x5 x6 x7 h) : s18l3_E F x0 x1 x2 x3 x4 x5 x6 x7 h := gJ_plain rfl ⟨n, H⟩

def s18l3 (Ψ : AVal → Heap → Prop) (L2 : s18l2_T) : Nat → s18l3_T
  | 0, _, _, _, _, _, _, _, _, _ => False
  | n2 + 1, m2, t4_2, t1, out1, ends1, i1, row, k, h =>
    lenN row fun n3 =>
    ifT (decide (k < n3)) (
      lenN ends1 fun n4 =>
      ifT (decide (512 ≤ n4)) (
        st false h t4_2 [.nilsl, .nilsl] fun h_12 =>
        ldN 2 h_12 t4_2 fun l_15 =>
        tCons l_15 fun v19 l_16 =>
        tCons l_16 fun v20 l_17 =>
        tNil l_17 (
          retG (.tuple [(.agg [v19, v20]), .nilsl, (.int .i64 190)]) h_12 Ψ)) (
        addOff out1 0 fun p5 =>
        ld1 h p5 fun v21 =>
        addOff out1 0 fun p6 =>
        ld1 h p6 fun v22 =>
        ixS 1 v22 i1 fun p7 =>
        ld1 h p7 fun v23 =>
        lenN ends1 fun n5 =>
        (ld1 h p7 fun v24 =>
        v24 = v23) ∧
        (ld1 h p6 fun v25 =>
        v25 = v22) ∧
        (ld1 h p5 fun v26 =>
        v26 = v21) ∧
        appC 1 8 h v23 (.lsl 1 [(.int .i64 n5)]) fun v27 h_13 =>
        (ld1 h_13 p5 fun v28 =>
        v28 = v21) ∧
        ixS 1 v21 i1 fun p8 =>
        chk (sc v27) (
          st true h_13 p8 [v27] fun h_14 =>
          addOff out1 0 fun p9 =>
          ld1 h_14 p9 fun v29 =>
          appC 1 24 h_14 v29 (.lsl 1 [.nilsl]) fun v30 h_15 =>
          addOff out1 0 fun p10 =>
          chk (sc v30) (
            st true h_15 p10 [v30] fun h_16 =>
            addOff out1 1 fun p11 =>
            ld1 h_16 p11 fun v31 =>
            addOff m2 1 fun p12 =>
            ld1 h_16 p12 fun v32 =>
            ixS 1 row k fun p13 =>
            ld1 h_16 p13 fun v33 =>
            tInt .i64 v33 fun v34 =>
            ixS 1 v32 v34 fun p14 =>
            ld1 h_16 p14 fun v35 =>
            chk (sc v35) (
              (ld1 h_16 p11 fun v36 =>
              v36 = v31) ∧
              appC 1 24 h_16 v31 (.lsl 1 [v35]) fun v37 h_17 =>
              addOff out1 1 fun p15 =>
              chk (sc v37) (
                st true h_17 p15 [v37] fun h_18 =>
                ixS 1 row k fun p16 =>
                ld1 h_18 p16 fun v38 =>
                tInt .i64 v38 fun v39 =>
                appC 1 8 h_18 ends1 (.lsl 1 [(.int .i64 v39)]) fun v40 h_19 =>
                rg (k + 1) (
                  s18l3_G (s18l3 Ψ L2 n2) m2 t4_2 t1 out1 v40 i1 row (k + 1) h_19))))))) (
      rg (i1 + 1) (
        L2 m2 t4_2 t1 out1 ends1 (i1 + 1) h))

def s18l2 (Ψ : AVal → Heap → Prop) : Nat → s18l2_T
  | 0, _, _, _, _, _, _, _ => False
  | n + 1, m1, t4_1, t, out, ends, i, h =>
    lenN ends fun n1 =>
    ifT (decide (i < n1)) (
      addOff t 0 fun p2 =>
      ld1 h p2 fun v15 =>
      ixS 1 ends i fun p3 =>
      ld1 h p3 fun v16 =>
      tInt .i64 v16 fun v17 =>
      ixS 1 v15 v17 fun p4 =>
      ld1 h p4 fun v18 =>
      s18l3_E (s18l3 Ψ (s18l2_G (s18l2 Ψ n))) m1 t4_1 t out ends i v18 0 h) (
      ldN 2 h out fun l_18 =>
      tCons l_18 fun v41 l_19 =>
      tCons l_19 fun v42 l_20 =>
      tNil l_20 (
        callG prog 37 [(.agg [v41, v42])] h fun v43 h_20 =>
        tAgg v43 fun l_21 =>
        tCons l_21 fun v44 l_22 =>
        tCons l_22 fun v45 l_23 =>
        tNil l_23 (
          st false h_20 t4_1 [v44, v45] fun h_21 =>
          ldN 2 h_21 t4_1 fun l_24 =>
          tCons l_24 fun v46 l_25 =>
          tCons l_25 fun v47 l_26 =>
          tNil l_26 (
            retG (.tuple [(.agg [v46, v47]), ends, (.int .i64 0)]) h_21 Ψ))))

def s18c1 (Ψ : AVal → Heap → Prop) (w1 : Int) (m t4 : AVal) (t30 : Bool) (h : Heap) : Prop :=
  ifT t30 (
    st false h t4 [.nilsl, .nilsl] fun h_3 =>
    ldN 2 h_3 t4 fun l_6 =>
    tCons l_6 fun v6 l_7 =>
    tCons l_7 fun v7 l_8 =>
    tNil l_8 (
      retG (.tuple [(.agg [v6, v7]), .nilsl, (.int .i64 2)]) h_3 Ψ)) (
    ldN 2 h m fun l_9 =>
    tCons l_9 fun v8 l_10 =>
    tCons l_10 fun v9 l_11 =>
    tNil l_11 (
      callG prog 37 [(.agg [v8, v9])] h fun v10 h_4 =>
      tAgg v10 fun l_12 =>
      tCons l_12 fun v11 l_13 =>
      tCons l_13 fun v12 l_14 =>
      tNil l_14 (
        Sym.newRow 2 [(.agg [.nilsl, .nilsl])] h_4 fun r1 h_5 =>
        st false h_5 (.ptr r1 0 0) [v11, v12] fun h_6 =>
        Sym.newRow 1 [.nilsl] h_6 fun r2 h_7 =>
        addOff m 1 fun p =>
        ld1 h_7 p fun v13 =>
        ixS 1 v13 w1 fun p1 =>
        ld1 h_7 p1 fun v14 =>
        chk (sc v14) (
          Sym.newRow 1 [v14] h_7 fun r3 h_8 =>
          Sym.newRow 2 [(.agg [.nilsl, .nilsl])] h_8 fun r4 h_9 =>
          st false h_9 (.ptr r4 0 0) [(.sl r2 1 0 1), (.sl r3 1 0 1)] fun h_10 =>
          Sym.newRow 1 [(.int .i64 w1)] h_10 fun r5 h_11 =>
          s18l2_E (s18l2 Ψ) m t4 (.ptr r1 0 0) (.ptr r4 0 0) (.sl r5 1 0 1) 0 h_11))))

def s18 (Ψ : AVal → Heap → Prop) (m_Up : AVal) (m_Val : AVal) (w : Int) (h : Heap) : Prop :=
  Sym.newRow 2 [(.agg [.nilsl, .nilsl])] h fun r h_ =>
  callG prog 31 [(.agg [m_Up, m_Val])] h_ fun v h_1 =>
  tTup v fun l_ =>
  tCons l_ fun v1 l_1 =>
  tCons l_1 fun v2 l_2 =>
  tBool v2 fun v3 =>
  tNil l_2 (
    ifT (!v3) (
      st false h_1 (.ptr r 0 0) [.nilsl, .nilsl] fun h_2 =>
      ldN 2 h_2 (.ptr r 0 0) fun l_3 =>
      tCons l_3 fun v4 l_4 =>
      tCons l_4 fun v5 l_5 =>
      tNil l_5 (
        retG (.tuple [(.agg [v4, v5]), .nilsl, (.int .i64 170)]) h_2 Ψ)) (
      ifT (decide (w < 0)) (
        s18c1 Ψ w (.lptr [m_Up, m_Val]) (.ptr r 0 0) true h_1) (
        lenN v1 fun n8 =>
        s18c1 Ψ w (.lptr [m_Up, m_Val]) (.ptr r 0 0) (decide (n8 ≤ w)) h_1)))

def s18_A (Ψ : AVal → Heap → Prop) : Ann :=
  .seq (.reg [⟨none, [(0, true), (1, false), (2, false), (3, false)]⟩])
  (.seq (rA 7)
  (.seq (.seq (rA 2)
  (.cond (.seq (rA 4)
  (.leaf))
  (.leaf)))
  (.seq (.cut [(1, .int .i64), (2, .any), (4, .any), (30, .bool)] (fun l h => J.cons l fun v l => J.int .i64 v fun x0 => J.cons l fun x1 l => J.cons l fun x2 l => J.cons l fun v l => J.bool v fun x3 => J.nil l (s18c1 Ψ x0 x1 x2 x3 h)) (.reg [⟨none, [(0, false), (1, false), (2, false)]⟩, ⟨some (25, false), [(3, false), (4, false), (5, false), (6, false)]⟩, ⟨none, [(7, false)]⟩])
  (.cond (.seq (rA 4)
  (.leaf))
  (.leaf)))
  (.seq (rA 4)
  (.seq (rA 10)
  (.seq (rA 3)
  (.seq (.seq (rA 1)
  (.block (.loop [(2, .any), (4, .any), (9, .any), (10, .any), (11, .any), (12, .int .i64)] (fun n l h => s18l2_R (s18l2 Ψ n) l h) (fun L2 =>
  .seq (.seq (rA 4)
  (.cond (.leaf)
  (.leaf)))
  (.seq (.block (.seq (.draw [(0, false), (1, false), (2, false), (3, false), (4, false), (5, false), (6, false), (7, false), (8, false)] [0, 1, 0, 0, 12, 28, 63, 127, 255])
  (.seq (rA 1)
  (.block (.loop [(2, .any), (4, .any), (9, .any), (10, .any), (11, .any), (12, .int .i64), (13, .any), (14, .int .i64)] (fun n l h => s18l3_R (s18l3 Ψ (fun y0 y1 y2 y3 y4 y5 h => L2 [y0, y1, y2, y3, y4, (.int .i64 y5)] h) n) l h) (fun L3 =>
  .seq (.seq (rA 4)
  (.cond (.leaf)
  (.leaf)))
  (.seq (.block (.seq (.seq (rA 3)
  (.cond (.seq (rA 4)
  (.leaf))
  (.leaf)))
  (.seq (.draw [(0, false), (1, false), (2, false), (3, false), (4, false), (5, false), (6, false), (7, false), (8, false), (9, false), (10, true), (11, false), (12, false), (13, false)] [0, 1, 0, 0, 8, 0, 56, 120, 0, 256, 768, 2040, 4095, 8191])
  (.seq (.reg [⟨none, [(0, false), (1, false), (2, true), (3, false), (4, false), (5, false)]⟩])
  (.seq (.draw [(0, false), (1, false), (2, false), (3, false), (4, false), (5, false), (6, false), (7, false), (8, false), (9, false), (10, true), (11, false), (12, false), (13, false)] [0, 1, 0, 4, 0, 0, 48, 112, 252, 508, 1020, 2047, 4095, 8191])
  (.reg [⟨none, [(0, false), (1, false), (2, false), (3, false), (4, false), (5, true), (6, false), (7, false)]⟩]))))))
  (rA 3))))))))
  (rA 3))))))
  (.seq (rA 6)
  (.leaf)))))))))

theorem s18_ok {Ψ : AVal → Heap → Prop} {m_Up : AVal} {m_Val : AVal} {w : Int} {h : Heap} (H : s18 Ψ m_Up m_Val w h) : ACalls prog 18 [(.agg [m_Up, m_Val]), (.int .i64 w)] h Ψ :=
  calls_of_evF func18 (by kernel_rfl) (by kernel_rfl) (by kernel_rfl)
    (Eq.mpr (by as_aux_lemma => kernel_rfl : oblF prog f18 (s18_A Ψ) Ψ = (True ∧ True ∧ (True ∧ (True ∧ True) ∧ True) ∧ ((True) ∧ (∀ (h : Heap) (x0 : Int) (x1 x2 : AVal) (x3 : Bool), OI (s18c1 Ψ x0 x1 x2 x3 h)) ∧ ((True ∧ True) ∧ True)) ∧ True ∧ True ∧ True ∧ (True ∧ (∀ (h : Heap) (x0 x1 x2 x3 x4 : AVal) (x5 : Int), ON (s18l2 Ψ 0 x0 x1 x2 x3 x4 x5 h)) ∧ ∀ n2 : Nat, (∀ (h : Heap) (x0 x1 x2 x3 x4 : AVal) (x5 : Int), OI (s18l2 Ψ (n2 + 1) x0 x1 x2 x3 x4 x5 h)) ∧ ((True ∧ True ∧ True) ∧ (True ∧ True ∧ (∀ (h : Heap) (x0 x1 x2 x3 x4 : AVal) (x5 : Int) (x6 : AVal) (x7 : Int), ON (s18l3 Ψ (s18l2_G (s18l2 Ψ n2)) 0 x0 x1 x2 x3 x4 x5 x6 x7 h)) ∧ ∀ n3 : Nat, (∀ (h : Heap) (x0 x1 x2 x3 x4 : AVal) (x5 : Int) (x6 : AVal) (x7 : Int), OI (s18l3 Ψ (s18l2_G (s18l2 Ψ n2)) (n3 + 1) x0 x1 x2 x3 x4 x5 x6 x7 h)) ∧ ((True ∧ True ∧ True) ∧ ((True ∧ (True ∧ True) ∧ True) ∧ True ∧ True ∧ True ∧ True) ∧ True)) ∧ True)) ∧ True ∧ True)) ⟨trivial, ⟨trivial, ⟨⟨trivial, ⟨⟨trivial, trivial⟩, trivial⟩⟩, ⟨⟨trivial, fun _ _ _ _ _ H => H, ⟨⟨trivial, trivial⟩, trivial⟩⟩, ⟨trivial, ⟨trivial, ⟨trivial, ⟨⟨trivial, ⟨fun _ _ _ _ _ _ _ H => H, fun _ => ⟨fun _ _ _ _ _ _ _ H => H, ⟨⟨trivial, ⟨trivial, trivial⟩⟩, ⟨⟨trivial, ⟨trivial, ⟨fun _ _ _ _ _ _ _ _ _ H => H, fun _ => ⟨fun _ _ _ _ _ _ _ _ _ H => H, ⟨⟨trivial, ⟨trivial, trivial⟩⟩, ⟨⟨⟨trivial, ⟨⟨trivial, trivial⟩, trivial⟩⟩, ⟨trivial, ⟨trivial, ⟨trivial, trivial⟩⟩⟩⟩, trivial⟩⟩⟩⟩⟩⟩, trivial⟩⟩⟩⟩⟩, ⟨trivial, trivial⟩⟩⟩⟩⟩⟩⟩⟩⟩)
    (Eq.mpr (by as_aux_lemma => kernel_rfl : evF prog f18 (s18_A Ψ) Ψ [(.agg [m_Up, m_Val]), (.int .i64 w)] h = s18 Ψ m_Up m_Val w h) H)

/- 23 dictum/dictumref17.Names -/
abbrev s23l1_T := AVal → AVal → Int → Heap → Prop
def s23l1_R (F : s23l1_T) (l : List AVal) (h : Heap) : Prop := J.cons l fun x0 l => J.cons l fun x1 l => J.cons l fun v l => J.int .i64 v fun x2 => J.nil l (F x0 x1 x2 h)
def s23l1_G (F : s23l1_T) (x0 x1 : AVal) (x2 : Int) (h : Heap) : Prop := gJ [.any, .any, .int .i64] [x0, x1, (.int .i64 x2)] h (s23l1_R F)
def s23l1_E (F : Nat → s23l1_T) (x0 x1 : AVal) (x2 : Int) (h : Heap) : Prop := gJ [.any, .any, .int .i64] [x0, x1, (.int .i64 x2)] h (fun l h => ∃ n, s23l1_R (F n) l h)
theorem s23l1_go {F : s23l1_T} {x0 x1 : AVal} {x2 : Int} {h : Heap} (H : F x0 x1 x2 h) : s23l1_G F x0 x1 x2 h := gJ_plain rfl H
theorem s23l1_in {F : Nat → s23l1_T} {x0 x1 : AVal} {x2 : Int} {h : Heap} (n : Nat) (H : F n x0 x1 x2 h) : s23l1_E F x0 x1 x2 h := gJ_plain rfl ⟨n, H⟩

def s23l1 (Ψ : AVal → Heap → Prop) : Nat → s23l1_T
  | 0, _, _, _, _ => False
  | n2 + 1, a1, b1, i, h =>
    lenN a1 fun n3 =>
    ifT (decide (i < n3)) (
      ixS 1 a1 i fun p =>
      ld1 h p fun v =>
      tStr v fun v1 =>
      ixS 1 b1 i fun p1 =>
      ld1 h p1 fun v2 =>
      tStr v2 fun v3 =>
      ifT (!strEq v1 v3) (
        retG (.bool false) h Ψ) (
        rg (i + 1) (
          s23l1_G (s23l1 Ψ n2) a1 b1 (i + 1) h))) (
      retG (.bool true) h Ψ)

def s23 (Ψ : AVal → Heap → Prop) (a : AVal) (b : AVal) (h : Heap) : Prop :=
  lenN a fun n =>
  lenN b fun n1 =>
  ifT (n != n1) (
    retG (.bool false) h Ψ) (
    s23l1_E (s23l1 Ψ) a b 0 h)

def s23_A (Ψ : AVal → Heap → Prop) : Ann :=
  .seq (rA 1)
  (.seq (.seq (rA 5)
  (.cond (.seq (rA 1)
  (.leaf))
  (.leaf)))
  (.seq (.seq (rA 1)
  (.block (.loop [(0, .any), (1, .any), (5, .int .i64)] (fun n l h => s23l1_R (s23l1 Ψ n) l h) (fun L1 =>
  .seq (.seq (rA 4)
  (.cond (.leaf)
  (.leaf)))
  (.seq (.block (.seq (.draw [(0, false), (1, false), (2, false), (3, false), (4, false), (5, false), (6, false), (7, false), (8, false)] [0, 0, 3, 7, 0, 0, 48, 112, 255])
  (.cond (.seq (rA 1)
  (.leaf))
  (.leaf))))
  (rA 3))))))
  (.seq (rA 1)
  (.leaf))))

theorem s23_ok {Ψ : AVal → Heap → Prop} {a : AVal} {b : AVal} {h : Heap} (H : s23 Ψ a b h) : ACalls prog 23 [a, b] h Ψ :=
  calls_of_evF func23 (by kernel_rfl) (by kernel_rfl) (by kernel_rfl)
    (Eq.mpr (by as_aux_lemma => kernel_rfl : oblF prog f23 (s23_A Ψ) Ψ = (True ∧ (True ∧ (True ∧ True) ∧ True) ∧ (True ∧ (∀ (h : Heap) (x0 x1 : AVal) (x2 : Int), ON (s23l1 Ψ 0 x0 x1 x2 h)) ∧ ∀ n1 : Nat, (∀ (h : Heap) (x0 x1 : AVal) (x2 : Int), OI (s23l1 Ψ (n1 + 1) x0 x1 x2 h)) ∧ ((True ∧ True ∧ True) ∧ (True ∧ (True ∧ True) ∧ True) ∧ True)) ∧ True ∧ True)) ⟨trivial, ⟨⟨trivial, ⟨⟨trivial, trivial⟩, trivial⟩⟩, ⟨⟨trivial, ⟨fun _ _ _ _ H => H, fun _ => ⟨fun _ _ _ _ H => H, ⟨⟨trivial, ⟨trivial, trivial⟩⟩, ⟨⟨trivial, ⟨⟨trivial, trivial⟩, trivial⟩⟩, trivial⟩⟩⟩⟩⟩, ⟨trivial, trivial⟩⟩⟩⟩)
    (Eq.mpr (by as_aux_lemma => kernel_rfl : evF prog f23 (s23_A Ψ) Ψ [a, b] h = s23 Ψ a b h) H)

/- 27 dictum/dictumref17.Root -/
abbrev s27l1_T := AVal → Int → Heap → Prop
def s27l1_R (F : s27l1_T) (l : List AVal) (h : Heap) : Prop := J.cons l fun x0 l => J.cons l fun v l => J.int .i64 v fun x1 => J.nil l (F x0 x1 h)
def s27l1_G (F : s27l1_T) (x0 : AVal) (x1 : Int) (h : Heap) : Prop := gJ [.any, .int .i64] [x0, (.int .i64 x1)] h (s27l1_R F)
def s27l1_E (F : Nat → s27l1_T) (x0 : AVal) (x1 : Int) (h : Heap) : Prop := gJ [.any, .int .i64] [x0, (.int .i64 x1)] h (fun l h => ∃ n, s27l1_R (F n) l h)
theorem s27l1_go {F : s27l1_T} {x0 : AVal} {x1 : Int} {h : Heap} (H : F x0 x1 h) : s27l1_G F x0 x1 h := gJ_plain rfl H
theorem s27l1_in {F : Nat → s27l1_T} {x0 : AVal} {x1 : Int} {h : Heap} (n : Nat) (H : F n x0 x1 h) : s27l1_E F x0 x1 h := gJ_plain rfl ⟨n, H⟩

abbrev s27l2_T := AVal → Int → Bool → Int → Heap → Prop
def s27l2_R (F : s27l2_T) (l : List AVal) (h : Heap) : Prop := J.cons l fun x0 l => J.cons l fun v l => J.int .i64 v fun x1 => J.cons l fun v l => J.bool v fun x2 => J.cons l fun v l => J.int .i64 v fun x3 => J.nil l (F x0 x1 x2 x3 h)
def s27l2_G (F : s27l2_T) (x0 : AVal) (x1 : Int) (x2 : Bool) (x3 : Int) (h : Heap) : Prop := gJ [.any, .int .i64, .bool, .int .i64] [x0, (.int .i64 x1), (.bool x2), (.int .i64 x3)] h (s27l2_R F)
def s27l2_E (F : Nat → s27l2_T) (x0 : AVal) (x1 : Int) (x2 : Bool) (x3 : Int) (h : Heap) : Prop := gJ [.any, .int .i64, .bool, .int .i64] [x0, (.int .i64 x1), (.bool x2), (.int .i64 x3)] h (fun l h => ∃ n, s27l2_R (F n) l h)
theorem s27l2_go {F : s27l2_T} {x0 : AVal} {x1 : Int} {x2 : Bool} {x3 : Int} {h : Heap} (H : F x0 x1 x2 x3 h) : s27l2_G F x0 x1 x2 x3 h := gJ_plain rfl H
theorem s27l2_in {F : Nat → s27l2_T} {x0 : AVal} {x1 : Int} {x2 : Bool} {x3 : Int} {h : Heap} (n : Nat) (H : F n x0 x1 x2 x3 h) : s27l2_E F x0 x1 x2 x3 h := gJ_plain rfl ⟨n, H⟩

def s27c3 (Ψ : AVal → Heap → Prop) (L1 : s27l1_T) (L2 : s27l2_T) (o2 : AVal) (a2 : Int) (all1 : Bool) (b1 : Int) (h : Heap) : Prop :=
  rg (b1 + 1) (
    L2 o2 a2 all1 (b1 + 1) h)

def s27l2 (Ψ : AVal → Heap → Prop) (L1 : s27l1_T) : Nat → s27l2_T
  | 0, _, _, _, _, _ => False
  | n2 + 1, o1, a1, all, b, h =>
    lenN o1 fun n3 =>
    ifT (decide (b < n3)) (
      ifT all (
        ixS 1 o1 a1 fun p =>
        ld1 h p fun v4 =>
        ixS 1 v4 b fun p1 =>
        ld1 h p1 fun v5 =>
        tBool v5 fun v6 =>
        s27c3 Ψ L1 (s27l2_G (s27l2 Ψ L1 n2)) o1 a1 v6 b h) (
        s27c3 Ψ L1 (s27l2_G (s27l2 Ψ L1 n2)) o1 a1 false b h)) (
      ifT all (
        retG (.tuple [(.int .i64 a1), (.bool true)]) h Ψ) (
        rg (a1 + 1) (
          L1 o1 (a1 + 1) h)))

def s27l1 (Ψ : AVal → Heap → Prop) : Nat → s27l1_T
  | 0, _, _, _ => False
  | n + 1, o, a, h =>
    lenN o fun n1 =>
    ifT (decide (a < n1)) (
      s27l2_E (s27l2 Ψ (s27l1_G (s27l1 Ψ n))) o a true 0 h) (
      retG (.tuple [(.int .i64 0), (.bool false)]) h Ψ)

def s27 (Ψ : AVal → Heap → Prop) (m_Up : AVal) (m_Val : AVal) (h : Heap) : Prop :=
  callG prog 31 [(.agg [m_Up, m_Val])] h fun v h_ =>
  tTup v fun l_ =>
  tCons l_ fun v1 l_1 =>
  tCons l_1 fun v2 l_2 =>
  tBool v2 fun v3 =>
  tNil l_2 (
    ifT (!v3) (
      retG (.tuple [(.int .i64 0), (.bool false)]) h_ Ψ) (
      s27l1_E (s27l1 Ψ) v1 0 h_))

def s27_A (Ψ : AVal → Heap → Prop) : Ann :=
  .seq (.reg [⟨none, [(0, true), (1, false), (2, false)]⟩])
  (.seq (rA 7)
  (.seq (.seq (rA 2)
  (.cond (.seq (rA 2)
  (.leaf))
  (.leaf)))
  (.seq (.seq (rA 1)
  (.block (.loop [(4, .any), (6, .int .i64)] (fun n l h => s27l1_R (s27l1 Ψ n) l h) (fun L1 =>
  .seq (.seq (rA 4)
  (.cond (.leaf)
  (.leaf)))
  (.seq (.block (.seq (rA 1)
  (.seq (.seq (rA 1)
  (.block (.loop [(4, .any), (6, .int .i64), (7, .bool), (8, .int .i64)] (fun n l h => s27l2_R (s27l2 Ψ (fun y0 y1 h => L1 [y0, (.int .i64 y1)] h) n) l h) (fun L2 =>
  .seq (.seq (rA 4)
  (.cond (.leaf)
  (.leaf)))
  (.cut [(4, .any), (6, .int .i64), (7, .bool), (8, .int .i64)] (fun l h => J.cons l fun x0 l => J.cons l fun v l => J.int .i64 v fun x1 => J.cons l fun v l => J.bool v fun x2 => J.cons l fun v l => J.int .i64 v fun x3 => J.nil l (s27c3 Ψ (fun y0 y1 h => L1 [y0, (.int .i64 y1)] h) (fun y0 y1 y2 y3 h => L2 [y0, (.int .i64 y1), (.bool y2), (.int .i64 y3)] h) x0 x1 x2 x3 h)) (.block (.reg [⟨none, [(0, false), (1, false)]⟩, ⟨some (29, true), [(2, false), (3, false), (4, false), (5, false), (6, false), (7, false), (8, false)]⟩, ⟨none, [(9, false), (10, false)]⟩]))
  (rA 3))))))
  (.seq (rA 1)
  (.cond (.seq (rA 3)
  (.leaf))
  (.leaf))))))
  (rA 3))))))
  (.seq (rA 2)
  (.leaf)))))

theorem s27_ok {Ψ : AVal → Heap → Prop} {m_Up : AVal} {m_Val : AVal} {h : Heap} (H : s27 Ψ m_Up m_Val h) : ACalls prog 27 [(.agg [m_Up, m_Val])] h Ψ :=
  calls_of_evF func27 (by kernel_rfl) (by kernel_rfl) (by kernel_rfl)
    (Eq.mpr (by as_aux_lemma => kernel_rfl : oblF prog f27 (s27_A Ψ) Ψ = (True ∧ True ∧ (True ∧ (True ∧ True) ∧ True) ∧ (True ∧ (∀ (h : Heap) (x0 : AVal) (x1 : Int), ON (s27l1 Ψ 0 x0 x1 h)) ∧ ∀ n1 : Nat, (∀ (h : Heap) (x0 : AVal) (x1 : Int), OI (s27l1 Ψ (n1 + 1) x0 x1 h)) ∧ ((True ∧ True ∧ True) ∧ (True ∧ (True ∧ (∀ (h : Heap) (x0 : AVal) (x1 : Int) (x2 : Bool) (x3 : Int), ON (s27l2 Ψ (s27l1_G (s27l1 Ψ n1)) 0 x0 x1 x2 x3 h)) ∧ ∀ n2 : Nat, (∀ (h : Heap) (x0 : AVal) (x1 : Int) (x2 : Bool) (x3 : Int), OI (s27l2 Ψ (s27l1_G (s27l1 Ψ n1)) (n2 + 1) x0 x1 x2 x3 h)) ∧ ((True ∧ True ∧ True) ∧ (True) ∧ (∀ (h : Heap) (x0 : AVal) (x1 : Int) (x2 : Bool) (x3 : Int), OI (s27c3 Ψ (s27l1_G (s27l1 Ψ n1)) (s27l2_G (s27l2 Ψ (s27l1_G (s27l1 Ψ n1)) n2)) x0 x1 x2 x3 h)) ∧ (True))) ∧ True ∧ (True ∧ True) ∧ True) ∧ True)) ∧ True ∧ True)) ⟨trivial, ⟨trivial, ⟨⟨trivial, ⟨⟨trivial, trivial⟩, trivial⟩⟩, ⟨⟨trivial, ⟨fun _ _ _ H => H, fun _ => ⟨fun _ _ _ H => H, ⟨⟨trivial, ⟨trivial, trivial⟩⟩, ⟨⟨trivial, ⟨⟨trivial, ⟨fun _ _ _ _ _ H => H, fun _ => ⟨fun _ _ _ _ _ H => H, ⟨⟨trivial, ⟨trivial, trivial⟩⟩, ⟨trivial, fun _ _ _ _ _ H => H, trivial⟩⟩⟩⟩⟩, ⟨trivial, ⟨⟨trivial, trivial⟩, trivial⟩⟩⟩⟩, trivial⟩⟩⟩⟩⟩, ⟨trivial, trivial⟩⟩⟩⟩⟩)
    (Eq.mpr (by as_aux_lemma => kernel_rfl : evF prog f27 (s27_A Ψ) Ψ [(.agg [m_Up, m_Val])] h = s27 Ψ m_Up m_Val h) H)

/- 29 slices.Clone[[]int,int] -/
def s29 (Ψ : AVal → Heap → Prop) (s : AVal) (h : Heap) : Prop :=
  nilS s fun b =>
  ifT b (
    retG .nilsl h Ψ) (
    Sym.newRow 1 [] h fun r h_ =>
    appC 1 8 h_ (.sl r 1 0 0) s fun v h_1 =>
    retG v h_1 Ψ)

def s29_A (Ψ : AVal → Heap → Prop) : Ann :=
  .seq (rA 1)
  (.seq (.seq (rA 2)
  (.cond (.seq (rA 1)
  (.leaf))
  (.leaf)))
  (.seq (rA 4)
  (.leaf)))

theorem s29_ok {Ψ : AVal → Heap → Prop} {s : AVal} {h : Heap} (H : s29 Ψ s h) : ACalls prog 29 [s] h Ψ :=
  calls_of_evF func29 (by kernel_rfl) (by kernel_rfl) (by kernel_rfl)
    (Eq.mpr (by as_aux_lemma => kernel_rfl : oblF prog f29 (s29_A Ψ) Ψ = (True ∧ (True ∧ (True ∧ True) ∧ True) ∧ True ∧ True)) ⟨trivial, ⟨⟨trivial, ⟨⟨trivial, trivial⟩, trivial⟩⟩, ⟨trivial, trivial⟩⟩⟩)
    (Eq.mpr (by as_aux_lemma => kernel_rfl : evF prog f29 (s29_A Ψ) Ψ [s] h = s29 Ψ s h) H)

/- 31 dictum/dictumref17.Right -/
abbrev s31l2_T := AVal → Int → AVal → Int → Heap → Prop
def s31l2_R (F : s31l2_T) (l : List AVal) (h : Heap) : Prop := J.cons l fun x0 l => J.cons l fun v l => J.int .i64 v fun x1 => J.cons l fun x2 l => J.cons l fun v l => J.int .i64 v fun x3 => J.nil l (F x0 x1 x2 x3 h)
def s31l2_G (F : s31l2_T) (x0 : AVal) (x1 : Int) (x2 : AVal) (x3 : Int) (h : Heap) : Prop := gJ [.any, .int .i64, .any, .int .i64] [x0, (.int .i64 x1), x2, (.int .i64 x3)] h (s31l2_R F)
def s31l2_E (F : Nat → s31l2_T) (x0 : AVal) (x1 : Int) (x2 : AVal) (x3 : Int) (h : Heap) : Prop := gJ [.any, .int .i64, .any, .int .i64] [x0, (.int .i64 x1), x2, (.int .i64 x3)] h (fun l h => ∃ n, s31l2_R (F n) l h)
theorem s31l2_go {F : s31l2_T} {x0 : AVal} {x1 : Int} {x2 : AVal} {x3 : Int} {h : Heap} (H : F x0 x1 x2 x3 h) : s31l2_G F x0 x1 x2 x3 h := gJ_plain rfl H
theorem s31l2_in {F : Nat → s31l2_T} {x0 : AVal} {x1 : Int} {x2 : AVal} {x3 : Int} {h : Heap} (n : Nat) (H : F n x0 x1 x2 x3 h) : s31l2_E F x0 x1 x2 x3 h := gJ_plain rfl ⟨n, H⟩

abbrev s31l3_T := AVal → Int → AVal → Int → Heap → Prop
def s31l3_R (F : s31l3_T) (l : List AVal) (h : Heap) : Prop := J.cons l fun x0 l => J.cons l fun v l => J.int .i64 v fun x1 => J.cons l fun x2 l => J.cons l fun v l => J.int .i64 v fun x3 => J.nil l (F x0 x1 x2 x3 h)
def s31l3_G (F : s31l3_T) (x0 : AVal) (x1 : Int) (x2 : AVal) (x3 : Int) (h : Heap) : Prop := gJ [.any, .int .i64, .any, .int .i64] [x0, (.int .i64 x1), x2, (.int .i64 x3)] h (s31l3_R F)
def s31l3_E (F : Nat → s31l3_T) (x0 : AVal) (x1 : Int) (x2 : AVal) (x3 : Int) (h : Heap) : Prop := gJ [.any, .int .i64, .any, .int .i64] [x0, (.int .i64 x1), x2, (.int .i64 x3)] h (fun l h => ∃ n, s31l3_R (F n) l h)
theorem s31l3_go {F : s31l3_T} {x0 : AVal} {x1 : Int} {x2 : AVal} {x3 : Int} {h : Heap} (H : F x0 x1 x2 x3 h) : s31l3_G F x0 x1 x2 x3 h := gJ_plain rfl H
theorem s31l3_in {F : Nat → s31l3_T} {x0 : AVal} {x1 : Int} {x2 : AVal} {x3 : Int} {h : Heap} (n : Nat) (H : F n x0 x1 x2 x3 h) : s31l3_E F x0 x1 x2 x3 h := gJ_plain rfl ⟨n, H⟩

abbrev s31l4_T := AVal → Int → AVal → Int → Int → Heap → Prop
def s31l4_R (F : s31l4_T) (l : List AVal) (h : Heap) : Prop := J.cons l fun x0 l => J.cons l fun v l => J.int .i64 v fun x1 => J.cons l fun x2 l => J.cons l fun v l => J.int .i64 v fun x3 => J.cons l fun v l => J.int .i64 v fun x4 => J.nil l (F x0 x1 x2 x3 x4 h)
def s31l4_G (F : s31l4_T) (x0 : AVal) (x1 : Int) (x2 : AVal) (x3 x4 : Int) (h : Heap) : Prop := gJ [.any, .int .i64, .any, .int .i64, .int .i64] [x0, (.int .i64 x1), x2, (.int .i64 x3), (.int .i64 x4)] h (s31l4_R F)
def s31l4_E (F : Nat → s31l4_T) (x0 : AVal) (x1 : Int) (x2 : AVal) (x3 x4 : Int) (h : Heap) : Prop := gJ [.any, .int .i64, .any, .int .i64, .int .i64] [x0, (.int .i64 x1), x2, (.int .i64 x3), (.int .i64 x4)] h (fun l h => ∃ n, s31l4_R (F n) l h)
theorem s31l4_go {F : s31l4_T} {x0 : AVal} {x1 : Int} {x2 : AVal} {x3 x4 : Int} {h : Heap} (H : F x0 x1 x2 x3 x4 h) : s31l4_G F x0 x1 x2 x3 x4 h := gJ_plain rfl H
theorem s31l4_in {F : Nat → s31l4_T} {x0 : AVal} {x1 : Int} {x2 : AVal} {x3 x4 : Int} {h : Heap} (n : Nat) (H : F n x0 x1 x2 x3 x4 h) : s31l4_E F x0 x1 x2 x3 x4 h := gJ_plain rfl ⟨n, H⟩

def s31c5 (Ψ : AVal → Heap → Prop) (L3 : s31l3_T) (L4 : s31l4_T) (m4 : AVal) (n8 : Int) (o3 : AVal) (a3 b1 : Int) (h : Heap) : Prop :=
  rg (b1 + 1) (
    L4 m4 n8 o3 a3 (b1 + 1) h)

abbrev s31l7_T := AVal → Int → AVal → Int → Int → Int → Heap → Prop
def s31l7_R (F : s31l7_T) (l : List AVal) (h : Heap) : Prop := J.cons l fun x0 l => J.cons l fun v l => J.int .i64 v fun x1 => J.cons l fun x2 l => J.cons l fun v l => J.int .i64 v fun x3 => J.cons l fun v l => J.int .i64 v fun x4 => J.cons l fun v l => J.int .i64 v fun x5 => J.nil l (F x0 x1 x2 x3 x4 x5 h)
def s31l7_G (F : s31l7_T) (x0 : AVal) (x1 : Int) (x2 : AVal) (x3 x4 x5 : Int) (h : Heap) : Prop := gJ [.any, .int .i64, .any, .int .i64, .int .i64, .int .i64] [x0, (.int .i64 x1), x2, (.int .i64 x3), (.int .i64 x4), (.int .i64 x5)] h (s31l7_R F)
def s31l7_E (F : Nat → s31l7_T) (x0 : AVal) (x1 : Int) (x2 : AVal) (x3 x4 x5 : Int) (h : Heap) : Prop := gJ [.any, .int .i64, .any, .int .i64, .int .i64, .int .i64] [x0, (.int .i64 x1), x2, (.int .i64 x3), (.int .i64 x4), (.int .i64 x5)] h (fun l h => ∃ n, s31l7_R (F n) l h)
theorem s31l7_go {F : s31l7_T} {x0 : AVal} {x1 : Int} {x2 : AVal} {x3 x4 x5 : Int} {h : Heap} (H : F x0 x1 x2 x3 x4 x5 h) : s31l7_G F x0 x1 x2 x3 x4 x5 h := gJ_plain rfl H
theorem s31l7_in {F : Nat → s31l7_T} {x0 : AVal} {x1 : Int} {x2 : AVal} {x3 x4 x5 : Int} {h : Heap} (n : Nat) (H : F n x0 x1 x2 x3 x4 x5 h) : s31l7_E F x0 x1 x2 x3 x4 x5 h := gJ_plain rfl ⟨n, H⟩

def s31l7 (Ψ : AVal → Heap → Prop) (L3 : s31l3_T) (L4 : s31l4_T) : Nat → s31l7_T
  | 0, _, _, _, _, _, _, _ => False
  | n11 + 1, m6, n10, o5, a5, b3, k, h =>
    addOff m6 1 fun p4 =>
    ld1 h p4 fun v13 =>
    ixS 1 v13 a5 fun p5 =>
    ld1 h p5 fun v14 =>
    lenN v14 fun n12 =>
    ifT (decide (k < n12)) (
      addOff m6 1 fun p6 =>
      ld1 h p6 fun v15 =>
      ixS 1 v15 b3 fun p7 =>
      ld1 h p7 fun v16 =>
      addOff m6 1 fun p8 =>
      ld1 h p8 fun v17 =>
      ixS 1 v17 a5 fun p9 =>
      ld1 h p9 fun v18 =>
      ixS 1 v18 k fun p10 =>
      ld1 h p10 fun v19 =>
      tStr v19 fun v20 =>
      callG prog 61 [v16, (.str v20)] h fun v21 h_2 =>
      tBool v21 fun v22 =>
      ifT (!v22) (
        retG (.tuple [.nilsl, (.bool false)]) h_2 Ψ) (
        rg (k + 1) (
          s31l7_G (s31l7 Ψ L3 L4 n11) m6 n10 o5 a5 b3 (k + 1) h_2))) (
      s31c5 Ψ L3 L4 m6 n10 o5 a5 b3 h)

def s31c6 (Ψ : AVal → Heap → Prop) (L3 : s31l3_T) (L4 : s31l4_T) (m5 : AVal) (n9 : Int) (o4 : AVal) (a4 b2 : Int) (t68 : Bool) (h : Heap) : Prop :=
  ifT t68 (
    s31c5 Ψ L3 L4 m5 n9 o4 a4 b2 h) (
    ixS 1 o4 b2 fun p2 =>
    ld1 h p2 fun v10 =>
    ixS 1 v10 a4 fun p3 =>
    ld1 h p3 fun v11 =>
    tBool v11 fun v12 =>
    ifT v12 (
      retG (.tuple [.nilsl, (.bool false)]) h Ψ) (
      s31l7_E (s31l7 Ψ L3 L4) m5 n9 o4 a4 b2 0 h))

def s31l4 (Ψ : AVal → Heap → Prop) (L3 : s31l3_T) : Nat → s31l4_T
  | 0, _, _, _, _, _, _ => False
  | n7 + 1, m3, n6, o2, a2, b, h =>
    ifT (decide (b < n6)) (
      ixS 1 o2 a2 fun p11 =>
      ld1 h p11 fun v23 =>
      ixS 1 v23 b fun p12 =>
      ld1 h p12 fun v24 =>
      tBool v24 fun v25 =>
      ifT (!v25) (
        s31c6 Ψ L3 (s31l4_G (s31l4 Ψ L3 n7)) m3 n6 o2 a2 b true h) (
        s31c6 Ψ L3 (s31l4_G (s31l4 Ψ L3 n7)) m3 n6 o2 a2 b (a2 == b) h)) (
      rg (a2 + 1) (
        L3 m3 n6 o2 (a2 + 1) h))

def s31l3 (Ψ : AVal → Heap → Prop) : Nat → s31l3_T
  | 0, _, _, _, _, _ => False
  | n5 + 1, m2, n4, o1, a1, h =>
    ifT (decide (a1 < n4)) (
      s31l4_E (s31l4 Ψ (s31l3_G (s31l3 Ψ n5))) m2 n4 o1 a1 0 h) (
      retG (.tuple [o1, (.bool true)]) h Ψ)

def s31l2 (Ψ : AVal → Heap → Prop) : Nat → s31l2_T
  | 0, _, _, _, _, _ => False
  | n3 + 1, m1, n2, o, a, h =>
    ifT (decide (a < n2)) (
      addOff m1 1 fun p =>
      ld1 h p fun v6 =>
      ixS 1 v6 a fun p1 =>
      ld1 h p1 fun v7 =>
      callG prog 60 [v7] h fun v8 h_1 =>
      tBool v8 fun v9 =>
      ifT (!v9) (
        retG (.tuple [.nilsl, (.bool false)]) h_1 Ψ) (
        rg (a + 1) (
          s31l2_G (s31l2 Ψ n3) m1 n2 o (a + 1) h_1))) (
      s31l3_E (s31l3 Ψ) m1 n2 o 0 h)

def s31c1 (Ψ : AVal → Heap → Prop) (m : AVal) (n1 : Int) (t26 : Bool) (h : Heap) : Prop :=
  ifT t26 (
    retG (.tuple [.nilsl, (.bool false)]) h Ψ) (
    ldN 2 h m fun l_ =>
    tCons l_ fun v l_1 =>
    tCons l_1 fun v1 l_2 =>
    tNil l_2 (
      callG prog 59 [(.agg [v, v1])] h fun v2 h_ =>
      tTup v2 fun l_3 =>
      tCons l_3 fun v3 l_4 =>
      tCons l_4 fun v4 l_5 =>
      tBool v4 fun v5 =>
      tNil l_5 (
        ifT (!v5) (
          retG (.tuple [.nilsl, (.bool false)]) h_ Ψ) (
          s31l2_E (s31l2 Ψ) m n1 v3 0 h_))))

def s31 (Ψ : AVal → Heap → Prop) (m_Up : AVal) (m_Val : AVal) (h : Heap) : Prop :=
  lenN m_Up fun n =>
  ifT (decide (n < 1)) (
    s31c1 Ψ (.lptr [m_Up, m_Val]) n true h) (
    ifT (decide (512 < n)) (
      s31c1 Ψ (.lptr [m_Up, m_Val]) n true h) (
      lenN m_Val fun n17 =>
      s31c1 Ψ (.lptr [m_Up, m_Val]) n (n17 != n) h))

def s31_A (Ψ : AVal → Heap → Prop) : Ann :=
  .seq (.reg [⟨none, [(0, true), (1, false), (2, false)]⟩])
  (.seq (rA 4)
  (.seq (.cut [(1, .any), (4, .int .i64), (26, .bool)] (fun l h => J.cons l fun x0 l => J.cons l fun v l => J.int .i64 v fun x1 => J.cons l fun v l => J.bool v fun x2 => J.nil l (s31c1 Ψ x0 x1 x2 h)) (.reg [⟨none, [(0, false), (1, false), (2, false)]⟩, ⟨some (16, false), [(3, false), (4, false)]⟩, ⟨none, [(5, false), (6, false)]⟩, ⟨some (20, false), [(7, false), (8, false), (9, false), (10, false), (11, false)]⟩, ⟨none, [(12, false)]⟩])
  (.cond (.seq (rA 2)
  (.leaf))
  (.leaf)))
  (.seq (rA 7)
  (.seq (.seq (rA 2)
  (.cond (.seq (rA 2)
  (.leaf))
  (.leaf)))
  (.seq (.seq (rA 1)
  (.block (.loop [(1, .any), (4, .int .i64), (5, .any), (7, .int .i64)] (fun n l h => s31l2_R (s31l2 Ψ n) l h) (fun L2 =>
  .seq (.seq (rA 3)
  (.cond (.leaf)
  (.leaf)))
  (.seq (.block (.seq (rA 7)
  (.cond (.seq (rA 2)
  (.leaf))
  (.leaf))))
  (rA 3))))))
  (.seq (.seq (rA 1)
  (.block (.loop [(1, .any), (4, .int .i64), (5, .any), (8, .int .i64)] (fun n l h => s31l3_R (s31l3 Ψ n) l h) (fun L3 =>
  .seq (.seq (rA 3)
  (.cond (.leaf)
  (.leaf)))
  (.seq (.block (.seq (rA 1)
  (.block (.loop [(1, .any), (4, .int .i64), (5, .any), (8, .int .i64), (9, .int .i64)] (fun n l h => s31l4_R (s31l4 Ψ (fun y0 y1 y2 y3 h => L3 [y0, (.int .i64 y1), y2, (.int .i64 y3)] h) n) l h) (fun L4 =>
  .seq (.seq (rA 3)
  (.cond (.leaf)
  (.leaf)))
  (.cut [(1, .any), (4, .int .i64), (5, .any), (8, .int .i64), (9, .int .i64)] (fun l h => J.cons l fun x0 l => J.cons l fun v l => J.int .i64 v fun x1 => J.cons l fun x2 l => J.cons l fun v l => J.int .i64 v fun x3 => J.cons l fun v l => J.int .i64 v fun x4 => J.nil l (s31c5 Ψ (fun y0 y1 y2 y3 h => L3 [y0, (.int .i64 y1), y2, (.int .i64 y3)] h) (fun y0 y1 y2 y3 y4 h => L4 [y0, (.int .i64 y1), y2, (.int .i64 y3), (.int .i64 y4)] h) x0 x1 x2 x3 x4 h)) (.block (.seq (.cut [(1, .any), (4, .int .i64), (5, .any), (8, .int .i64), (9, .int .i64), (68, .bool)] (fun l h => J.cons l fun x0 l => J.cons l fun v l => J.int .i64 v fun x1 => J.cons l fun x2 l => J.cons l fun v l => J.int .i64 v fun x3 => J.cons l fun v l => J.int .i64 v fun x4 => J.cons l fun v l => J.bool v fun x5 => J.nil l (s31c6 Ψ (fun y0 y1 y2 y3 h => L3 [y0, (.int .i64 y1), y2, (.int .i64 y3)] h) (fun y0 y1 y2 y3 y4 h => L4 [y0, (.int .i64 y1), y2, (.int .i64 y3), (.int .i64 y4)] h) x0 x1 x2 x3 x4 x5 h)) (.reg [⟨none, [(0, false), (1, false), (2, false), (3, false), (4, false), (5, false), (6, false), (7, false), (8, false)]⟩, ⟨some (64, false), [(9, false), (10, false), (11, false)]⟩, ⟨none, [(12, false)]⟩])
  (.cond (.leaf)
  (.leaf)))
  (.seq (.seq (rA 7)
  (.cond (.seq (rA 2)
  (.leaf))
  (.leaf)))
  (.seq (rA 1)
  (.block (.loop [(1, .any), (4, .int .i64), (5, .any), (8, .int .i64), (9, .int .i64), (10, .int .i64)] (fun n l h => s31l7_R (s31l7 Ψ (fun y0 y1 y2 y3 h => L3 [y0, (.int .i64 y1), y2, (.int .i64 y3)] h) (fun y0 y1 y2 y3 y4 h => L4 [y0, (.int .i64 y1), y2, (.int .i64 y3), (.int .i64 y4)] h) n) l h) (fun L7 =>
  .seq (.seq (rA 8)
  (.cond (.leaf)
  (.leaf)))
  (.seq (.block (.seq (.draw [(0, false), (1, false), (2, false), (3, false), (4, false), (5, false), (6, false), (7, false), (8, false), (9, false), (10, false), (11, false), (12, false), (13, false), (14, false)] [0, 1, 0, 7, 15, 0, 32, 0, 224, 480, 0, 2016, 4064, 8191, 16383])
  (.cond (.seq (rA 2)
  (.leaf))
  (.leaf))))
  (rA 3)))))))))
  (rA 3)))))))
  (rA 3))))))
  (.seq (rA 3)
  (.leaf))))))))

theorem s31_ok {Ψ : AVal → Heap → Prop} {m_Up : AVal} {m_Val : AVal} {h : Heap} (H : s31 Ψ m_Up m_Val h) : ACalls prog 31 [(.agg [m_Up, m_Val])] h Ψ :=
  calls_of_evF func31 (by kernel_rfl) (by kernel_rfl) (by kernel_rfl)
    (Eq.mpr (by as_aux_lemma => kernel_rfl : oblF prog f31 (s31_A Ψ) Ψ = (True ∧ True ∧ ((True) ∧ (∀ (h : Heap) (x0 : AVal) (x1 : Int) (x2 : Bool), OI (s31c1 Ψ x0 x1 x2 h)) ∧ ((True ∧ True) ∧ True)) ∧ True ∧ (True ∧ (True ∧ True) ∧ True) ∧ (True ∧ (∀ (h : Heap) (x0 : AVal) (x1 : Int) (x2 : AVal) (x3 : Int), ON (s31l2 Ψ 0 x0 x1 x2 x3 h)) ∧ ∀ n2 : Nat, (∀ (h : Heap) (x0 : AVal) (x1 : Int) (x2 : AVal) (x3 : Int), OI (s31l2 Ψ (n2 + 1) x0 x1 x2 x3 h)) ∧ ((True ∧ True ∧ True) ∧ (True ∧ (True ∧ True) ∧ True) ∧ True)) ∧ (True ∧ (∀ (h : Heap) (x0 : AVal) (x1 : Int) (x2 : AVal) (x3 : Int), ON (s31l3 Ψ 0 x0 x1 x2 x3 h)) ∧ ∀ n3 : Nat, (∀ (h : Heap) (x0 : AVal) (x1 : Int) (x2 : AVal) (x3 : Int), OI (s31l3 Ψ (n3 + 1) x0 x1 x2 x3 h)) ∧ ((True ∧ True ∧ True) ∧ (True ∧ (∀ (h : Heap) (x0 : AVal) (x1 : Int) (x2 : AVal) (x3 x4 : Int), ON (s31l4 Ψ (s31l3_G (s31l3 Ψ n3)) 0 x0 x1 x2 x3 x4 h)) ∧ ∀ n4 : Nat, (∀ (h : Heap) (x0 : AVal) (x1 : Int) (x2 : AVal) (x3 x4 : Int), OI (s31l4 Ψ (s31l3_G (s31l3 Ψ n3)) (n4 + 1) x0 x1 x2 x3 x4 h)) ∧ ((True ∧ True ∧ True) ∧ (((True) ∧ (∀ (h : Heap) (x0 : AVal) (x1 : Int) (x2 : AVal) (x3 x4 : Int) (x5 : Bool), OI (s31c6 Ψ (s31l3_G (s31l3 Ψ n3)) (s31l4_G (s31l4 Ψ (s31l3_G (s31l3 Ψ n3)) n4)) x0 x1 x2 x3 x4 x5 h)) ∧ (True ∧ True)) ∧ (True ∧ (True ∧ True) ∧ True) ∧ True ∧ (∀ (h : Heap) (x0 : AVal) (x1 : Int) (x2 : AVal) (x3 x4 x5 : Int), ON (s31l7 Ψ (s31l3_G (s31l3 Ψ n3)) (s31l4_G (s31l4 Ψ (s31l3_G (s31l3 Ψ n3)) n4)) 0 x0 x1 x2 x3 x4 x5 h)) ∧ ∀ n7 : Nat, (∀ (h : Heap) (x0 : AVal) (x1 : Int) (x2 : AVal) (x3 x4 x5 : Int), OI (s31l7 Ψ (s31l3_G (s31l3 Ψ n3)) (s31l4_G (s31l4 Ψ (s31l3_G (s31l3 Ψ n3)) n4)) (n7 + 1) x0 x1 x2 x3 x4 x5 h)) ∧ ((True ∧ True ∧ True) ∧ (True ∧ (True ∧ True) ∧ True) ∧ True)) ∧ (∀ (h : Heap) (x0 : AVal) (x1 : Int) (x2 : AVal) (x3 x4 : Int), OI (s31c5 Ψ (s31l3_G (s31l3 Ψ n3)) (s31l4_G (s31l4 Ψ (s31l3_G (s31l3 Ψ n3)) n4)) x0 x1 x2 x3 x4 h)) ∧ (True))) ∧ True)) ∧ True ∧ True)) ⟨trivial, ⟨trivial, ⟨⟨trivial, fun _ _ _ _ H => H, ⟨⟨trivial, trivial⟩, trivial⟩⟩, ⟨trivial, ⟨⟨trivial, ⟨⟨trivial, trivial⟩, trivial⟩⟩, ⟨⟨trivial, ⟨fun _ _ _ _ _ H => H, fun _ => ⟨fun _ _ _ _ _ H => H, ⟨⟨trivial, ⟨trivial, trivial⟩⟩, ⟨⟨trivial, ⟨⟨trivial, trivial⟩, trivial⟩⟩, trivial⟩⟩⟩⟩⟩, ⟨⟨trivial, ⟨fun _ _ _ _ _ H => H, fun _ => ⟨fun _ _ _ _ _ H => H, ⟨⟨trivial, ⟨trivial, trivial⟩⟩, ⟨⟨trivial, ⟨fun _ _ _ _ _ _ H => H, fun _ => ⟨fun _ _ _ _ _ _ H => H, ⟨⟨trivial, ⟨trivial, trivial⟩⟩, ⟨⟨⟨trivial, fun _ _ _ _ _ _ _ H => H, ⟨trivial, trivial⟩⟩, ⟨⟨trivial, ⟨⟨trivial, trivial⟩, trivial⟩⟩, ⟨trivial, ⟨fun _ _ _ _ _ _ _ H => H, fun _ => ⟨fun _ _ _ _ _ _ _ H => H, ⟨⟨trivial, ⟨trivial, trivial⟩⟩, ⟨⟨trivial, ⟨⟨trivial, trivial⟩, trivial⟩⟩, trivial⟩⟩⟩⟩⟩⟩⟩, fun _ _ _ _ _ _ H => H, trivial⟩⟩⟩⟩⟩, trivial⟩⟩⟩⟩⟩, ⟨trivial, trivial⟩⟩⟩⟩⟩⟩⟩⟩)
    (Eq.mpr (by as_aux_lemma => kernel_rfl : evF prog f31 (s31_A Ψ) Ψ [(.agg [m_Up, m_Val])] h = s31 Ψ m_Up m_Val h) H)

/- 33 dictum/dictumref19.part -/
abbrev s33l1_T := AVal → AVal → AVal → AVal → AVal → Int → Heap → Prop
def s33l1_R (F : s33l1_T) (l : List AVal) (h : Heap) : Prop := J.cons l fun x0 l => J.cons l fun x1 l => J.cons l fun x2 l => J.cons l fun x3 l => J.cons l fun x4 l => J.cons l fun v l => J.int .i64 v fun x5 => J.nil l (F x0 x1 x2 x3 x4 x5 h)
def s33l1_G (F : s33l1_T) (x0 x1 x2 x3 x4 : AVal) (x5 : Int) (h : Heap) : Prop := gJ [.any, .any, .any, .any, .any, .int .i64] [x0, x1, x2, x3, x4, (.int .i64 x5)] h (s33l1_R F)
def s33l1_E (F : Nat → s33l1_T) (x0 x1 x2 x3 x4 : AVal) (x5 : Int) (h : Heap) : Prop := gJ [.any, .any, .any, .any, .any, .int .i64] [x0, x1, x2, x3, x4, (.int .i64 x5)] h (fun l h => ∃ n, s33l1_R (F n) l h)
theorem s33l1_go {F : s33l1_T} {x0 x1 x2 x3 x4 : AVal} {x5 : Int} {h : Heap} (H : F x0 x1 x2 x3 x4 x5 h) : s33l1_G F x0 x1 x2 x3 x4 x5 h := gJ_plain rfl H
theorem s33l1_in {F : Nat → s33l1_T} {x0 x1 x2 x3 x4 : AVal} {x5 : Int} {h : Heap} (n : Nat) (H : F n x0 x1 x2 x3 x4 x5 h) : s33l1_E F x0 x1 x2 x3 x4 x5 h := gJ_plain rfl ⟨n, H⟩

abbrev s33l2_T := AVal → AVal → AVal → AVal → AVal → Int → AVal → Int → Heap → Prop
def s33l2_R (F : s33l2_T) (l : List AVal) (h : Heap) : Prop := J.cons l fun x0 l => J.cons l fun x1 l => J.cons l fun x2 l => J.cons l fun x3 l => J.cons l fun x4 l => J.cons l fun v l => J.int .i64 v fun x5 => J.cons l fun x6 l => J.cons l fun v l => J.int .i64 v fun x7 => J.nil l (F x0 x1 x2 x3 x4 x5 x6 x7 h)
def s33l2_G (F : s33l2_T) (x0 x1 x2 x3 x4 : AVal) (x5 : Int) (x6 : AVal) (x7 : Int) (h : Heap) : Prop := gJ [.any, .any, .any, .any, .any, .int .i64, .any, .int .i64] [x0, x1, x2, x3, x4, (.int .i64 x5), x6, (.int .i64 x7)] h (s33l2_R F)
def s33l2_E (F : Nat → s33l2_T) (x0 x1 x2 x3 x4 : AVal) (x5 : Int) (x6 : AVal) (x7 : Int) (h : Heap) : Prop := gJ [.any, .any, .any, .any, .any, .int .i64, .any, .int .i64] [x0, x1, x2, x3, x4, (.int .i64 x5), x6, (.int .i64 x7)] h (fun l h => ∃ n, s33l2_R (F n) l h)
theorem s33l2_go {F : s33l2_T} {x0 x1 x2 x3 x4 : AVal} {x5 : Int} {x6 : AVal} {x7 : Int} {h : Heap} (H : F x0 x1 x2 x3 x4 x5 x6 x7 h) : s33l2_G F x0 x1 x2 x3 x4 x5 x6 x7 h := gJ_plain rfl H
theorem s33l2_in {F : Nat → s33l2_T} {x0 x1 x2 x3 x4 : AVal} {x5 : Int} {x6 : AVal} {x7 : Int} {h : Heap} (n : Nat) (H : F n x0 x1 x2 x3 x4 x5 x6 x7 h) : s33l2_E F x0 x1 x2 x3 x4 x5 x6 x7 h := gJ_plain rfl ⟨n, H⟩

def s33c3 (Ψ : AVal → Heap → Prop) (L1 : s33l1_T) (L2 : s33l2_T) (o3 l_3 m2 t6_2 out2 : AVal) (i2 : Int) (up1 : AVal) (k1 : Int) (h : Heap) : Prop :=
  rg (k1 + 1) (
    L2 o3 l_3 m2 t6_2 out2 i2 up1 (k1 + 1) h)

def s33l2 (Ψ : AVal → Heap → Prop) (L1 : s33l1_T) : Nat → s33l2_T
  | 0, _, _, _, _, _, _, _, _, _ => False
  | n2 + 1, o2, l_2, m1, t6_1, out1, i1, up, k, h =>
    lenN l_2 fun n3 =>
    ifT (decide (k < n3)) (
      ixS 1 l_2 i1 fun p =>
      ld1 h p fun v =>
      tInt .i64 v fun v1 =>
      ixS 1 o2 v1 fun p1 =>
      ld1 h p1 fun v2 =>
      ixS 1 l_2 k fun p2 =>
      ld1 h p2 fun v3 =>
      tInt .i64 v3 fun v4 =>
      ixS 1 v2 v4 fun p3 =>
      ld1 h p3 fun v5 =>
      tBool v5 fun v6 =>
      ifT v6 (
        appC 1 8 h up (.lsl 1 [(.int .i64 k)]) fun v7 h_3 =>
        s33c3 Ψ L1 (s33l2_G (s33l2 Ψ L1 n2)) o2 l_2 m1 t6_1 out1 i1 v7 k h_3) (
        s33c3 Ψ L1 (s33l2_G (s33l2 Ψ L1 n2)) o2 l_2 m1 t6_1 out1 i1 up k h)) (
      addOff out1 0 fun p4 =>
      ld1 h p4 fun v8 =>
      chk (sc up) (
        appC 1 24 h v8 (.lsl 1 [up]) fun v9 h_4 =>
        addOff out1 0 fun p5 =>
        chk (sc v9) (
          st true h_4 p5 [v9] fun h_5 =>
          addOff out1 1 fun p6 =>
          ld1 h_5 p6 fun v10 =>
          addOff m1 1 fun p7 =>
          ld1 h_5 p7 fun v11 =>
          ixS 1 l_2 i1 fun p8 =>
          ld1 h_5 p8 fun v12 =>
          tInt .i64 v12 fun v13 =>
          ixS 1 v11 v13 fun p9 =>
          ld1 h_5 p9 fun v14 =>
          chk (sc v14) (
            (ld1 h_5 p6 fun v15 =>
            v15 = v10) ∧
            appC 1 24 h_5 v10 (.lsl 1 [v14]) fun v16 h_6 =>
            addOff out1 1 fun p10 =>
            chk (sc v16) (
              st true h_6 p10 [v16] fun h_7 =>
              rg (i1 + 1) (
                L1 o2 l_2 m1 t6_1 out1 (i1 + 1) h_7))))))

def s33l1 (Ψ : AVal → Heap → Prop) : Nat → s33l1_T
  | 0, _, _, _, _, _, _, _ => False
  | n + 1, o1, l_1, m, t6, out, i, h =>
    lenN l_1 fun n1 =>
    ifT (decide (i < n1)) (
      s33l2_E (s33l2 Ψ (s33l1_G (s33l1 Ψ n))) o1 l_1 m t6 out i .nilsl 0 h) (
      ldN 2 h out fun l_4 =>
      tCons l_4 fun v17 l_5 =>
      tCons l_5 fun v18 l_6 =>
      tNil l_6 (
        callG prog 37 [(.agg [v17, v18])] h fun v19 h_8 =>
        tAgg v19 fun l_7 =>
        tCons l_7 fun v20 l_8 =>
        tCons l_8 fun v21 l_9 =>
        tNil l_9 (
          st false h_8 t6 [v20, v21] fun h_9 =>
          ldN 2 h_9 t6 fun l_10 =>
          tCons l_10 fun v22 l_11 =>
          tCons l_11 fun v23 l_12 =>
          tNil l_12 (
            retG (.agg [v22, v23]) h_9 Ψ))))

def s33 (Ψ : AVal → Heap → Prop) (m_Up : AVal) (m_Val : AVal) (o : AVal) (l_ : AVal) (h : Heap) : Prop :=
  Sym.newRow 2 [(.agg [.nilsl, .nilsl])] h fun r h_ =>
  Sym.newRow 2 [(.agg [.nilsl, .nilsl])] h_ fun r1 h_1 =>
  st false h_1 (.ptr r1 0 0) [.nilsl, .nilsl] fun h_2 =>
  s33l1_E (s33l1 Ψ) o l_ (.lptr [m_Up, m_Val]) (.ptr r 0 0) (.ptr r1 0 0) 0 h_2

def s33_A (Ψ : AVal → Heap → Prop) : Ann :=
  .seq (.reg [⟨none, [(0, true), (1, false)]⟩])
  (.seq (rA 3)
  (.seq (.seq (rA 1)
  (.block (.loop [(1, .any), (2, .any), (3, .any), (6, .any), (7, .any), (8, .int .i64)] (fun n l h => s33l1_R (s33l1 Ψ n) l h) (fun L1 =>
  .seq (.seq (rA 4)
  (.cond (.leaf)
  (.leaf)))
  (.seq (.block (.seq (rA 1)
  (.seq (.seq (rA 1)
  (.block (.loop [(1, .any), (2, .any), (3, .any), (6, .any), (7, .any), (8, .int .i64), (9, .any), (10, .int .i64)] (fun n l h => s33l2_R (s33l2 Ψ (fun y0 y1 y2 y3 y4 y5 h => L1 [y0, y1, y2, y3, y4, (.int .i64 y5)] h) n) l h) (fun L2 =>
  .seq (.seq (rA 4)
  (.cond (.leaf)
  (.leaf)))
  (.cut [(1, .any), (2, .any), (3, .any), (6, .any), (7, .any), (8, .int .i64), (9, .any), (10, .int .i64)] (fun l h => J.cons l fun x0 l => J.cons l fun x1 l => J.cons l fun x2 l => J.cons l fun x3 l => J.cons l fun x4 l => J.cons l fun v l => J.int .i64 v fun x5 => J.cons l fun x6 l => J.cons l fun v l => J.int .i64 v fun x7 => J.nil l (s33c3 Ψ (fun y0 y1 y2 y3 y4 y5 h => L1 [y0, y1, y2, y3, y4, (.int .i64 y5)] h) (fun y0 y1 y2 y3 y4 y5 y6 y7 h => L2 [y0, y1, y2, y3, y4, (.int .i64 y5), y6, (.int .i64 y7)] h) x0 x1 x2 x3 x4 x5 x6 x7 h)) (.block (.seq (.draw [(0, false), (1, false), (2, false), (3, false), (4, false), (5, false), (6, false), (7, false), (8, false), (9, false), (10, false), (11, false), (12, false)] [0, 0, 0, 6, 14, 31, 63, 0, 0, 384, 896, 2047, 4095])
  (.cond (.reg [⟨none, [(0, false), (1, false), (2, true), (3, false), (4, false)]⟩])
  (.leaf))))
  (rA 3))))))
  (.seq (.reg [⟨none, [(0, false), (1, false), (2, false), (3, true), (4, false), (5, false), (6, false)]⟩])
  (.draw [(0, false), (1, false), (2, false), (3, false), (4, false), (5, false), (6, false), (7, false), (8, false), (9, false), (10, true), (11, false), (12, false), (13, false)] [0, 1, 0, 4, 0, 0, 48, 112, 252, 508, 1020, 2047, 4095, 8191])))))
  (rA 3))))))
  (.seq (rA 3)
  (.leaf))))

theorem s33_ok {Ψ : AVal → Heap → Prop} {m_Up : AVal} {m_Val : AVal} {o : AVal} {l_ : AVal} {h : Heap} (H : s33 Ψ m_Up m_Val o l_ h) : ACalls prog 33 [(.agg [m_Up, m_Val]), o, l_] h Ψ :=
  calls_of_evF func33 (by kernel_rfl) (by kernel_rfl) (by kernel_rfl)
    (Eq.mpr (by as_aux_lemma => kernel_rfl : oblF prog f33 (s33_A Ψ) Ψ = (True ∧ True ∧ (True ∧ (∀ (h : Heap) (x0 x1 x2 x3 x4 : AVal) (x5 : Int), ON (s33l1 Ψ 0 x0 x1 x2 x3 x4 x5 h)) ∧ ∀ n1 : Nat, (∀ (h : Heap) (x0 x1 x2 x3 x4 : AVal) (x5 : Int), OI (s33l1 Ψ (n1 + 1) x0 x1 x2 x3 x4 x5 h)) ∧ ((True ∧ True ∧ True) ∧ (True ∧ (True ∧ (∀ (h : Heap) (x0 x1 x2 x3 x4 : AVal) (x5 : Int) (x6 : AVal) (x7 : Int), ON (s33l2 Ψ (s33l1_G (s33l1 Ψ n1)) 0 x0 x1 x2 x3 x4 x5 x6 x7 h)) ∧ ∀ n2 : Nat, (∀ (h : Heap) (x0 x1 x2 x3 x4 : AVal) (x5 : Int) (x6 : AVal) (x7 : Int), OI (s33l2 Ψ (s33l1_G (s33l1 Ψ n1)) (n2 + 1) x0 x1 x2 x3 x4 x5 x6 x7 h)) ∧ ((True ∧ True ∧ True) ∧ (True ∧ True ∧ True) ∧ (∀ (h : Heap) (x0 x1 x2 x3 x4 : AVal) (x5 : Int) (x6 : AVal) (x7 : Int), OI (s33c3 Ψ (s33l1_G (s33l1 Ψ n1)) (s33l2_G (s33l2 Ψ (s33l1_G (s33l1 Ψ n1)) n2)) x0 x1 x2 x3 x4 x5 x6 x7 h)) ∧ (True))) ∧ True ∧ True) ∧ True)) ∧ True ∧ True)) ⟨trivial, ⟨trivial, ⟨⟨trivial, ⟨fun _ _ _ _ _ _ _ H => H, fun _ => ⟨fun _ _ _ _ _ _ _ H => H, ⟨⟨trivial, ⟨trivial, trivial⟩⟩, ⟨⟨trivial, ⟨⟨trivial, ⟨fun _ _ _ _ _ _ _ _ _ H => H, fun _ => ⟨fun _ _ _ _ _ _ _ _ _ H => H, ⟨⟨trivial, ⟨trivial, trivial⟩⟩, ⟨⟨trivial, ⟨trivial, trivial⟩⟩, fun _ _ _ _ _ _ _ _ _ H => H, trivial⟩⟩⟩⟩⟩, ⟨trivial, trivial⟩⟩⟩, trivial⟩⟩⟩⟩⟩, ⟨trivial, trivial⟩⟩⟩⟩)
    (Eq.mpr (by as_aux_lemma => kernel_rfl : evF prog f33 (s33_A Ψ) Ψ [(.agg [m_Up, m_Val]), o, l_] h = s33 Ψ m_Up m_Val o l_ h) H)

/- 35 slices.Clone[[]string,string] -/
def s35 (Ψ : AVal → Heap → Prop) (s : AVal) (h : Heap) : Prop :=
  nilS s fun b =>
  ifT b (
    retG .nilsl h Ψ) (
    Sym.newRow 1 [] h fun r h_ =>
    appC 1 16 h_ (.sl r 1 0 0) s fun v h_1 =>
    retG v h_1 Ψ)

def s35_A (Ψ : AVal → Heap → Prop) : Ann :=
  .seq (rA 1)
  (.seq (.seq (rA 2)
  (.cond (.seq (rA 1)
  (.leaf))
  (.leaf)))
  (.seq (rA 4)
  (.leaf)))

theorem s35_ok {Ψ : AVal → Heap → Prop} {s : AVal} {h : Heap} (H : s35 Ψ s h) : ACalls prog 35 [s] h Ψ :=
  calls_of_evF func35 (by kernel_rfl) (by kernel_rfl) (by kernel_rfl)
    (Eq.mpr (by as_aux_lemma => kernel_rfl : oblF prog f35 (s35_A Ψ) Ψ = (True ∧ (True ∧ (True ∧ True) ∧ True) ∧ True ∧ True)) ⟨trivial, ⟨⟨trivial, ⟨⟨trivial, trivial⟩, trivial⟩⟩, ⟨trivial, trivial⟩⟩⟩)
    (Eq.mpr (by as_aux_lemma => kernel_rfl : evF prog f35 (s35_A Ψ) Ψ [s] h = s35 Ψ s h) H)

/- 37 dictum/dictumref19.tidy -/
def s37 (Ψ : AVal → Heap → Prop) (m_Up : AVal) (m_Val : AVal) (h : Heap) : Prop :=
  Sym.newRow 2 [(.agg [.nilsl, .nilsl])] h fun r h_ =>
  callG prog 65 [(.agg [m_Up, m_Val])] h_ fun v h_1 =>
  tTup v fun l_ =>
  tCons l_ fun v1 l_1 =>
  tCons l_1 fun v2 l_2 =>
  tInt .i64 v2 fun v3 =>
  tNil l_2 (
    tAgg v1 fun l_3 =>
    tCons l_3 fun v4 l_4 =>
    tCons l_4 fun v5 l_5 =>
    tNil l_5 (
      Sym.newRow 2 [(.agg [.nilsl, .nilsl])] h_1 fun r1 h_2 =>
      st false h_2 (.ptr r1 0 0) [v4, v5] fun h_3 =>
      ldN 2 h_3 (.ptr r1 0 0) fun l_6 =>
      tCons l_6 fun v6 l_7 =>
      tCons l_7 fun v7 l_8 =>
      tNil l_8 (
        st false h_3 (.ptr r 0 0) [v6, v7] fun h_4 =>
        ldN 2 h_4 (.ptr r 0 0) fun l_9 =>
        tCons l_9 fun v8 l_10 =>
        tCons l_10 fun v9 l_11 =>
        tNil l_11 (
          retG (.agg [v8, v9]) h_4 Ψ))))

def s37_A (Ψ : AVal → Heap → Prop) : Ann :=
  .seq (.reg [⟨none, [(0, true), (1, false)]⟩])
  (.seq (rA 8)
  (.seq (rA 2)
  (.leaf)))

theorem s37_ok {Ψ : AVal → Heap → Prop} {m_Up : AVal} {m_Val : AVal} {h : Heap} (H : s37 Ψ m_Up m_Val h) : ACalls prog 37 [(.agg [m_Up, m_Val])] h Ψ :=
  calls_of_evF func37 (by kernel_rfl) (by kernel_rfl) (by kernel_rfl)
    (Eq.mpr (by as_aux_lemma => kernel_rfl : oblF prog f37 (s37_A Ψ) Ψ = (True ∧ True ∧ True ∧ True)) ⟨trivial, ⟨trivial, ⟨trivial, trivial⟩⟩⟩)
    (Eq.mpr (by as_aux_lemma => kernel_rfl : evF prog f37 (s37_A Ψ) Ψ [(.agg [m_Up, m_Val])] h = s37 Ψ m_Up m_Val h) H)

/- 39 dictum/worlds.Tidy -/
abbrev s39l1_T := AVal → AVal → AVal → AVal → Int → Int → Heap → Prop
def s39l1_R (F : s39l1_T) (l : List AVal) (h : Heap) : Prop := J.cons l fun x0 l => J.cons l fun x1 l => J.cons l fun x2 l => J.cons l fun x3 l => J.cons l fun v l => J.int .i64 v fun x4 => J.cons l fun v l => J.int .i64 v fun x5 => J.nil l (F x0 x1 x2 x3 x4 x5 h)
def s39l1_G (F : s39l1_T) (x0 x1 x2 x3 : AVal) (x4 x5 : Int) (h : Heap) : Prop := gJ [.any, .any, .any, .any, .int .i64, .int .i64] [x0, x1, x2, x3, (.int .i64 x4), (.int .i64 x5)] h (s39l1_R F)
def s39l1_E (F : Nat → s39l1_T) (x0 x1 x2 x3 : AVal) (x4 x5 : Int) (h : Heap) : Prop := gJ [.any, .any, .any, .any, .int .i64, .int .i64] [x0, x1, x2, x3, (.int .i64 x4), (.int .i64 x5)] h (fun l h => ∃ n, s39l1_R (F n) l h)
theorem s39l1_go {F : s39l1_T} {x0 x1 x2 x3 : AVal} {x4 x5 : Int} {h : Heap} (H : F x0 x1 x2 x3 x4 x5 h) : s39l1_G F x0 x1 x2 x3 x4 x5 h := gJ_plain rfl H
theorem s39l1_in {F : Nat → s39l1_T} {x0 x1 x2 x3 : AVal} {x4 x5 : Int} {h : Heap} (n : Nat) (H : F n x0 x1 x2 x3 x4 x5 h) : s39l1_E F x0 x1 x2 x3 x4 x5 h := gJ_plain rfl ⟨n, H⟩

abbrev s39l2_T := AVal → AVal → AVal → AVal → AVal → AVal → AVal → Int → Int → AVal → Int → Int → Heap → Prop
def s39l2_R (F : s39l2_T) (l : List AVal) (h : Heap) : Prop := J.cons l fun x0 l => J.cons l fun x1 l => J.cons l fun x2 l => J.cons l fun x3 l => J.cons l fun x4 l => J.cons l fun x5 l => J.cons l fun x6 l => J.cons l fun v l => J.int .i64 v fun x7 => J.cons l fun v l => J.int .i64 v fun x8 => J.cons l fun x9 l => J.cons l fun v l => J.int .i64 v fun x10 => J.cons l fun v l => J.int .i64 v fun x11 => J.nil l (F x0 x1 x2 x3 x4 x5 x6 x7 x8 x9 x10 x11 h)
def s39l2_G (F : s39l2_T) (x0 x1 x2 x3 x4 x5 x6 : AVal) (x7 x8 : Int) (x9 : AVal) (x10 x11 : Int) (h : Heap) : Prop := gJ [.any, .any, .any, .any, .any, .any, .any, .int .i64, .int .i64, .any, .int .i64, .int .i64] [x0, x1, x2, x3, x4, x5, x6, (.int .i64 x7), (.int .i64 x8), x9, (.int .i64 x10), (.int .i64 x11)] h (s39l2_R F)
def s39l2_E (F : Nat → s39l2_T) (x0 x1 x2 x3 x4 x5 x6 : AVal) (x7 x8 : Int) (x9 : AVal) (x10 x11 : Int) (h : Heap) : Prop := gJ [.any, .any, .any, .any, .any, .any, .any, .int .i64, .int .i64, .any, .int .i64, .int .i64] [x0, x1, x2, x3, x4, x5, x6, (.int .i64 x7), (.int .i64 x8), x9, (.int .i64 x10), (.int .i64 x11)] h (fun l h => ∃ n, s39l2_R (F n) l h)
theorem s39l2_go {F : s39l2_T} {x0 x1 x2 x3 x4 x5 x6 : AVal} {x7 x8 : Int} {x9 : AVal} {x10 x11 : Int} {h : Heap} (H : F x0 x1 x2 x3 x4 x5 x6 x7 x8 x9 x10 x11 h) : s39l2_G F x0 x1 x2 x3 x4 x5 x6 x7 x8 x9 x10 x11 h := gJ_plain rfl H
theorem s39l2_in {F : Nat → s39l2_T} {x0 x1 x2 x3 x4 x5 x6 : AVal} {x7 x8 : Int} {x9 : AVal} {x10 x11 : Int} {h : Heap} (n : Nat) (H : F n x0 x1 x2 x3 x4 x5 x6 x7 x8 x9 x10 x11 h) : s39l2_E F x0 x1 x2 x3 x4 x5 x6 x7 x8 x9 x10 x11 h := gJ_plain rfl ⟨n, H⟩

def s39c3 (Ψ : AVal → Heap → Prop) (L1 : s39l1_T) (L2 : s39l2_T) (m2 t2_2 leq2 out2 a1 next1 row1 : AVal) (t24_2 t25_2 : Int) (t32_1 : AVal) (t33_1 t34_1 : Int) (h : Heap) : Prop :=
  rg (t34_1 + 1) (
    L2 m2 t2_2 leq2 out2 a1 next1 row1 t24_2 t25_2 t32_1 t33_1 (t34_1 + 1) h)

def s39l2 (Ψ : AVal → Heap → Prop) (L1 : s39l1_T) : Nat → s39l2_T
  | 0, _, _, _, _, _, _, _, _, _, _, _, _, _ => False
  | n3 + 1, m1, t2_1, leq1, out1, a, next, row, t24_1, t25_1, t32, t33, t34, h =>
    ifT (decide (t34 < t33)) (
      ixS 1 t32 t34 fun p =>
      ld1 h p fun v10 =>
      tInt .i64 v10 fun v11 =>
      callV prog next [(.int .i64 v11)] h fun v12 h_11 =>
      tBool v12 fun v13 =>
      ifT v13 (
        appC 1 8 h_11 row (.lsl 1 [(.int .i64 v11)]) fun v14 h_12 =>
        s39c3 Ψ L1 (s39l2_G (s39l2 Ψ L1 n3)) m1 t2_1 leq1 out1 a next v14 t24_1 t25_1 t32 t33 t34 h_12) (
        s39c3 Ψ L1 (s39l2_G (s39l2 Ψ L1 n3)) m1 t2_1 leq1 out1 a next row t24_1 t25_1 t32 t33 t34 h_11)) (
      addOff out1 0 fun p1 =>
      ld1 h p1 fun v15 =>
      chk (sc row) (
        appC 1 24 h v15 (.lsl 1 [row]) fun v16 h_13 =>
        addOff out1 0 fun p2 =>
        chk (sc v16) (
          st true h_13 p2 [v16] fun h_14 =>
          addOff out1 1 fun p3 =>
          ld1 h_14 p3 fun v17 =>
          addOff m1 1 fun p4 =>
          ld1 h_14 p4 fun v18 =>
          ld1 h_14 a fun v19 =>
          tInt .i64 v19 fun v20 =>
          ixS 1 v18 v20 fun p5 =>
          ld1 h_14 p5 fun v21 =>
          callG prog 35 [v21] h_14 fun v22 h_15 =>
          (ld1 h_15 p3 fun v23 =>
          v23 = v17) ∧
          chk (sc v22) (
            (ld1 h_15 p3 fun v24 =>
            v24 = v17) ∧
            appC 1 24 h_15 v17 (.lsl 1 [v22]) fun v25 h_16 =>
            addOff out1 1 fun p6 =>
            chk (sc v25) (
              st true h_16 p6 [v25] fun h_17 =>
              rg (t25_1 + 1) (
                L1 m1 t2_1 leq1 out1 t24_1 (t25_1 + 1) h_17))))))

def s39l1 (Ψ : AVal → Heap → Prop) : Nat → s39l1_T
  | 0, _, _, _, _, _, _, _ => False
  | n1 + 1, m, t2, leq, out, t24, t25, h =>
    ifT (decide (t25 < t24)) (
      Sym.newRow 1 [(.int .i64 0)] h fun r3 h_6 =>
      st true h_6 (.ptr r3 0 0) [(.int .i64 t25)] fun h_7 =>
      ldN 2 h_7 m fun l_6 =>
      tCons l_6 fun v6 l_7 =>
      tCons l_7 fun v7 l_8 =>
      tNil l_8 (
        callG prog 68 [(.agg [v6, v7]), (.func (.func 69) [] [(.ptr r3 0 0), leq])] h_7 fun v8 h_8 =>
        Sym.newRow 1 [.nilsl] h_8 fun r4 h_9 =>
        chk (sc v8) (
          st true h_9 (.ptr r4 0 0) [v8] fun h_10 =>
          ld1 h_10 (.ptr r4 0 0) fun v9 =>
          lenN v9 fun n2 =>
          s39l2_E (s39l2 Ψ (s39l1_G (s39l1 Ψ n1))) m t2 leq out (.ptr r3 0 0) (.func (.func 70) [] [(.ptr r4 0 0), leq]) .nilsl t24 t25 v9 n2 0 h_10))) (
      ldN 2 h out fun l_9 =>
      tCons l_9 fun v26 l_10 =>
      tCons l_10 fun v27 l_11 =>
      tNil l_11 (
        st false h t2 [v26, v27] fun h_18 =>
        ldN 2 h_18 t2 fun l_12 =>
        tCons l_12 fun v28 l_13 =>
        tCons l_13 fun v29 l_14 =>
        tNil l_14 (
          retG (.tuple [(.agg [v28, v29]), (.int .i64 0)]) h_18 Ψ)))

def s39 (Ψ : AVal → Heap → Prop) (m_Up : AVal) (m_Val : AVal) (h : Heap) : Prop :=
  Sym.newRow 2 [(.agg [.nilsl, .nilsl])] h fun r h_ =>
  callG prog 67 [(.agg [m_Up, m_Val]), .nilsl] h_ fun v h_1 =>
  tTup v fun l_ =>
  tCons l_ fun v1 l_1 =>
  tCons l_1 fun v2 l_2 =>
  tInt .i64 v2 fun v3 =>
  tNil l_2 (
    Sym.newRow 1 [.nilfunc] h_1 fun r1 h_2 =>
    chk (sc v1) (
      st true h_2 (.ptr r1 0 0) [v1] fun h_3 =>
      ifT (v3 != 0) (
        st false h_3 (.ptr r 0 0) [.nilsl, .nilsl] fun h_4 =>
        ldN 2 h_4 (.ptr r 0 0) fun l_3 =>
        tCons l_3 fun v4 l_4 =>
        tCons l_4 fun v5 l_5 =>
        tNil l_5 (
          retG (.tuple [(.agg [v4, v5]), (.int .i64 v3)]) h_4 Ψ)) (
        Sym.newRow 2 [(.agg [.nilsl, .nilsl])] h_3 fun r2 h_5 =>
        lenN m_Up fun n =>
        s39l1_E (s39l1 Ψ) (.lptr [m_Up, m_Val]) (.ptr r 0 0) (.ptr r1 0 0) (.ptr r2 0 0) n 0 h_5)))

def s39_A (Ψ : AVal → Heap → Prop) : Ann :=
  .seq (.reg [⟨none, [(0, true), (1, false), (2, false)]⟩])
  (.seq (rA 8)
  (.seq (.seq (rA 2)
  (.cond (.seq (rA 4)
  (.leaf))
  (.leaf)))
  (.seq (rA 1)
  (.seq (.seq (rA 4)
  (.block (.loop [(1, .any), (2, .any), (4, .any), (6, .any), (24, .int .i64), (25, .int .i64)] (fun n l h => s39l1_R (s39l1 Ψ n) l h) (fun L1 =>
  .seq (rA 1)
  (.seq (.cond (.leaf)
  (.leaf))
  (.seq (.block (.seq (rA 3)
  (.seq (rA 5)
  (.seq (rA 2)
  (.seq (rA 1)
  (.seq (.seq (rA 3)
  (.block (.loop [(1, .any), (2, .any), (4, .any), (6, .any), (7, .any), (9, .any), (10, .any), (24, .int .i64), (25, .int .i64), (32, .any), (33, .int .i64), (34, .int .i64)] (fun n l h => s39l2_R (s39l2 Ψ (fun y0 y1 y2 y3 y4 y5 h => L1 [y0, y1, y2, y3, (.int .i64 y4), (.int .i64 y5)] h) n) l h) (fun L2 =>
  .seq (rA 1)
  (.seq (.cond (.leaf)
  (.leaf))
  (.cut [(1, .any), (2, .any), (4, .any), (6, .any), (7, .any), (9, .any), (10, .any), (24, .int .i64), (25, .int .i64), (32, .any), (33, .int .i64), (34, .int .i64)] (fun l h => J.cons l fun x0 l => J.cons l fun x1 l => J.cons l fun x2 l => J.cons l fun x3 l => J.cons l fun x4 l => J.cons l fun x5 l => J.cons l fun x6 l => J.cons l fun v l => J.int .i64 v fun x7 => J.cons l fun v l => J.int .i64 v fun x8 => J.cons l fun x9 l => J.cons l fun v l => J.int .i64 v fun x10 => J.cons l fun v l => J.int .i64 v fun x11 => J.nil l (s39c3 Ψ (fun y0 y1 y2 y3 y4 y5 h => L1 [y0, y1, y2, y3, (.int .i64 y4), (.int .i64 y5)] h) (fun y0 y1 y2 y3 y4 y5 y6 y7 y8 y9 y10 y11 h => L2 [y0, y1, y2, y3, y4, y5, y6, (.int .i64 y7), (.int .i64 y8), y9, (.int .i64 y10), (.int .i64 y11)] h) x0 x1 x2 x3 x4 x5 x6 x7 x8 x9 x10 x11 h)) (.block (.seq (rA 3)
  (.seq (rA 3)
  (.cond (.reg [⟨none, [(0, false), (1, false), (2, true), (3, false), (4, false)]⟩])
  (.leaf)))))
  (rA 2)))))))
  (.seq (.reg [⟨none, [(0, false), (1, false), (2, false), (3, true), (4, false), (5, false), (6, false)]⟩])
  (.draw [(0, false), (1, false), (2, false), (3, false), (4, false), (5, false), (6, false), (7, false), (8, true), (9, false), (10, false), (11, false)] [0, 1, 0, 4, 0, 28, 60, 124, 252, 511, 1023, 2047]))))))))
  (rA 2)))))))
  (.seq (rA 3)
  (.leaf))))))

theorem s39_ok {Ψ : AVal → Heap → Prop} {m_Up : AVal} {m_Val : AVal} {h : Heap} (H : s39 Ψ m_Up m_Val h) : ACalls prog 39 [(.agg [m_Up, m_Val])] h Ψ :=
  calls_of_evF func39 (by kernel_rfl) (by kernel_rfl) (by kernel_rfl)
    (Eq.mpr (by as_aux_lemma => kernel_rfl : oblF prog f39 (s39_A Ψ) Ψ = (True ∧ True ∧ (True ∧ (True ∧ True) ∧ True) ∧ True ∧ (True ∧ (∀ (h : Heap) (x0 x1 x2 x3 : AVal) (x4 x5 : Int), ON (s39l1 Ψ 0 x0 x1 x2 x3 x4 x5 h)) ∧ ∀ n1 : Nat, (∀ (h : Heap) (x0 x1 x2 x3 : AVal) (x4 x5 : Int), OI (s39l1 Ψ (n1 + 1) x0 x1 x2 x3 x4 x5 h)) ∧ (True ∧ (True ∧ True) ∧ (True ∧ True ∧ True ∧ True ∧ (True ∧ (∀ (h : Heap) (x0 x1 x2 x3 x4 x5 x6 : AVal) (x7 x8 : Int) (x9 : AVal) (x10 x11 : Int), ON (s39l2 Ψ (s39l1_G (s39l1 Ψ n1)) 0 x0 x1 x2 x3 x4 x5 x6 x7 x8 x9 x10 x11 h)) ∧ ∀ n2 : Nat, (∀ (h : Heap) (x0 x1 x2 x3 x4 x5 x6 : AVal) (x7 x8 : Int) (x9 : AVal) (x10 x11 : Int), OI (s39l2 Ψ (s39l1_G (s39l1 Ψ n1)) (n2 + 1) x0 x1 x2 x3 x4 x5 x6 x7 x8 x9 x10 x11 h)) ∧ (True ∧ (True ∧ True) ∧ (True ∧ True ∧ True ∧ True) ∧ (∀ (h : Heap) (x0 x1 x2 x3 x4 x5 x6 : AVal) (x7 x8 : Int) (x9 : AVal) (x10 x11 : Int), OI (s39c3 Ψ (s39l1_G (s39l1 Ψ n1)) (s39l2_G (s39l2 Ψ (s39l1_G (s39l1 Ψ n1)) n2)) x0 x1 x2 x3 x4 x5 x6 x7 x8 x9 x10 x11 h)) ∧ (True))) ∧ True ∧ True) ∧ True)) ∧ True ∧ True)) ⟨trivial, ⟨trivial, ⟨⟨trivial, ⟨⟨trivial, trivial⟩, trivial⟩⟩, ⟨trivial, ⟨⟨trivial, ⟨fun _ _ _ _ _ _ _ H => H, fun _ => ⟨fun _ _ _ _ _ _ _ H => H, ⟨trivial, ⟨⟨trivial, trivial⟩, ⟨⟨trivial, ⟨trivial, ⟨trivial, ⟨trivial, ⟨⟨trivial, ⟨fun _ _ _ _ _ _ _ _ _ _ _ _ _ H => H, fun _ => ⟨fun _ _ _ _ _ _ _ _ _ _ _ _ _ H => H, ⟨trivial, ⟨⟨trivial, trivial⟩, ⟨⟨trivial, ⟨trivial, ⟨trivial, trivial⟩⟩⟩, fun _ _ _ _ _ _ _ _ _ _ _ _ _ H => H, trivial⟩⟩⟩⟩⟩⟩, ⟨trivial, trivial⟩⟩⟩⟩⟩⟩, trivial⟩⟩⟩⟩⟩⟩, ⟨trivial, trivial⟩⟩⟩⟩⟩⟩)
    (Eq.mpr (by as_aux_lemma => kernel_rfl : evF prog f39 (s39_A Ψ) Ψ [(.agg [m_Up, m_Val])] h = s39 Ψ m_Up m_Val h) H)

/- 42 dictum/formula.Word -/
abbrev s42l1_T := ByteArray → Int → Int → Heap → Prop
def s42l1_R (F : s42l1_T) (l : List AVal) (h : Heap) : Prop := J.cons l fun v l => J.str v fun x0 => J.cons l fun v l => J.int .i64 v fun x1 => J.cons l fun v l => J.int .i64 v fun x2 => J.nil l (F x0 x1 x2 h)
def s42l1_G (F : s42l1_T) (x0 : ByteArray) (x1 x2 : Int) (h : Heap) : Prop := gJ [.str, .int .i64, .int .i64] [(.str x0), (.int .i64 x1), (.int .i64 x2)] h (s42l1_R F)
def s42l1_E (F : Nat → s42l1_T) (x0 : ByteArray) (x1 x2 : Int) (h : Heap) : Prop := gJ [.str, .int .i64, .int .i64] [(.str x0), (.int .i64 x1), (.int .i64 x2)] h (fun l h => ∃ n, s42l1_R (F n) l h)
theorem s42l1_go {F : s42l1_T} {x0 : ByteArray} {x1 x2 : Int} {h : Heap} (H : F x0 x1 x2 h) : s42l1_G F x0 x1 x2 h := gJ_plain rfl H
theorem s42l1_in {F : Nat → s42l1_T} {x0 : ByteArray} {x1 x2 : Int} {h : Heap} (n : Nat) (H : F n x0 x1 x2 h) : s42l1_E F x0 x1 x2 h := gJ_plain rfl ⟨n, H⟩

def s42c3 (Ψ : AVal → Heap → Prop) (L1 : s42l1_T) (name3 : ByteArray) (t8_2 t9_2 : Int) (t44 : Bool) (h : Heap) : Prop :=
  ifT t44 (
    retG (.bool false) h Ψ) (
    rg (t9_2 + 1) (
      L1 name3 t8_2 (t9_2 + 1) h))

def s42c2 (Ψ : AVal → Heap → Prop) (L1 : s42l1_T) (name2 : ByteArray) (i c : Int) (letter : Bool) (t8_1 t9_1 : Int) (h : Heap) : Prop :=
  ifT (!letter) (
    ifT (i == 0) (
      s42c3 Ψ L1 name2 t8_1 t9_1 true h) (
      ifT (c != 95) (
        ifT (c != 39) (
          ifT (decide (c < 48)) (
            s42c3 Ψ L1 name2 t8_1 t9_1 true h) (
            s42c3 Ψ L1 name2 t8_1 t9_1 (decide (57 < c)) h)) (
          s42c3 Ψ L1 name2 t8_1 t9_1 false h)) (
        s42c3 Ψ L1 name2 t8_1 t9_1 false h))) (
    s42c3 Ψ L1 name2 t8_1 t9_1 false h)

def s42l1 (Ψ : AVal → Heap → Prop) : Nat → s42l1_T
  | 0, _, _, _, _ => False
  | n + 1, name1, t8, t9, h =>
    ifT (decide (t9 < t8)) (
      ((0 : Int) ≤ t9 ∧ t9 < (name1.size : Int)) ∧
      ifT (decide (97 ≤ (bitsI .or .u8 (btA name1 t9) 32))) (
        s42c2 Ψ (s42l1_G (s42l1 Ψ n)) name1 t9 (btA name1 t9) (decide ((bitsI .or .u8 (btA name1 t9) 32) ≤ 122)) t8 t9 h) (
        s42c2 Ψ (s42l1_G (s42l1 Ψ n)) name1 t9 (btA name1 t9) false t8 t9 h)) (
      ifT (!strEq name1 (ByteArray.mk #[])) (
        ifT (decide ((name1.size : Int) ≤ 31)) (
          callG prog 72 [(.str name1)] h fun v h_ =>
          tBool v fun v1 =>
          retG (.bool (!v1)) h_ Ψ) (
          retG (.bool false) h Ψ)) (
        retG (.bool false) h Ψ))

def s42 (Ψ : AVal → Heap → Prop) (name : ByteArray) (h : Heap) : Prop :=
  s42l1_E (s42l1 Ψ) name (name.size : Int) 0 h

def s42_A (Ψ : AVal → Heap → Prop) : Ann :=
  .seq (rA 1)
  (.seq (.seq (rA 3)
  (.block (.loop [(0, .str), (8, .int .i64), (9, .int .i64)] (fun n l h => s42l1_R (s42l1 Ψ n) l h) (fun L1 =>
  .seq (rA 1)
  (.seq (.cond (.leaf)
  (.leaf))
  (.seq (.block (.seq (rA 2)
  (.seq (rA 4)
  (.seq (rA 3)
  (.cut [(0, .str), (3, .int .i64), (4, .int .u8), (6, .bool), (8, .int .i64), (9, .int .i64)] (fun l h => J.cons l fun v l => J.str v fun x0 => J.cons l fun v l => J.int .i64 v fun x1 => J.cons l fun v l => J.int .u8 v fun x2 => J.cons l fun v l => J.bool v fun x3 => J.cons l fun v l => J.int .i64 v fun x4 => J.cons l fun v l => J.int .i64 v fun x5 => J.nil l (s42c2 Ψ (fun y0 y1 y2 h => L1 [(.str y0), (.int .i64 y1), (.int .i64 y2)] h) x0 x1 x2 x3 x4 x5 h)) (.reg [⟨none, [(0, false), (1, false), (2, false)]⟩, ⟨some (19, true), [(3, false), (4, false)]⟩, ⟨none, [(5, false), (6, false)]⟩])
  (.cut [(0, .str), (8, .int .i64), (9, .int .i64), (44, .bool)] (fun l h => J.cons l fun v l => J.str v fun x0 => J.cons l fun v l => J.int .i64 v fun x1 => J.cons l fun v l => J.int .i64 v fun x2 => J.cons l fun v l => J.bool v fun x3 => J.nil l (s42c3 Ψ (fun y0 y1 y2 h => L1 [(.str y0), (.int .i64 y1), (.int .i64 y2)] h) x0 x1 x2 x3 h)) (.reg [⟨none, [(0, false), (1, false), (2, false)]⟩, ⟨some (25, true), [(3, false), (4, false), (5, false)]⟩, ⟨some (28, false), [(6, false), (7, false), (8, false)]⟩, ⟨some (31, true), [(9, false), (10, false)]⟩, ⟨some (28, false), [(11, false), (12, false)]⟩, ⟨some (35, true), [(13, false), (14, false), (15, false)]⟩, ⟨some (38, false), [(16, false), (17, false)]⟩, ⟨some (35, true), [(18, false)]⟩, ⟨some (28, false), [(19, false)]⟩, ⟨some (25, true), [(20, false)]⟩, ⟨none, [(21, false)]⟩])
  (.cond (.seq (rA 1)
  (.leaf))
  (.leaf))))))))
  (rA 2)))))))
  (.seq (.reg [⟨none, [(0, false), (1, false), (2, false)]⟩, ⟨some (48, true), [(3, false), (4, false), (5, false)]⟩, ⟨none, [(6, false), (7, false)]⟩, ⟨some (53, true), [(8, false), (9, false), (10, false)]⟩, ⟨none, [(11, false), (12, false)]⟩])
  (.leaf)))

theorem s42_ok {Ψ : AVal → Heap → Prop} {name : ByteArray} {h : Heap} (H : s42 Ψ name h) : ACalls prog 42 [(.str name)] h Ψ :=
  calls_of_evF func42 (by kernel_rfl) (by kernel_rfl) (by kernel_rfl)
    (Eq.mpr (by as_aux_lemma => kernel_rfl : oblF prog f42 (s42_A Ψ) Ψ = (True ∧ (True ∧ (∀ (h : Heap) (x0 : ByteArray) (x1 x2 : Int), ON (s42l1 Ψ 0 x0 x1 x2 h)) ∧ ∀ n1 : Nat, (∀ (h : Heap) (x0 : ByteArray) (x1 x2 : Int), OI (s42l1 Ψ (n1 + 1) x0 x1 x2 h)) ∧ (True ∧ (True ∧ True) ∧ (True ∧ True ∧ True ∧ (True) ∧ (∀ (h : Heap) (x0 : ByteArray) (x1 x2 : Int) (x3 : Bool) (x4 x5 : Int), OI (s42c2 Ψ (s42l1_G (s42l1 Ψ n1)) x0 x1 x2 x3 x4 x5 h)) ∧ ((True) ∧ (∀ (h : Heap) (x0 : ByteArray) (x1 x2 : Int) (x3 : Bool), OI (s42c3 Ψ (s42l1_G (s42l1 Ψ n1)) x0 x1 x2 x3 h)) ∧ ((True ∧ True) ∧ True))) ∧ True)) ∧ True ∧ True)) ⟨trivial, ⟨⟨trivial, ⟨fun _ _ _ _ H => H, fun _ => ⟨fun _ _ _ _ H => H, ⟨trivial, ⟨⟨trivial, trivial⟩, ⟨⟨trivial, ⟨trivial, ⟨trivial, ⟨trivial, fun _ _ _ _ _ _ _ H => H, ⟨trivial, fun _ _ _ _ _ H => H, ⟨⟨trivial, trivial⟩, trivial⟩⟩⟩⟩⟩⟩, trivial⟩⟩⟩⟩⟩⟩, ⟨trivial, trivial⟩⟩⟩)
    (Eq.mpr (by as_aux_lemma => kernel_rfl : evF prog f42 (s42_A Ψ) Ψ [(.str name)] h = s42 Ψ name h) H)

/- 44 slices.ContainsFunc[[]string,string] -/
def s44 (Ψ : AVal → Heap → Prop) (s : AVal) (f : AVal) (h : Heap) : Prop :=
  callG prog 74 [s, f] h fun v h_ =>
  tInt .i64 v fun v1 =>
  retG (.bool (decide (0 ≤ v1))) h_ Ψ

def s44_A (Ψ : AVal → Heap → Prop) : Ann :=
  .seq (rA 1)
  (.seq (rA 5)
  (.leaf))

theorem s44_ok {Ψ : AVal → Heap → Prop} {s : AVal} {f : AVal} {h : Heap} (H : s44 Ψ s f h) : ACalls prog 44 [s, f] h Ψ :=
  calls_of_evF func44 (by kernel_rfl) (by kernel_rfl) (by kernel_rfl)
    (Eq.mpr (by as_aux_lemma => kernel_rfl : oblF prog f44 (s44_A Ψ) Ψ = (True ∧ True ∧ True)) ⟨trivial, ⟨trivial, trivial⟩⟩)
    (Eq.mpr (by as_aux_lemma => kernel_rfl : evF prog f44 (s44_A Ψ) Ψ [s, f] h = s44 Ψ s f h) H)

/- 47 dictum/dictumref17.Check -/
def s47 (Ψ : AVal → Heap → Prop) (m_Up : AVal) (m_Val : AVal) (h : Heap) : Prop :=
  callG prog 31 [(.agg [m_Up, m_Val])] h fun v h_ =>
  tTup v fun l_ =>
  tCons l_ fun v1 l_1 =>
  tCons l_1 fun v2 l_2 =>
  tBool v2 fun v3 =>
  tNil l_2 (
    ifT (!v3) (
      retG (.int .i64 170) h_ Ψ) (
      retG (.int .i64 0) h_ Ψ))

def s47_A (Ψ : AVal → Heap → Prop) : Ann :=
  .seq (.reg [⟨none, [(0, true), (1, false)]⟩])
  (.seq (rA 7)
  (.seq (.seq (rA 2)
  (.cond (.seq (rA 1)
  (.leaf))
  (.leaf)))
  (.seq (rA 1)
  (.leaf))))

theorem s47_ok {Ψ : AVal → Heap → Prop} {m_Up : AVal} {m_Val : AVal} {h : Heap} (H : s47 Ψ m_Up m_Val h) : ACalls prog 47 [(.agg [m_Up, m_Val])] h Ψ :=
  calls_of_evF func47 (by kernel_rfl) (by kernel_rfl) (by kernel_rfl)
    (Eq.mpr (by as_aux_lemma => kernel_rfl : oblF prog f47 (s47_A Ψ) Ψ = (True ∧ True ∧ (True ∧ (True ∧ True) ∧ True) ∧ True ∧ True)) ⟨trivial, ⟨trivial, ⟨⟨trivial, ⟨⟨trivial, trivial⟩, trivial⟩⟩, ⟨trivial, trivial⟩⟩⟩⟩)
    (Eq.mpr (by as_aux_lemma => kernel_rfl : evF prog f47 (s47_A Ψ) Ψ [(.agg [m_Up, m_Val])] h = s47 Ψ m_Up m_Val h) H)

/- 49 dictum/dictumref19.has -/
abbrev s49l1_T := AVal → ByteArray → Int → Heap → Prop
def s49l1_R (F : s49l1_T) (l : List AVal) (h : Heap) : Prop := J.cons l fun x0 l => J.cons l fun v l => J.str v fun x1 => J.cons l fun v l => J.int .i64 v fun x2 => J.nil l (F x0 x1 x2 h)
def s49l1_G (F : s49l1_T) (x0 : AVal) (x1 : ByteArray) (x2 : Int) (h : Heap) : Prop := gJ [.any, .str, .int .i64] [x0, (.str x1), (.int .i64 x2)] h (s49l1_R F)
def s49l1_E (F : Nat → s49l1_T) (x0 : AVal) (x1 : ByteArray) (x2 : Int) (h : Heap) : Prop := gJ [.any, .str, .int .i64] [x0, (.str x1), (.int .i64 x2)] h (fun l h => ∃ n, s49l1_R (F n) l h)
theorem s49l1_go {F : s49l1_T} {x0 : AVal} {x1 : ByteArray} {x2 : Int} {h : Heap} (H : F x0 x1 x2 h) : s49l1_G F x0 x1 x2 h := gJ_plain rfl H
theorem s49l1_in {F : Nat → s49l1_T} {x0 : AVal} {x1 : ByteArray} {x2 : Int} {h : Heap} (n : Nat) (H : F n x0 x1 x2 h) : s49l1_E F x0 x1 x2 h := gJ_plain rfl ⟨n, H⟩

def s49l1 (Ψ : AVal → Heap → Prop) : Nat → s49l1_T
  | 0, _, _, _, _ => False
  | n + 1, l_1, s1, i, h =>
    lenN l_1 fun n1 =>
    ifT (decide (i < n1)) (
      ixS 1 l_1 i fun p =>
      ld1 h p fun v =>
      tStr v fun v1 =>
      ifT (strEq v1 s1) (
        retG (.bool true) h Ψ) (
        rg (i + 1) (
          s49l1_G (s49l1 Ψ n) l_1 s1 (i + 1) h))) (
      retG (.bool false) h Ψ)

def s49 (Ψ : AVal → Heap → Prop) (l_ : AVal) (s : ByteArray) (h : Heap) : Prop :=
  s49l1_E (s49l1 Ψ) l_ s 0 h

def s49_A (Ψ : AVal → Heap → Prop) : Ann :=
  .seq (rA 1)
  (.seq (.seq (rA 1)
  (.block (.loop [(0, .any), (1, .str), (5, .int .i64)] (fun n l h => s49l1_R (s49l1 Ψ n) l h) (fun L1 =>
  .seq (.seq (rA 4)
  (.cond (.leaf)
  (.leaf)))
  (.seq (.block (.seq (rA 6)
  (.cond (.seq (rA 1)
  (.leaf))
  (.leaf))))
  (rA 3))))))
  (.seq (rA 1)
  (.leaf)))

theorem s49_ok {Ψ : AVal → Heap → Prop} {l_ : AVal} {s : ByteArray} {h : Heap} (H : s49 Ψ l_ s h) : ACalls prog 49 [l_, (.str s)] h Ψ :=
  calls_of_evF func49 (by kernel_rfl) (by kernel_rfl) (by kernel_rfl)
    (Eq.mpr (by as_aux_lemma => kernel_rfl : oblF prog f49 (s49_A Ψ) Ψ = (True ∧ (True ∧ (∀ (h : Heap) (x0 : AVal) (x1 : ByteArray) (x2 : Int), ON (s49l1 Ψ 0 x0 x1 x2 h)) ∧ ∀ n1 : Nat, (∀ (h : Heap) (x0 : AVal) (x1 : ByteArray) (x2 : Int), OI (s49l1 Ψ (n1 + 1) x0 x1 x2 h)) ∧ ((True ∧ True ∧ True) ∧ (True ∧ (True ∧ True) ∧ True) ∧ True)) ∧ True ∧ True)) ⟨trivial, ⟨⟨trivial, ⟨fun _ _ _ _ H => H, fun _ => ⟨fun _ _ _ _ H => H, ⟨⟨trivial, ⟨trivial, trivial⟩⟩, ⟨⟨trivial, ⟨⟨trivial, trivial⟩, trivial⟩⟩, trivial⟩⟩⟩⟩⟩, ⟨trivial, trivial⟩⟩⟩)
    (Eq.mpr (by as_aux_lemma => kernel_rfl : evF prog f49 (s49_A Ψ) Ψ [l_, (.str s)] h = s49 Ψ l_ s h) H)

/- 53 slices.Equal[[]string,string] -/
abbrev s53l1_T := AVal → AVal → Int → Int → Heap → Prop
def s53l1_R (F : s53l1_T) (l : List AVal) (h : Heap) : Prop := J.cons l fun x0 l => J.cons l fun x1 l => J.cons l fun v l => J.int .i64 v fun x2 => J.cons l fun v l => J.int .i64 v fun x3 => J.nil l (F x0 x1 x2 x3 h)
def s53l1_G (F : s53l1_T) (x0 x1 : AVal) (x2 x3 : Int) (h : Heap) : Prop := gJ [.any, .any, .int .i64, .int .i64] [x0, x1, (.int .i64 x2), (.int .i64 x3)] h (s53l1_R F)
def s53l1_E (F : Nat → s53l1_T) (x0 x1 : AVal) (x2 x3 : Int) (h : Heap) : Prop := gJ [.any, .any, .int .i64, .int .i64] [x0, x1, (.int .i64 x2), (.int .i64 x3)] h (fun l h => ∃ n, s53l1_R (F n) l h)
theorem s53l1_go {F : s53l1_T} {x0 x1 : AVal} {x2 x3 : Int} {h : Heap} (H : F x0 x1 x2 x3 h) : s53l1_G F x0 x1 x2 x3 h := gJ_plain rfl H
theorem s53l1_in {F : Nat → s53l1_T} {x0 x1 : AVal} {x2 x3 : Int} {h : Heap} (n : Nat) (H : F n x0 x1 x2 x3 h) : s53l1_E F x0 x1 x2 x3 h := gJ_plain rfl ⟨n, H⟩

def s53l1 (Ψ : AVal → Heap → Prop) : Nat → s53l1_T
  | 0, _, _, _, _, _ => False
  | n3 + 1, s1_1, s2_1, t12, t13, h =>
    ifT (decide (t13 < t12)) (
      ixS 1 s1_1 t13 fun p =>
      ld1 h p fun v =>
      tStr v fun v1 =>
      ixS 1 s2_1 t13 fun p1 =>
      ld1 h p1 fun v2 =>
      tStr v2 fun v3 =>
      ifT (!strEq v1 v3) (
        retG (.bool false) h Ψ) (
        rg (t13 + 1) (
          s53l1_G (s53l1 Ψ n3) s1_1 s2_1 t12 (t13 + 1) h))) (
      retG (.bool true) h Ψ)

def s53 (Ψ : AVal → Heap → Prop) (s1 : AVal) (s2 : AVal) (h : Heap) : Prop :=
  lenN s1 fun n =>
  lenN s2 fun n1 =>
  ifT (n != n1) (
    retG (.bool false) h Ψ) (
    lenN s1 fun n2 =>
    s53l1_E (s53l1 Ψ) s1 s2 n2 0 h)

def s53_A (Ψ : AVal → Heap → Prop) : Ann :=
  .seq (rA 1)
  (.seq (.seq (rA 5)
  (.cond (.seq (rA 1)
  (.leaf))
  (.leaf)))
  (.seq (.seq (rA 3)
  (.block (.loop [(0, .any), (1, .any), (12, .int .i64), (13, .int .i64)] (fun n l h => s53l1_R (s53l1 Ψ n) l h) (fun L1 =>
  .seq (rA 1)
  (.seq (.cond (.leaf)
  (.leaf))
  (.seq (.block (.seq (rA 2)
  (.seq (.draw [(0, false), (1, false), (2, false), (3, false), (4, false), (5, false), (6, false), (7, false), (8, false)] [0, 0, 3, 7, 0, 0, 48, 112, 255])
  (.cond (.seq (rA 1)
  (.leaf))
  (.leaf)))))
  (rA 2)))))))
  (.seq (rA 1)
  (.leaf))))

theorem s53_ok {Ψ : AVal → Heap → Prop} {s1 : AVal} {s2 : AVal} {h : Heap} (H : s53 Ψ s1 s2 h) : ACalls prog 53 [s1, s2] h Ψ :=
  calls_of_evF func53 (by kernel_rfl) (by kernel_rfl) (by kernel_rfl)
    (Eq.mpr (by as_aux_lemma => kernel_rfl : oblF prog f53 (s53_A Ψ) Ψ = (True ∧ (True ∧ (True ∧ True) ∧ True) ∧ (True ∧ (∀ (h : Heap) (x0 x1 : AVal) (x2 x3 : Int), ON (s53l1 Ψ 0 x0 x1 x2 x3 h)) ∧ ∀ n1 : Nat, (∀ (h : Heap) (x0 x1 : AVal) (x2 x3 : Int), OI (s53l1 Ψ (n1 + 1) x0 x1 x2 x3 h)) ∧ (True ∧ (True ∧ True) ∧ (True ∧ True ∧ (True ∧ True) ∧ True) ∧ True)) ∧ True ∧ True)) ⟨trivial, ⟨⟨trivial, ⟨⟨trivial, trivial⟩, trivial⟩⟩, ⟨⟨trivial, ⟨fun _ _ _ _ _ H => H, fun _ => ⟨fun _ _ _ _ _ H => H, ⟨trivial, ⟨⟨trivial, trivial⟩, ⟨⟨trivial, ⟨trivial, ⟨⟨trivial, trivial⟩, trivial⟩⟩⟩, trivial⟩⟩⟩⟩⟩⟩, ⟨trivial, trivial⟩⟩⟩⟩)
    (Eq.mpr (by as_aux_lemma => kernel_rfl : evF prog f53 (s53_A Ψ) Ψ [s1, s2] h = s53 Ψ s1 s2 h) H)

/- 55 dictum/morph.Bounded$2 -/
def s55 (Ψ : AVal → Heap → Prop) (c : Int) (c0 : AVal) (h : Heap) : Prop :=
  ld1 h c0 fun v =>
  mapGet (.int .i64 0) h v (.int .i64 c) fun v1 b =>
  tInt .i64 v1 fun v2 =>
  retG (.bool (v2 == 0)) h Ψ

def s55_A (Ψ : AVal → Heap → Prop) : Ann :=
  .seq (rA 1)
  (.seq (rA 5)
  (.leaf))

theorem s55_ok {Ψ : AVal → Heap → Prop} {c : Int} {c0 : AVal} {h : Heap} (H : s55 Ψ c c0 h) : ACalls prog 55 [(.int .i64 c), c0] h Ψ :=
  calls_of_evF func55 (by kernel_rfl) (by kernel_rfl) (by kernel_rfl)
    (Eq.mpr (by as_aux_lemma => kernel_rfl : oblF prog f55 (s55_A Ψ) Ψ = (True ∧ True ∧ True)) ⟨trivial, ⟨trivial, trivial⟩⟩)
    (Eq.mpr (by as_aux_lemma => kernel_rfl : evF prog f55 (s55_A Ψ) Ψ [(.int .i64 c), c0] h = s55 Ψ c c0 h) H)

/- 58 slices.BinarySearch[[]int,int] -/
abbrev s58l1_T := AVal → Int → Int → Int → Int → Heap → Prop
def s58l1_R (F : s58l1_T) (l : List AVal) (h : Heap) : Prop := J.cons l fun x0 l => J.cons l fun v l => J.int .i64 v fun x1 => J.cons l fun v l => J.int .i64 v fun x2 => J.cons l fun v l => J.int .i64 v fun x3 => J.cons l fun v l => J.int .i64 v fun x4 => J.nil l (F x0 x1 x2 x3 x4 h)
def s58l1_G (F : s58l1_T) (x0 : AVal) (x1 x2 x3 x4 : Int) (h : Heap) : Prop := gJ [.any, .int .i64, .int .i64, .int .i64, .int .i64] [x0, (.int .i64 x1), (.int .i64 x2), (.int .i64 x3), (.int .i64 x4)] h (s58l1_R F)
def s58l1_E (F : Nat → s58l1_T) (x0 : AVal) (x1 x2 x3 x4 : Int) (h : Heap) : Prop := gJ [.any, .int .i64, .int .i64, .int .i64, .int .i64] [x0, (.int .i64 x1), (.int .i64 x2), (.int .i64 x3), (.int .i64 x4)] h (fun l h => ∃ n, s58l1_R (F n) l h)
theorem s58l1_go {F : s58l1_T} {x0 : AVal} {x1 x2 x3 x4 : Int} {h : Heap} (H : F x0 x1 x2 x3 x4 h) : s58l1_G F x0 x1 x2 x3 x4 h := gJ_plain rfl H
theorem s58l1_in {F : Nat → s58l1_T} {x0 : AVal} {x1 x2 x3 x4 : Int} {h : Heap} (n : Nat) (H : F n x0 x1 x2 x3 x4 h) : s58l1_E F x0 x1 x2 x3 x4 h := gJ_plain rfl ⟨n, H⟩

def s58l1 (Ψ : AVal → Heap → Prop) : Nat → s58l1_T
  | 0, _, _, _, _, _, _ => False
  | n2 + 1, x1, target1, n1, i, j, h =>
    ifT (decide (i < j)) (
      rg (i + j) (
        (0 : Int) ≤ 1 ∧
        rg (Int.fdiv (IntKind.u64.wrap (i + j)) (2 ^ (min (Int.toNat 1) (IntKind.u64.bits)))) (
          ixS 1 x1 (Int.fdiv (IntKind.u64.wrap (i + j)) (2 ^ (min (Int.toNat 1) (IntKind.u64.bits)))) fun p =>
          ld1 h p fun v =>
          tInt .i64 v fun v1 =>
          callG prog 81 [(.int .i64 v1), (.int .i64 target1)] h fun v2 h_ =>
          tBool v2 fun v3 =>
          ifT v3 (
            rg ((Int.fdiv (IntKind.u64.wrap (i + j)) (2 ^ (min (Int.toNat 1) (IntKind.u64.bits)))) + 1) (
              s58l1_G (s58l1 Ψ n2) x1 target1 n1 ((Int.fdiv (IntKind.u64.wrap (i + j)) (2 ^ (min (Int.toNat 1) (IntKind.u64.bits)))) + 1) j h_)) (
            s58l1_G (s58l1 Ψ n2) x1 target1 n1 i (Int.fdiv (IntKind.u64.wrap (i + j)) (2 ^ (min (Int.toNat 1) (IntKind.u64.bits)))) h_)))) (
      ifT (decide (i < n1)) (
        ixS 1 x1 i fun p1 =>
        ld1 h p1 fun v4 =>
        tInt .i64 v4 fun v5 =>
        ifT (v5 == target1) (
          retG (.tuple [(.int .i64 i), (.bool true)]) h Ψ) (
          ixS 1 x1 i fun p2 =>
          ld1 h p2 fun v6 =>
          tInt .i64 v6 fun v7 =>
          callG prog 82 [(.int .i64 v7)] h fun v8 h_1 =>
          tBool v8 fun v9 =>
          ifT v9 (
            callG prog 82 [(.int .i64 target1)] h_1 fun v10 h_2 =>
            tBool v10 fun v11 =>
            retG (.tuple [(.int .i64 i), (.bool v11)]) h_2 Ψ) (
            retG (.tuple [(.int .i64 i), (.bool false)]) h_1 Ψ))) (
        retG (.tuple [(.int .i64 i), (.bool false)]) h Ψ))

def s58 (Ψ : AVal → Heap → Prop) (x : AVal) (target : Int) (h : Heap) : Prop :=
  lenN x fun n =>
  s58l1_E (s58l1 Ψ) x target n 0 n h

def s58_A (Ψ : AVal → Heap → Prop) : Ann :=
  .seq (rA 2)
  (.seq (rA 3)
  (.seq (rA 3)
  (.seq (.block (.loop [(0, .any), (1, .int .i64), (6, .int .i64), (7, .int .i64), (8, .int .i64)] (fun n l h => s58l1_R (s58l1 Ψ n) l h) (fun L1 =>
  .seq (.seq (rA 3)
  (.cond (.leaf)
  (.leaf)))
  (.block (.seq (rA 7)
  (.seq (rA 6)
  (.cond (rA 3)
  (rA 2))))))))
  (.seq (.reg [⟨none, [(0, false), (1, false), (2, false), (3, false), (4, false)]⟩, ⟨some (35, true), [(5, false), (6, false), (7, false), (8, false), (9, false), (10, false), (11, false)]⟩, ⟨some (42, false), [(12, false), (13, false), (14, false), (15, false), (16, false), (17, false)]⟩, ⟨some (48, true), [(18, false), (19, false)]⟩, ⟨some (42, false), [(20, false)]⟩, ⟨some (35, true), [(21, false)]⟩, ⟨none, [(22, false), (23, false), (24, false)]⟩])
  (.leaf)))))

theorem s58_ok {Ψ : AVal → Heap → Prop} {x : AVal} {target : Int} {h : Heap} (H : s58 Ψ x target h) : ACalls prog 58 [x, (.int .i64 target)] h Ψ :=
  calls_of_evF func58 (by kernel_rfl) (by kernel_rfl) (by kernel_rfl)
    (Eq.mpr (by as_aux_lemma => kernel_rfl : oblF prog f58 (s58_A Ψ) Ψ = (True ∧ True ∧ True ∧ ((∀ (h : Heap) (x0 : AVal) (x1 x2 x3 x4 : Int), ON (s58l1 Ψ 0 x0 x1 x2 x3 x4 h)) ∧ ∀ n1 : Nat, (∀ (h : Heap) (x0 : AVal) (x1 x2 x3 x4 : Int), OI (s58l1 Ψ (n1 + 1) x0 x1 x2 x3 x4 h)) ∧ ((True ∧ True ∧ True) ∧ True ∧ True ∧ True ∧ True)) ∧ True ∧ True)) ⟨trivial, ⟨trivial, ⟨trivial, ⟨⟨fun _ _ _ _ _ _ H => H, fun _ => ⟨fun _ _ _ _ _ _ H => H, ⟨⟨trivial, ⟨trivial, trivial⟩⟩, ⟨trivial, ⟨trivial, ⟨trivial, trivial⟩⟩⟩⟩⟩⟩, ⟨trivial, trivial⟩⟩⟩⟩⟩)
    (Eq.mpr (by as_aux_lemma => kernel_rfl : evF prog f58 (s58_A Ψ) Ψ [x, (.int .i64 target)] h = s58 Ψ x target h) H)

/- 60 dictum/dictumref17.fine -/
abbrev s60l1_T := AVal → Int → Heap → Prop
def s60l1_R (F : s60l1_T) (l : List AVal) (h : Heap) : Prop := J.cons l fun x0 l => J.cons l fun v l => J.int .i64 v fun x1 => J.nil l (F x0 x1 h)
def s60l1_G (F : s60l1_T) (x0 : AVal) (x1 : Int) (h : Heap) : Prop := gJ [.any, .int .i64] [x0, (.int .i64 x1)] h (s60l1_R F)
def s60l1_E (F : Nat → s60l1_T) (x0 : AVal) (x1 : Int) (h : Heap) : Prop := gJ [.any, .int .i64] [x0, (.int .i64 x1)] h (fun l h => ∃ n, s60l1_R (F n) l h)
theorem s60l1_go {F : s60l1_T} {x0 : AVal} {x1 : Int} {h : Heap} (H : F x0 x1 h) : s60l1_G F x0 x1 h := gJ_plain rfl H
theorem s60l1_in {F : Nat → s60l1_T} {x0 : AVal} {x1 : Int} {h : Heap} (n : Nat) (H : F n x0 x1 h) : s60l1_E F x0 x1 h := gJ_plain rfl ⟨n, H⟩

def s60c2 (Ψ : AVal → Heap → Prop) (L1 : s60l1_T) (l_2 : AVal) (i1 : Int) (t31 : Bool) (h : Heap) : Prop :=
  ifT t31 (
    retG (.bool false) h Ψ) (
    rg (i1 + 1) (
      L1 l_2 (i1 + 1) h))

def s60l1 (Ψ : AVal → Heap → Prop) : Nat → s60l1_T
  | 0, _, _, _ => False
  | n + 1, l_1, i, h =>
    lenN l_1 fun n1 =>
    ifT (decide (i < n1)) (
      ixS 1 l_1 i fun p =>
      ld1 h p fun v =>
      tStr v fun v1 =>
      callG prog 48 [(.str v1)] h fun v2 h_ =>
      tBool v2 fun v3 =>
      ifT (!v3) (
        s60c2 Ψ (s60l1_G (s60l1 Ψ n)) l_1 i true h_) (
        ifT (decide (0 < i)) (
          rg (i - 1) (
            ixS 1 l_1 (i - 1) fun p1 =>
            ld1 h_ p1 fun v4 =>
            tStr v4 fun v5 =>
            ixS 1 l_1 i fun p2 =>
            ld1 h_ p2 fun v6 =>
            tStr v6 fun v7 =>
            s60c2 Ψ (s60l1_G (s60l1 Ψ n)) l_1 i (!strLt v5 v7) h_)) (
          s60c2 Ψ (s60l1_G (s60l1 Ψ n)) l_1 i false h_))) (
      retG (.bool true) h Ψ)

def s60 (Ψ : AVal → Heap → Prop) (l_ : AVal) (h : Heap) : Prop :=
  s60l1_E (s60l1 Ψ) l_ 0 h

def s60_A (Ψ : AVal → Heap → Prop) : Ann :=
  .seq (rA 1)
  (.seq (.seq (rA 1)
  (.block (.loop [(0, .any), (3, .int .i64)] (fun n l h => s60l1_R (s60l1 Ψ n) l h) (fun L1 =>
  .seq (.seq (rA 4)
  (.cond (.leaf)
  (.leaf)))
  (.seq (.block (.cut [(0, .any), (3, .int .i64), (31, .bool)] (fun l h => J.cons l fun x0 l => J.cons l fun v l => J.int .i64 v fun x1 => J.cons l fun v l => J.bool v fun x2 => J.nil l (s60c2 Ψ (fun y0 y1 h => L1 [y0, (.int .i64 y1)] h) x0 x1 x2 h)) (.draw [(0, false), (1, false), (2, false), (3, false), (4, false), (5, false), (6, false), (7, false), (8, false), (9, false), (10, false), (11, false), (12, false), (13, false), (14, false), (15, false), (16, false), (17, false), (18, false), (19, false), (20, false), (21, false)] [0, 0, 3, 7, 15, 31, 63, 127, 255, 511, 1023, 1023, 3071, 8191, 16383, 1023, 1023, 99327, 230399, 524287, 1048575, 2097151])
  (.cond (.seq (rA 1)
  (.leaf))
  (.leaf))))
  (rA 3))))))
  (.seq (rA 1)
  (.leaf)))

theorem s60_ok {Ψ : AVal → Heap → Prop} {l_ : AVal} {h : Heap} (H : s60 Ψ l_ h) : ACalls prog 60 [l_] h Ψ :=
  calls_of_evF func60 (by kernel_rfl) (by kernel_rfl) (by kernel_rfl)
    (Eq.mpr (by as_aux_lemma => kernel_rfl : oblF prog f60 (s60_A Ψ) Ψ = (True ∧ (True ∧ (∀ (h : Heap) (x0 : AVal) (x1 : Int), ON (s60l1 Ψ 0 x0 x1 h)) ∧ ∀ n1 : Nat, (∀ (h : Heap) (x0 : AVal) (x1 : Int), OI (s60l1 Ψ (n1 + 1) x0 x1 h)) ∧ ((True ∧ True ∧ True) ∧ ((True) ∧ (∀ (h : Heap) (x0 : AVal) (x1 : Int) (x2 : Bool), OI (s60c2 Ψ (s60l1_G (s60l1 Ψ n1)) x0 x1 x2 h)) ∧ ((True ∧ True) ∧ True)) ∧ True)) ∧ True ∧ True)) ⟨trivial, ⟨⟨trivial, ⟨fun _ _ _ H => H, fun _ => ⟨fun _ _ _ H => H, ⟨⟨trivial, ⟨trivial, trivial⟩⟩, ⟨⟨trivial, fun _ _ _ _ H => H, ⟨⟨trivial, trivial⟩, trivial⟩⟩, trivial⟩⟩⟩⟩⟩, ⟨trivial, trivial⟩⟩⟩)
    (Eq.mpr (by as_aux_lemma => kernel_rfl : evF prog f60 (s60_A Ψ) Ψ [l_] h = s60 Ψ l_ h) H)

/- 62 dictum/dictumref17.asked -/
def s62c1 (Ψ : AVal → Heap → Prop) (o : AVal) (t22 : Bool) (h : Heap) : Prop :=
  ifT t22 (
    retG (.tuple [.nilsl, (.int .i64 2)]) h Ψ) (
    retG (.tuple [o, (.int .i64 0)]) h Ψ)

def s62 (Ψ : AVal → Heap → Prop) (m_Up : AVal) (m_Val : AVal) (w : Int) (h : Heap) : Prop :=
  callG prog 31 [(.agg [m_Up, m_Val])] h fun v h_ =>
  tTup v fun l_ =>
  tCons l_ fun v1 l_1 =>
  tCons l_1 fun v2 l_2 =>
  tBool v2 fun v3 =>
  tNil l_2 (
    ifT (!v3) (
      retG (.tuple [.nilsl, (.int .i64 170)]) h_ Ψ) (
      ifT (decide (w < 0)) (
        s62c1 Ψ v1 true h_) (
        lenN v1 fun n =>
        s62c1 Ψ v1 (decide (n ≤ w)) h_)))

def s62_A (Ψ : AVal → Heap → Prop) : Ann :=
  .seq (.reg [⟨none, [(0, true), (1, false), (2, false)]⟩])
  (.seq (rA 7)
  (.seq (.seq (rA 2)
  (.cond (.seq (rA 2)
  (.leaf))
  (.leaf)))
  (.seq (.cut [(6, .any), (22, .bool)] (fun l h => J.cons l fun x0 l => J.cons l fun v l => J.bool v fun x1 => J.nil l (s62c1 Ψ x0 x1 h)) (.reg [⟨none, [(0, false), (1, false), (2, false)]⟩, ⟨some (17, false), [(3, false), (4, false), (5, false), (6, false)]⟩, ⟨none, [(7, false)]⟩])
  (.cond (.seq (rA 2)
  (.leaf))
  (.leaf)))
  (.seq (rA 3)
  (.leaf)))))

theorem s62_ok {Ψ : AVal → Heap → Prop} {m_Up : AVal} {m_Val : AVal} {w : Int} {h : Heap} (H : s62 Ψ m_Up m_Val w h) : ACalls prog 62 [(.agg [m_Up, m_Val]), (.int .i64 w)] h Ψ :=
  calls_of_evF func62 (by kernel_rfl) (by kernel_rfl) (by kernel_rfl)
    (Eq.mpr (by as_aux_lemma => kernel_rfl : oblF prog f62 (s62_A Ψ) Ψ = (True ∧ True ∧ (True ∧ (True ∧ True) ∧ True) ∧ ((True) ∧ (∀ (h : Heap) (x0 : AVal) (x1 : Bool), OI (s62c1 Ψ x0 x1 h)) ∧ ((True ∧ True) ∧ True)) ∧ True ∧ True)) ⟨trivial, ⟨trivial, ⟨⟨trivial, ⟨⟨trivial, trivial⟩, trivial⟩⟩, ⟨⟨trivial, fun _ _ _ H => H, ⟨⟨trivial, trivial⟩, trivial⟩⟩, ⟨trivial, trivial⟩⟩⟩⟩⟩)
    (Eq.mpr (by as_aux_lemma => kernel_rfl : evF prog f62 (s62_A Ψ) Ψ [(.agg [m_Up, m_Val]), (.int .i64 w)] h = s62 Ψ m_Up m_Val w h) H)

/- 64 dictum/morph.classes$1 -/
abbrev s64l1_T := AVal → AVal → AVal → AVal → Int → Int → Heap → Prop
def s64l1_R (F : s64l1_T) (l : List AVal) (h : Heap) : Prop := J.cons l fun x0 l => J.cons l fun x1 l => J.cons l fun x2 l => J.cons l fun x3 l => J.cons l fun v l => J.int .i64 v fun x4 => J.cons l fun v l => J.int .i64 v fun x5 => J.nil l (F x0 x1 x2 x3 x4 x5 h)
def s64l1_G (F : s64l1_T) (x0 x1 x2 x3 : AVal) (x4 x5 : Int) (h : Heap) : Prop := gJ [.any, .any, .any, .any, .int .i64, .int .i64] [x0, x1, x2, x3, (.int .i64 x4), (.int .i64 x5)] h (s64l1_R F)
def s64l1_E (F : Nat → s64l1_T) (x0 x1 x2 x3 : AVal) (x4 x5 : Int) (h : Heap) : Prop := gJ [.any, .any, .any, .any, .int .i64, .int .i64] [x0, x1, x2, x3, (.int .i64 x4), (.int .i64 x5)] h (fun l h => ∃ n, s64l1_R (F n) l h)
theorem s64l1_go {F : s64l1_T} {x0 x1 x2 x3 : AVal} {x4 x5 : Int} {h : Heap} (H : F x0 x1 x2 x3 x4 x5 h) : s64l1_G F x0 x1 x2 x3 x4 x5 h := gJ_plain rfl H
theorem s64l1_in {F : Nat → s64l1_T} {x0 x1 x2 x3 : AVal} {x4 x5 : Int} {h : Heap} (n : Nat) (H : F n x0 x1 x2 x3 x4 x5 h) : s64l1_E F x0 x1 x2 x3 x4 x5 h := gJ_plain rfl ⟨n, H⟩

abbrev s64l2_T := AVal → AVal → AVal → AVal → Int → AVal → Int → Int → AVal → Int → Int → Heap → Prop
def s64l2_R (F : s64l2_T) (l : List AVal) (h : Heap) : Prop := J.cons l fun x0 l => J.cons l fun x1 l => J.cons l fun x2 l => J.cons l fun x3 l => J.cons l fun v l => J.int .i64 v fun x4 => J.cons l fun x5 l => J.cons l fun v l => J.int .i64 v fun x6 => J.cons l fun v l => J.int .i64 v fun x7 => J.cons l fun x8 l => J.cons l fun v l => J.int .i64 v fun x9 => J.cons l fun v l => J.int .i64 v fun x10 => J.nil l (F x0 x1 x2 x3 x4 x5 x6 x7 x8 x9 x10 h)
def s64l2_G (F : s64l2_T) (x0 x1 x2 x3 : AVal) (x4 : Int) (x5 : AVal) (x6 x7 : Int) (x8 : AVal) (x9 x10 : Int) (h : Heap) : Prop := gJ [.any, .any, .any, .any, .int .i64, .any, .int .i64, .int .i64, .any, .int .i64, .int .i64] [x0, x1, x2, x3, (.int .i64 x4), x5, (.int .i64 x6), (.int .i64 x7), x8, (.int .i64 x9), (.int .i64 x10)] h (s64l2_R F)
def s64l2_E (F : Nat → s64l2_T) (x0 x1 x2 x3 : AVal) (x4 : Int) (x5 : AVal) (x6 x7 : Int) (x8 : AVal) (x9 x10 : Int) (h : Heap) : Prop := gJ [.any, .any, .any, .any, .int .i64, .any, .int .i64, .int .i64, .any, .int .i64, .int .i64] [x0, x1, x2, x3, (.int .i64 x4), x5, (.int .i64 x6), (.int .i64 x7), x8, (.int .i64 x9), (.int .i64 x10)] h (fun l h => ∃ n, s64l2_R (F n) l h)
theorem s64l2_go {F : s64l2_T} {x0 x1 x2 x3 : AVal} {x4 : Int} {x5 : AVal} {x6 x7 : Int} {x8 : AVal} {x9 x10 : Int} {h : Heap} (H : F x0 x1 x2 x3 x4 x5 x6 x7 x8 x9 x10 h) : s64l2_G F x0 x1 x2 x3 x4 x5 x6 x7 x8 x9 x10 h := gJ_plain rfl H
theorem s64l2_in {F : Nat → s64l2_T} {x0 x1 x2 x3 : AVal} {x4 : Int} {x5 : AVal} {x6 x7 : Int} {x8 : AVal} {x9 x10 : Int} {h : Heap} (n : Nat) (H : F n x0 x1 x2 x3 x4 x5 x6 x7 x8 x9 x10 h) : s64l2_E F x0 x1 x2 x3 x4 x5 x6 x7 x8 x9 x10 h := gJ_plain rfl ⟨n, H⟩

def s64l2 (Ψ : AVal → Heap → Prop) (L1 : s64l1_T) : Nat → s64l2_T
  | 0, _, _, _, _, _, _, _, _, _, _, _, _ => False
  | n4 + 1, t0_1, t1_1, t2_1, out1, w, seen, t13_1, t14_1, t22, t23, t24, h =>
    ifT (decide (t24 < t23)) (
      ixS 1 t22 t24 fun p1 =>
      ld1 h p1 fun v8 =>
      tInt .i64 v8 fun v9 =>
      ld1 h t2_1 fun v10 =>
      ixS 1 v10 v9 fun p2 =>
      ld1 h p2 fun v11 =>
      tInt .i64 v11 fun v12 =>
      ixS 1 seen v12 fun p3 =>
      st true h p3 [(.int .u8 1)] fun h_2 =>
      rg (t24 + 1) (
        s64l2_G (s64l2 Ψ L1 n4) t0_1 t1_1 t2_1 out1 w seen t13_1 t14_1 t22 t23 (t24 + 1) h_2)) (
      bStr h seen fun s =>
      ld1 h t2_1 fun v13 =>
      ixS 1 v13 w fun p4 =>
      ld1 h p4 fun v14 =>
      tInt .i64 v14 fun v15 =>
      rg (v15 + 1) (
        (s.size + (Utf8.encode (IntKind.i32.wrap (v15 + 1))).size ≤ 9223372036854775807) ∧
        ixS 1 out1 w fun p5 =>
        st true h p5 [(.str (s ++ (Utf8.encode (IntKind.i32.wrap (v15 + 1)))))] fun h_3 =>
        rg (t14_1 + 1) (
          L1 t0_1 t1_1 t2_1 out1 t13_1 (t14_1 + 1) h_3)))

def s64l1 (Ψ : AVal → Heap → Prop) : Nat → s64l1_T
  | 0, _, _, _, _, _, _, _ => False
  | n2 + 1, t0, t1, t2, out, t13, t14, h =>
    ifT (decide (t14 < t13)) (
      ld1 h t1 fun v3 =>
      tInt .i64 v3 fun v4 =>
      mkS false 1 1 (.int .u8 0) h v4 v4 fun v5 h_1 =>
      ld1 h_1 t0 fun v6 =>
      ixS 1 v6 t14 fun p =>
      ld1 h_1 p fun v7 =>
      lenN v7 fun n3 =>
      s64l2_E (s64l2 Ψ (s64l1_G (s64l1 Ψ n2))) t0 t1 t2 out t14 v5 t13 t14 v7 n3 0 h_1) (
      retG out h Ψ)

def s64 (Ψ : AVal → Heap → Prop) (c0 : AVal) (c1 : AVal) (c2 : AVal) (h : Heap) : Prop :=
  ld1 h c0 fun v =>
  lenN v fun n =>
  mkS false 1 16 (.str (ByteArray.mk #[])) h n n fun v1 h_ =>
  ld1 h_ c0 fun v2 =>
  lenN v2 fun n1 =>
  s64l1_E (s64l1 Ψ) c0 c1 c2 v1 n1 0 h_

def s64_A (Ψ : AVal → Heap → Prop) : Ann :=
  .seq (rA 1)
  (.seq (rA 4)
  (.seq (.seq (rA 3)
  (.block (.loop [(0, .any), (1, .any), (2, .any), (4, .any), (13, .int .i64), (14, .int .i64)] (fun n l h => s64l1_R (s64l1 Ψ n) l h) (fun L1 =>
  .seq (rA 1)
  (.seq (.cond (.leaf)
  (.leaf))
  (.seq (.block (.seq (rA 2)
  (.seq (rA 3)
  (.seq (.seq (rA 6)
  (.block (.loop [(0, .any), (1, .any), (2, .any), (4, .any), (5, .int .i64), (6, .any), (13, .int .i64), (14, .int .i64), (22, .any), (23, .int .i64), (24, .int .i64)] (fun n l h => s64l2_R (s64l2 Ψ (fun y0 y1 y2 y3 y4 y5 h => L1 [y0, y1, y2, y3, (.int .i64 y4), (.int .i64 y5)] h) n) l h) (fun L2 =>
  .seq (rA 1)
  (.seq (.cond (.leaf)
  (.leaf))
  (.seq (.block (.seq (rA 3)
  (rA 7)))
  (rA 2)))))))
  (.draw [(0, false), (1, false), (2, false), (3, false), (4, false), (5, false), (6, false), (7, false), (8, false), (9, false), (10, false), (11, false), (12, false), (13, false)] [0, 0, 0, 4, 0, 0, 48, 112, 240, 496, 1008, 2044, 4095, 8191])))))
  (rA 2)))))))
  (.seq (rA 2)
  (.leaf))))

theorem s64_ok {Ψ : AVal → Heap → Prop} {c0 : AVal} {c1 : AVal} {c2 : AVal} {h : Heap} (H : s64 Ψ c0 c1 c2 h) : ACalls prog 64 [c0, c1, c2] h Ψ :=
  calls_of_evF func64 (by kernel_rfl) (by kernel_rfl) (by kernel_rfl)
    (Eq.mpr (by as_aux_lemma => kernel_rfl : oblF prog f64 (s64_A Ψ) Ψ = (True ∧ True ∧ (True ∧ (∀ (h : Heap) (x0 x1 x2 x3 : AVal) (x4 x5 : Int), ON (s64l1 Ψ 0 x0 x1 x2 x3 x4 x5 h)) ∧ ∀ n1 : Nat, (∀ (h : Heap) (x0 x1 x2 x3 : AVal) (x4 x5 : Int), OI (s64l1 Ψ (n1 + 1) x0 x1 x2 x3 x4 x5 h)) ∧ (True ∧ (True ∧ True) ∧ (True ∧ True ∧ (True ∧ (∀ (h : Heap) (x0 x1 x2 x3 : AVal) (x4 : Int) (x5 : AVal) (x6 x7 : Int) (x8 : AVal) (x9 x10 : Int), ON (s64l2 Ψ (s64l1_G (s64l1 Ψ n1)) 0 x0 x1 x2 x3 x4 x5 x6 x7 x8 x9 x10 h)) ∧ ∀ n2 : Nat, (∀ (h : Heap) (x0 x1 x2 x3 : AVal) (x4 : Int) (x5 : AVal) (x6 x7 : Int) (x8 : AVal) (x9 x10 : Int), OI (s64l2 Ψ (s64l1_G (s64l1 Ψ n1)) (n2 + 1) x0 x1 x2 x3 x4 x5 x6 x7 x8 x9 x10 h)) ∧ (True ∧ (True ∧ True) ∧ (True ∧ True) ∧ True)) ∧ True) ∧ True)) ∧ True ∧ True)) ⟨trivial, ⟨trivial, ⟨⟨trivial, ⟨fun _ _ _ _ _ _ _ H => H, fun _ => ⟨fun _ _ _ _ _ _ _ H => H, ⟨trivial, ⟨⟨trivial, trivial⟩, ⟨⟨trivial, ⟨trivial, ⟨⟨trivial, ⟨fun _ _ _ _ _ _ _ _ _ _ _ _ H => H, fun _ => ⟨fun _ _ _ _ _ _ _ _ _ _ _ _ H => H, ⟨trivial, ⟨⟨trivial, trivial⟩, ⟨⟨trivial, trivial⟩, trivial⟩⟩⟩⟩⟩⟩, trivial⟩⟩⟩, trivial⟩⟩⟩⟩⟩⟩, ⟨trivial, trivial⟩⟩⟩⟩)
    (Eq.mpr (by as_aux_lemma => kernel_rfl : evF prog f64 (s64_A Ψ) Ψ [c0, c1, c2] h = s64 Ψ c0 c1 c2 h) H)

/- 66 dictum/dictumref19.like -/
abbrev s66l1_T := AVal → AVal → Int → Int → Int → Heap → Prop
def s66l1_R (F : s66l1_T) (l : List AVal) (h : Heap) : Prop := J.cons l fun x0 l => J.cons l fun x1 l => J.cons l fun v l => J.int .i64 v fun x2 => J.cons l fun v l => J.int .i64 v fun x3 => J.cons l fun v l => J.int .i64 v fun x4 => J.nil l (F x0 x1 x2 x3 x4 h)
def s66l1_G (F : s66l1_T) (x0 x1 : AVal) (x2 x3 x4 : Int) (h : Heap) : Prop := gJ [.any, .any, .int .i64, .int .i64, .int .i64] [x0, x1, (.int .i64 x2), (.int .i64 x3), (.int .i64 x4)] h (s66l1_R F)
def s66l1_E (F : Nat → s66l1_T) (x0 x1 : AVal) (x2 x3 x4 : Int) (h : Heap) : Prop := gJ [.any, .any, .int .i64, .int .i64, .int .i64] [x0, x1, (.int .i64 x2), (.int .i64 x3), (.int .i64 x4)] h (fun l h => ∃ n, s66l1_R (F n) l h)
theorem s66l1_go {F : s66l1_T} {x0 x1 : AVal} {x2 x3 x4 : Int} {h : Heap} (H : F x0 x1 x2 x3 x4 h) : s66l1_G F x0 x1 x2 x3 x4 h := gJ_plain rfl H
theorem s66l1_in {F : Nat → s66l1_T} {x0 x1 : AVal} {x2 x3 x4 : Int} {h : Heap} (n : Nat) (H : F n x0 x1 x2 x3 x4 h) : s66l1_E F x0 x1 x2 x3 x4 h := gJ_plain rfl ⟨n, H⟩

def s66c2 (Ψ : AVal → Heap → Prop) (L1 : s66l1_T) (o2 in_2 : AVal) (a2 b2 c1 : Int) (h : Heap) : Prop :=
  rg (c1 + 1) (
    L1 o2 in_2 a2 b2 (c1 + 1) h)

abbrev s66l3_T := AVal → AVal → Int → Int → Int → Bool → Int → Heap → Prop
def s66l3_R (F : s66l3_T) (l : List AVal) (h : Heap) : Prop := J.cons l fun x0 l => J.cons l fun x1 l => J.cons l fun v l => J.int .i64 v fun x2 => J.cons l fun v l => J.int .i64 v fun x3 => J.cons l fun v l => J.int .i64 v fun x4 => J.cons l fun v l => J.bool v fun x5 => J.cons l fun v l => J.int .i64 v fun x6 => J.nil l (F x0 x1 x2 x3 x4 x5 x6 h)
def s66l3_G (F : s66l3_T) (x0 x1 : AVal) (x2 x3 x4 : Int) (x5 : Bool) (x6 : Int) (h : Heap) : Prop := gJ [.any, .any, .int .i64, .int .i64, .int .i64, .bool, .int .i64] [x0, x1, (.int .i64 x2), (.int .i64 x3), (.int .i64 x4), (.bool x5), (.int .i64 x6)] h (s66l3_R F)
def s66l3_E (F : Nat → s66l3_T) (x0 x1 : AVal) (x2 x3 x4 : Int) (x5 : Bool) (x6 : Int) (h : Heap) : Prop := gJ [.any, .any, .int .i64, .int .i64, .int .i64, .bool, .int .i64] [x0, x1, (.int .i64 x2), (.int .i64 x3), (.int .i64 x4), (.bool x5), (.int .i64 x6)] h (fun l h => ∃ n, s66l3_R (F n) l h)
theorem s66l3_go {F : s66l3_T} {x0 x1 : AVal} {x2 x3 x4 : Int} {x5 : Bool} {x6 : Int} {h : Heap} (H : F x0 x1 x2 x3 x4 x5 x6 h) : s66l3_G F x0 x1 x2 x3 x4 x5 x6 h := gJ_plain rfl H
theorem s66l3_in {F : Nat → s66l3_T} {x0 x1 : AVal} {x2 x3 x4 : Int} {x5 : Bool} {x6 : Int} {h : Heap} (n : Nat) (H : F n x0 x1 x2 x3 x4 x5 x6 h) : s66l3_E F x0 x1 x2 x3 x4 x5 x6 h := gJ_plain rfl ⟨n, H⟩

def s66c4 (Ψ : AVal → Heap → Prop) (L1 : s66l1_T) (L3 : s66l3_T) (o4 in_4 : AVal) (a4 b4 c3 : Int) (some_1 : Bool) (d1 : Int) (h : Heap) : Prop :=
  rg (d1 + 1) (
    L3 o4 in_4 a4 b4 c3 some_1 (d1 + 1) h)

def s66l3 (Ψ : AVal → Heap → Prop) (L1 : s66l1_T) : Nat → s66l3_T
  | 0, _, _, _, _, _, _, _, _ => False
  | n2 + 1, o3, in_3, a3, b3, c2, some_, d, h =>
    lenN o3 fun n3 =>
    ifT (decide (d < n3)) (
      ifT some_ (
        s66c4 Ψ L1 (s66l3_G (s66l3 Ψ L1 n2)) o3 in_3 a3 b3 c2 true d h) (
        ixS 1 o3 b3 fun p4 =>
        ld1 h p4 fun v7 =>
        ixS 1 v7 d fun p5 =>
        ld1 h p5 fun v8 =>
        tBool v8 fun v9 =>
        ifT v9 (
          ixS 1 in_3 c2 fun p6 =>
          ld1 h p6 fun v10 =>
          ixS 1 v10 d fun p7 =>
          ld1 h p7 fun v11 =>
          tBool v11 fun v12 =>
          s66c4 Ψ L1 (s66l3_G (s66l3 Ψ L1 n2)) o3 in_3 a3 b3 c2 v12 d h) (
          s66c4 Ψ L1 (s66l3_G (s66l3 Ψ L1 n2)) o3 in_3 a3 b3 c2 false d h))) (
      ifT (!some_) (
        retG (.bool false) h Ψ) (
        s66c2 Ψ L1 o3 in_3 a3 b3 c2 h))

def s66l1 (Ψ : AVal → Heap → Prop) : Nat → s66l1_T
  | 0, _, _, _, _, _, _ => False
  | n + 1, o1, in_1, a1, b1, c, h =>
    lenN o1 fun n1 =>
    ifT (decide (c < n1)) (
      ixS 1 o1 a1 fun p2 =>
      ld1 h p2 fun v4 =>
      ixS 1 v4 c fun p3 =>
      ld1 h p3 fun v5 =>
      tBool v5 fun v6 =>
      ifT (!v6) (
        s66c2 Ψ (s66l1_G (s66l1 Ψ n)) o1 in_1 a1 b1 c h) (
        s66l3_E (s66l3 Ψ (s66l1_G (s66l1 Ψ n))) o1 in_1 a1 b1 c false 0 h)) (
      retG (.bool true) h Ψ)

def s66 (Ψ : AVal → Heap → Prop) (m_Up : AVal) (m_Val : AVal) (o : AVal) (in_ : AVal) (a : Int) (b : Int) (h : Heap) : Prop :=
  ixS 1 m_Val a fun p =>
  ld1 h p fun v =>
  ixS 1 m_Val b fun p1 =>
  ld1 h p1 fun v1 =>
  callG prog 23 [v, v1] h fun v2 h_ =>
  tBool v2 fun v3 =>
  ifT (!v3) (
    retG (.bool false) h_ Ψ) (
    s66l1_E (s66l1 Ψ) o in_ a b 0 h_)

def s66_A (Ψ : AVal → Heap → Prop) : Ann :=
  .seq (.reg [⟨none, [(0, true), (1, false)]⟩])
  (.seq (.seq (.draw [(0, false), (1, false), (2, false), (3, false), (4, false), (5, false), (6, false), (7, false), (8, false), (9, false), (10, false), (11, false)] [0, 1, 0, 7, 15, 0, 32, 0, 224, 480, 1023, 2047])
  (.cond (.seq (rA 1)
  (.leaf))
  (.leaf)))
  (.seq (.seq (rA 1)
  (.block (.loop [(1, .any), (2, .any), (3, .int .i64), (4, .int .i64), (11, .int .i64)] (fun n l h => s66l1_R (s66l1 Ψ n) l h) (fun L1 =>
  .seq (.seq (rA 4)
  (.cond (.leaf)
  (.leaf)))
  (.cut [(1, .any), (2, .any), (3, .int .i64), (4, .int .i64), (11, .int .i64)] (fun l h => J.cons l fun x0 l => J.cons l fun x1 l => J.cons l fun v l => J.int .i64 v fun x2 => J.cons l fun v l => J.int .i64 v fun x3 => J.cons l fun v l => J.int .i64 v fun x4 => J.nil l (s66c2 Ψ (fun y0 y1 y2 y3 y4 h => L1 [y0, y1, (.int .i64 y2), (.int .i64 y3), (.int .i64 y4)] h) x0 x1 x2 x3 x4 h)) (.block (.seq (.seq (rA 8)
  (.cond (.leaf)
  (.leaf)))
  (.seq (rA 1)
  (.seq (.seq (rA 1)
  (.block (.loop [(1, .any), (2, .any), (3, .int .i64), (4, .int .i64), (11, .int .i64), (12, .bool), (13, .int .i64)] (fun n l h => s66l3_R (s66l3 Ψ (fun y0 y1 y2 y3 y4 h => L1 [y0, y1, (.int .i64 y2), (.int .i64 y3), (.int .i64 y4)] h) n) l h) (fun L3 =>
  .seq (.seq (rA 4)
  (.cond (.leaf)
  (.leaf)))
  (.cut [(1, .any), (2, .any), (3, .int .i64), (4, .int .i64), (11, .int .i64), (12, .bool), (13, .int .i64)] (fun l h => J.cons l fun x0 l => J.cons l fun x1 l => J.cons l fun v l => J.int .i64 v fun x2 => J.cons l fun v l => J.int .i64 v fun x3 => J.cons l fun v l => J.int .i64 v fun x4 => J.cons l fun v l => J.bool v fun x5 => J.cons l fun v l => J.int .i64 v fun x6 => J.nil l (s66c4 Ψ (fun y0 y1 y2 y3 y4 h => L1 [y0, y1, (.int .i64 y2), (.int .i64 y3), (.int .i64 y4)] h) (fun y0 y1 y2 y3 y4 y5 y6 h => L3 [y0, y1, (.int .i64 y2), (.int .i64 y3), (.int .i64 y4), (.bool y5), (.int .i64 y6)] h) x0 x1 x2 x3 x4 x5 x6 h)) (.block (.reg [⟨none, [(0, false), (1, false)]⟩, ⟨some (47, false), [(2, false), (3, false), (4, false), (5, false), (6, false), (7, false), (8, false), (9, false)]⟩, ⟨some (55, true), [(10, false), (11, false), (12, false), (13, false), (14, false), (15, false), (16, false)]⟩, ⟨some (47, false), [(17, false)]⟩, ⟨none, [(18, false), (19, false)]⟩]))
  (rA 3))))))
  (.seq (rA 2)
  (.cond (.seq (rA 1)
  (.leaf))
  (.leaf)))))))
  (rA 3))))))
  (.seq (rA 1)
  (.leaf))))

theorem s66_ok {Ψ : AVal → Heap → Prop} {m_Up : AVal} {m_Val : AVal} {o : AVal} {in_ : AVal} {a : Int} {b : Int} {h : Heap} (H : s66 Ψ m_Up m_Val o in_ a b h) : ACalls prog 66 [(.agg [m_Up, m_Val]), o, in_, (.int .i64 a), (.int .i64 b)] h Ψ :=
  calls_of_evF func66 (by kernel_rfl) (by kernel_rfl) (by kernel_rfl)
    (Eq.mpr (by as_aux_lemma => kernel_rfl : oblF prog f66 (s66_A Ψ) Ψ = (True ∧ (True ∧ (True ∧ True) ∧ True) ∧ (True ∧ (∀ (h : Heap) (x0 x1 : AVal) (x2 x3 x4 : Int), ON (s66l1 Ψ 0 x0 x1 x2 x3 x4 h)) ∧ ∀ n1 : Nat, (∀ (h : Heap) (x0 x1 : AVal) (x2 x3 x4 : Int), OI (s66l1 Ψ (n1 + 1) x0 x1 x2 x3 x4 h)) ∧ ((True ∧ True ∧ True) ∧ ((True ∧ True ∧ True) ∧ True ∧ (True ∧ (∀ (h : Heap) (x0 x1 : AVal) (x2 x3 x4 : Int) (x5 : Bool) (x6 : Int), ON (s66l3 Ψ (s66l1_G (s66l1 Ψ n1)) 0 x0 x1 x2 x3 x4 x5 x6 h)) ∧ ∀ n3 : Nat, (∀ (h : Heap) (x0 x1 : AVal) (x2 x3 x4 : Int) (x5 : Bool) (x6 : Int), OI (s66l3 Ψ (s66l1_G (s66l1 Ψ n1)) (n3 + 1) x0 x1 x2 x3 x4 x5 x6 h)) ∧ ((True ∧ True ∧ True) ∧ (True) ∧ (∀ (h : Heap) (x0 x1 : AVal) (x2 x3 x4 : Int) (x5 : Bool) (x6 : Int), OI (s66c4 Ψ (s66l1_G (s66l1 Ψ n1)) (s66l3_G (s66l3 Ψ (s66l1_G (s66l1 Ψ n1)) n3)) x0 x1 x2 x3 x4 x5 x6 h)) ∧ (True))) ∧ True ∧ (True ∧ True) ∧ True) ∧ (∀ (h : Heap) (x0 x1 : AVal) (x2 x3 x4 : Int), OI (s66c2 Ψ (s66l1_G (s66l1 Ψ n1)) x0 x1 x2 x3 x4 h)) ∧ (True))) ∧ True ∧ True)) ⟨trivial, ⟨⟨trivial, ⟨⟨trivial, trivial⟩, trivial⟩⟩, ⟨⟨trivial, ⟨fun _ _ _ _ _ _ H => H, fun _ => ⟨fun _ _ _ _ _ _ H => H, ⟨⟨trivial, ⟨trivial, trivial⟩⟩, ⟨⟨⟨trivial, ⟨trivial, trivial⟩⟩, ⟨trivial, ⟨⟨trivial, ⟨fun _ _ _ _ _ _ _ _ H => H, fun _ => ⟨fun _ _ _ _ _ _ _ _ H => H, ⟨⟨trivial, ⟨trivial, trivial⟩⟩, ⟨trivial, fun _ _ _ _ _ _ _ _ H => H, trivial⟩⟩⟩⟩⟩, ⟨trivial, ⟨⟨trivial, trivial⟩, trivial⟩⟩⟩⟩⟩, fun _ _ _ _ _ _ H => H, trivial⟩⟩⟩⟩⟩, ⟨trivial, trivial⟩⟩⟩⟩)
    (Eq.mpr (by as_aux_lemma => kernel_rfl : evF prog f66 (s66_A Ψ) Ψ [(.agg [m_Up, m_Val]), o, in_, (.int .i64 a), (.int .i64 b)] h = s66 Ψ m_Up m_Val o in_ a b h) H)

/- 68 dictum/worlds.all -/
abbrev s68l1_T := AVal → AVal → Int → Int → Heap → Prop
def s68l1_R (F : s68l1_T) (l : List AVal) (h : Heap) : Prop := J.cons l fun x0 l => J.cons l fun x1 l => J.cons l fun v l => J.int .i64 v fun x2 => J.cons l fun v l => J.int .i64 v fun x3 => J.nil l (F x0 x1 x2 x3 h)
def s68l1_G (F : s68l1_T) (x0 x1 : AVal) (x2 x3 : Int) (h : Heap) : Prop := gJ [.any, .any, .int .i64, .int .i64] [x0, x1, (.int .i64 x2), (.int .i64 x3)] h (s68l1_R F)
def s68l1_E (F : Nat → s68l1_T) (x0 x1 : AVal) (x2 x3 : Int) (h : Heap) : Prop := gJ [.any, .any, .int .i64, .int .i64] [x0, x1, (.int .i64 x2), (.int .i64 x3)] h (fun l h => ∃ n, s68l1_R (F n) l h)
theorem s68l1_go {F : s68l1_T} {x0 x1 : AVal} {x2 x3 : Int} {h : Heap} (H : F x0 x1 x2 x3 h) : s68l1_G F x0 x1 x2 x3 h := gJ_plain rfl H
theorem s68l1_in {F : Nat → s68l1_T} {x0 x1 : AVal} {x2 x3 : Int} {h : Heap} (n : Nat) (H : F n x0 x1 x2 x3 h) : s68l1_E F x0 x1 x2 x3 h := gJ_plain rfl ⟨n, H⟩

def s68c2 (Ψ : AVal → Heap → Prop) (L1 : s68l1_T) (is2 l_1 : AVal) (t9_1 t10_1 : Int) (h : Heap) : Prop :=
  rg (t10_1 + 1) (
    L1 is2 l_1 t9_1 (t10_1 + 1) h)

def s68l1 (Ψ : AVal → Heap → Prop) : Nat → s68l1_T
  | 0, _, _, _, _, _ => False
  | n1 + 1, is1, l_, t9, t10, h =>
    ifT (decide (t10 < t9)) (
      callV prog is1 [(.int .i64 t10)] h fun v h_ =>
      tBool v fun v1 =>
      ifT v1 (
        appC 1 8 h_ l_ (.lsl 1 [(.int .i64 t10)]) fun v2 h_1 =>
        s68c2 Ψ (s68l1_G (s68l1 Ψ n1)) is1 v2 t9 t10 h_1) (
        s68c2 Ψ (s68l1_G (s68l1 Ψ n1)) is1 l_ t9 t10 h_)) (
      retG l_ h Ψ)

def s68 (Ψ : AVal → Heap → Prop) (m_Up : AVal) (m_Val : AVal) (is : AVal) (h : Heap) : Prop :=
  lenN m_Up fun n =>
  s68l1_E (s68l1 Ψ) is .nilsl n 0 h

def s68_A (Ψ : AVal → Heap → Prop) : Ann :=
  .seq (.reg [⟨none, [(0, true), (1, false)]⟩])
  (.seq (rA 1)
  (.seq (.seq (rA 4)
  (.block (.loop [(1, .any), (5, .any), (9, .int .i64), (10, .int .i64)] (fun n l h => s68l1_R (s68l1 Ψ n) l h) (fun L1 =>
  .seq (rA 1)
  (.seq (.cond (.leaf)
  (.leaf))
  (.cut [(1, .any), (5, .any), (9, .int .i64), (10, .int .i64)] (fun l h => J.cons l fun x0 l => J.cons l fun x1 l => J.cons l fun v l => J.int .i64 v fun x2 => J.cons l fun v l => J.int .i64 v fun x3 => J.nil l (s68c2 Ψ (fun y0 y1 y2 y3 h => L1 [y0, y1, (.int .i64 y2), (.int .i64 y3)] h) x0 x1 x2 x3 h)) (.block (.seq (rA 2)
  (.seq (rA 3)
  (.cond (.reg [⟨none, [(0, false), (1, false), (2, true), (3, false), (4, false)]⟩])
  (.leaf)))))
  (rA 2)))))))
  (.seq (rA 2)
  (.leaf))))

theorem s68_ok {Ψ : AVal → Heap → Prop} {m_Up : AVal} {m_Val : AVal} {is : AVal} {h : Heap} (H : s68 Ψ m_Up m_Val is h) : ACalls prog 68 [(.agg [m_Up, m_Val]), is] h Ψ :=
  calls_of_evF func68 (by kernel_rfl) (by kernel_rfl) (by kernel_rfl)
    (Eq.mpr (by as_aux_lemma => kernel_rfl : oblF prog f68 (s68_A Ψ) Ψ = (True ∧ True ∧ (True ∧ (∀ (h : Heap) (x0 x1 : AVal) (x2 x3 : Int), ON (s68l1 Ψ 0 x0 x1 x2 x3 h)) ∧ ∀ n1 : Nat, (∀ (h : Heap) (x0 x1 : AVal) (x2 x3 : Int), OI (s68l1 Ψ (n1 + 1) x0 x1 x2 x3 h)) ∧ (True ∧ (True ∧ True) ∧ (True ∧ True ∧ True ∧ True) ∧ (∀ (h : Heap) (x0 x1 : AVal) (x2 x3 : Int), OI (s68c2 Ψ (s68l1_G (s68l1 Ψ n1)) x0 x1 x2 x3 h)) ∧ (True))) ∧ True ∧ True)) ⟨trivial, ⟨trivial, ⟨⟨trivial, ⟨fun _ _ _ _ _ H => H, fun _ => ⟨fun _ _ _ _ _ H => H, ⟨trivial, ⟨⟨trivial, trivial⟩, ⟨⟨trivial, ⟨trivial, ⟨trivial, trivial⟩⟩⟩, fun _ _ _ _ _ H => H, trivial⟩⟩⟩⟩⟩⟩, ⟨trivial, trivial⟩⟩⟩⟩)
    (Eq.mpr (by as_aux_lemma => kernel_rfl : evF prog f68 (s68_A Ψ) Ψ [(.agg [m_Up, m_Val]), is] h = s68 Ψ m_Up m_Val is h) H)

/- 70 dictum/worlds.Tidy$2 -/
def s70 (Ψ : AVal → Heap → Prop) (b : Int) (c0 : AVal) (c1 : AVal) (h : Heap) : Prop :=
  ld1 h c0 fun v =>
  callG prog 51 [v, (.func (.func 71) [] [(.lptr [(.int .i64 b)]), c1])] h fun v1 h_ =>
  tBool v1 fun v2 =>
  retG (.bool (!v2)) h_ Ψ

def s70_A (Ψ : AVal → Heap → Prop) : Ann :=
  .seq (.reg [⟨none, [(0, true), (1, false)]⟩])
  (.seq (rA 5)
  (.leaf))

theorem s70_ok {Ψ : AVal → Heap → Prop} {b : Int} {c0 : AVal} {c1 : AVal} {h : Heap} (H : s70 Ψ b c0 c1 h) : ACalls prog 70 [(.int .i64 b), c0, c1] h Ψ :=
  calls_of_evF func70 (by kernel_rfl) (by kernel_rfl) (by kernel_rfl)
    (Eq.mpr (by as_aux_lemma => kernel_rfl : oblF prog f70 (s70_A Ψ) Ψ = (True ∧ True ∧ True)) ⟨trivial, ⟨trivial, trivial⟩⟩)
    (Eq.mpr (by as_aux_lemma => kernel_rfl : evF prog f70 (s70_A Ψ) Ψ [(.int .i64 b), c0, c1] h = s70 Ψ b c0 c1 h) H)

/- 72 dictum/formula.reserved -/
def s72c1 (Ψ : AVal → Heap → Prop) (t4 : Bool) (h : Heap) : Prop :=
  ifT t4 (
    retG (.bool true) h Ψ) (
    retG (.bool false) h Ψ)

def s72 (Ψ : AVal → Heap → Prop) (s : ByteArray) (h : Heap) : Prop :=
  ifT (strEq s (ByteArray.mk #[97, 98, 111, 114, 116])) (
    s72c1 Ψ (strEq s (ByteArray.mk #[97, 98, 111, 114, 116])) h) (
    ifT (strEq s (ByteArray.mk #[99, 97, 115, 101])) (
      s72c1 Ψ (strEq s (ByteArray.mk #[99, 97, 115, 101])) h) (
      ifT (strEq s (ByteArray.mk #[102, 97, 108, 115, 101])) (
        s72c1 Ψ (strEq s (ByteArray.mk #[102, 97, 108, 115, 101])) h) (
        ifT (strEq s (ByteArray.mk #[102, 115, 116])) (
          s72c1 Ψ (strEq s (ByteArray.mk #[102, 115, 116])) h) (
          ifT (strEq s (ByteArray.mk #[102, 117, 110])) (
            s72c1 Ψ (strEq s (ByteArray.mk #[102, 117, 110])) h) (
            ifT (strEq s (ByteArray.mk #[105, 110])) (
              s72c1 Ψ (strEq s (ByteArray.mk #[105, 110])) h) (
              ifT (strEq s (ByteArray.mk #[105, 110, 108])) (
                s72c1 Ψ (strEq s (ByteArray.mk #[105, 110, 108])) h) (
                ifT (strEq s (ByteArray.mk #[105, 110, 114])) (
                  s72c1 Ψ (strEq s (ByteArray.mk #[105, 110, 114])) h) (
                  ifT (strEq s (ByteArray.mk #[108, 101, 116])) (
                    s72c1 Ψ (strEq s (ByteArray.mk #[108, 101, 116])) h) (
                    ifT (strEq s (ByteArray.mk #[111, 102])) (
                      s72c1 Ψ (strEq s (ByteArray.mk #[111, 102])) h) (
                      ifT (strEq s (ByteArray.mk #[115, 110, 100])) (
                        s72c1 Ψ (strEq s (ByteArray.mk #[115, 110, 100])) h) (
                        s72c1 Ψ (strEq s (ByteArray.mk #[116, 114, 117, 101])) h)))))))))))

def s72_A (Ψ : AVal → Heap → Prop) : Ann :=
  .seq (rA 1)
  (.seq (.seq (rA 1)
  (.block (.cut [(4, .bool)] (fun l h => J.cons l fun v l => J.bool v fun x0 => J.nil l (s72c1 Ψ x0 h)) (.seq (rA 2)
  (.cond (.leaf)
  (.seq (rA 2)
  (.cond (.leaf)
  (.seq (rA 2)
  (.cond (.leaf)
  (.seq (rA 2)
  (.cond (.leaf)
  (.seq (rA 2)
  (.cond (.leaf)
  (.seq (rA 2)
  (.cond (.leaf)
  (.seq (rA 2)
  (.cond (.leaf)
  (.seq (rA 2)
  (.cond (.leaf)
  (.seq (rA 2)
  (.cond (.leaf)
  (.seq (rA 2)
  (.cond (.leaf)
  (.seq (rA 2)
  (.cond (.leaf)
  (rA 2)))))))))))))))))))))))
  (.cond (.seq (rA 1)
  (.leaf))
  (.leaf)))))
  (.seq (rA 1)
  (.leaf)))

theorem s72_ok {Ψ : AVal → Heap → Prop} {s : ByteArray} {h : Heap} (H : s72 Ψ s h) : ACalls prog 72 [(.str s)] h Ψ :=
  calls_of_evF func72 (by kernel_rfl) (by kernel_rfl) (by kernel_rfl)
    (Eq.mpr (by as_aux_lemma => kernel_rfl : oblF prog f72 (s72_A Ψ) Ψ = (True ∧ (True ∧ (True ∧ True ∧ True ∧ True ∧ True ∧ True ∧ True ∧ True ∧ True ∧ True ∧ True ∧ True ∧ True ∧ True ∧ True ∧ True ∧ True ∧ True ∧ True ∧ True ∧ True ∧ True ∧ True) ∧ (∀ (h : Heap) (x0 : Bool), OI (s72c1 Ψ x0 h)) ∧ ((True ∧ True) ∧ True)) ∧ True ∧ True)) ⟨trivial, ⟨⟨trivial, ⟨⟨trivial, ⟨trivial, ⟨trivial, ⟨trivial, ⟨trivial, ⟨trivial, ⟨trivial, ⟨trivial, ⟨trivial, ⟨trivial, ⟨trivial, ⟨trivial, ⟨trivial, ⟨trivial, ⟨trivial, ⟨trivial, ⟨trivial, ⟨trivial, ⟨trivial, ⟨trivial, ⟨trivial, ⟨trivial, trivial⟩⟩⟩⟩⟩⟩⟩⟩⟩⟩⟩⟩⟩⟩⟩⟩⟩⟩⟩⟩⟩⟩, fun _ _ H => H, ⟨⟨trivial, trivial⟩, trivial⟩⟩⟩, ⟨trivial, trivial⟩⟩⟩)
    (Eq.mpr (by as_aux_lemma => kernel_rfl : evF prog f72 (s72_A Ψ) Ψ [(.str s)] h = s72 Ψ s h) H)

/- 74 slices.IndexFunc[[]string,string] -/
abbrev s74l1_T := AVal → AVal → Int → Int → Heap → Prop
def s74l1_R (F : s74l1_T) (l : List AVal) (h : Heap) : Prop := J.cons l fun x0 l => J.cons l fun x1 l => J.cons l fun v l => J.int .i64 v fun x2 => J.cons l fun v l => J.int .i64 v fun x3 => J.nil l (F x0 x1 x2 x3 h)
def s74l1_G (F : s74l1_T) (x0 x1 : AVal) (x2 x3 : Int) (h : Heap) : Prop := gJ [.any, .any, .int .i64, .int .i64] [x0, x1, (.int .i64 x2), (.int .i64 x3)] h (s74l1_R F)
def s74l1_E (F : Nat → s74l1_T) (x0 x1 : AVal) (x2 x3 : Int) (h : Heap) : Prop := gJ [.any, .any, .int .i64, .int .i64] [x0, x1, (.int .i64 x2), (.int .i64 x3)] h (fun l h => ∃ n, s74l1_R (F n) l h)
theorem s74l1_go {F : s74l1_T} {x0 x1 : AVal} {x2 x3 : Int} {h : Heap} (H : F x0 x1 x2 x3 h) : s74l1_G F x0 x1 x2 x3 h := gJ_plain rfl H
theorem s74l1_in {F : Nat → s74l1_T} {x0 x1 : AVal} {x2 x3 : Int} {h : Heap} (n : Nat) (H : F n x0 x1 x2 x3 h) : s74l1_E F x0 x1 x2 x3 h := gJ_plain rfl ⟨n, H⟩

def s74l1 (Ψ : AVal → Heap → Prop) : Nat → s74l1_T
  | 0, _, _, _, _, _ => False
  | n1 + 1, s1, f1, t7, t8, h =>
    ifT (decide (t8 < t7)) (
      ixS 1 s1 t8 fun p =>
      ld1 h p fun v =>
      tStr v fun v1 =>
      callV prog f1 [(.str v1)] h fun v2 h_ =>
      tBool v2 fun v3 =>
      ifT v3 (
        retG (.int .i64 t8) h_ Ψ) (
        rg (t8 + 1) (
          s74l1_G (s74l1 Ψ n1) s1 f1 t7 (t8 + 1) h_))) (
      retG (.int .i64 (-1)) h Ψ)

def s74 (Ψ : AVal → Heap → Prop) (s : AVal) (f : AVal) (h : Heap) : Prop :=
  lenN s fun n =>
  s74l1_E (s74l1 Ψ) s f n 0 h

def s74_A (Ψ : AVal → Heap → Prop) : Ann :=
  .seq (rA 1)
  (.seq (.seq (rA 3)
  (.block (.loop [(0, .any), (1, .any), (7, .int .i64), (8, .int .i64)] (fun n l h => s74l1_R (s74l1 Ψ n) l h) (fun L1 =>
  .seq (rA 1)
  (.seq (.cond (.leaf)
  (.leaf))
  (.seq (.block (.seq (rA 2)
  (.seq (rA 6)
  (.cond (.seq (rA 2)
  (.leaf))
  (.leaf)))))
  (rA 2)))))))
  (.seq (rA 1)
  (.leaf)))

theorem s74_ok {Ψ : AVal → Heap → Prop} {s : AVal} {f : AVal} {h : Heap} (H : s74 Ψ s f h) : ACalls prog 74 [s, f] h Ψ :=
  calls_of_evF func74 (by kernel_rfl) (by kernel_rfl) (by kernel_rfl)
    (Eq.mpr (by as_aux_lemma => kernel_rfl : oblF prog f74 (s74_A Ψ) Ψ = (True ∧ (True ∧ (∀ (h : Heap) (x0 x1 : AVal) (x2 x3 : Int), ON (s74l1 Ψ 0 x0 x1 x2 x3 h)) ∧ ∀ n1 : Nat, (∀ (h : Heap) (x0 x1 : AVal) (x2 x3 : Int), OI (s74l1 Ψ (n1 + 1) x0 x1 x2 x3 h)) ∧ (True ∧ (True ∧ True) ∧ (True ∧ True ∧ (True ∧ True) ∧ True) ∧ True)) ∧ True ∧ True)) ⟨trivial, ⟨⟨trivial, ⟨fun _ _ _ _ _ H => H, fun _ => ⟨fun _ _ _ _ _ H => H, ⟨trivial, ⟨⟨trivial, trivial⟩, ⟨⟨trivial, ⟨trivial, ⟨⟨trivial, trivial⟩, trivial⟩⟩⟩, trivial⟩⟩⟩⟩⟩⟩, ⟨trivial, trivial⟩⟩⟩)
    (Eq.mpr (by as_aux_lemma => kernel_rfl : evF prog f74 (s74_A Ψ) Ψ [s, f] h = s74 Ψ s f h) H)

/- 76 dictum/dictumref03.letter -/
def s76 (Ψ : AVal → Heap → Prop) (c : Int) (h : Heap) : Prop :=
  ifT (decide (97 ≤ c)) (
    ifT (decide (c ≤ 122)) (
      retG (.bool true) h Ψ) (
      ifT (decide (65 ≤ c)) (
        retG (.bool (decide (c ≤ 90))) h Ψ) (
        retG (.bool false) h Ψ))) (
    ifT (decide (65 ≤ c)) (
      retG (.bool (decide (c ≤ 90))) h Ψ) (
      retG (.bool false) h Ψ))

def s76_A (Ψ : AVal → Heap → Prop) : Ann :=
  .seq (rA 1)
  (.seq (.reg [⟨none, [(0, false), (1, false), (2, false)]⟩, ⟨some (5, true), [(3, false), (4, false)]⟩, ⟨none, [(5, false), (6, false)]⟩, ⟨some (9, false), [(7, false), (8, false), (9, false)]⟩, ⟨some (12, true), [(10, false), (11, false)]⟩, ⟨some (9, false), [(12, false)]⟩, ⟨none, [(13, false), (14, false)]⟩])
  (.leaf))

theorem s76_ok {Ψ : AVal → Heap → Prop} {c : Int} {h : Heap} (H : s76 Ψ c h) : ACalls prog 76 [(.int .u8 c)] h Ψ :=
  calls_of_evF func76 (by kernel_rfl) (by kernel_rfl) (by kernel_rfl)
    (Eq.mpr (by as_aux_lemma => kernel_rfl : oblF prog f76 (s76_A Ψ) Ψ = (True ∧ True ∧ True)) ⟨trivial, ⟨trivial, trivial⟩⟩)
    (Eq.mpr (by as_aux_lemma => kernel_rfl : evF prog f76 (s76_A Ψ) Ψ [(.int .u8 c)] h = s76 Ψ c h) H)

/- 79 slices.IndexFunc[[]int,int] -/
abbrev s79l1_T := AVal → AVal → Int → Int → Heap → Prop
def s79l1_R (F : s79l1_T) (l : List AVal) (h : Heap) : Prop := J.cons l fun x0 l => J.cons l fun x1 l => J.cons l fun v l => J.int .i64 v fun x2 => J.cons l fun v l => J.int .i64 v fun x3 => J.nil l (F x0 x1 x2 x3 h)
def s79l1_G (F : s79l1_T) (x0 x1 : AVal) (x2 x3 : Int) (h : Heap) : Prop := gJ [.any, .any, .int .i64, .int .i64] [x0, x1, (.int .i64 x2), (.int .i64 x3)] h (s79l1_R F)
def s79l1_E (F : Nat → s79l1_T) (x0 x1 : AVal) (x2 x3 : Int) (h : Heap) : Prop := gJ [.any, .any, .int .i64, .int .i64] [x0, x1, (.int .i64 x2), (.int .i64 x3)] h (fun l h => ∃ n, s79l1_R (F n) l h)
theorem s79l1_go {F : s79l1_T} {x0 x1 : AVal} {x2 x3 : Int} {h : Heap} (H : F x0 x1 x2 x3 h) : s79l1_G F x0 x1 x2 x3 h := gJ_plain rfl H
theorem s79l1_in {F : Nat → s79l1_T} {x0 x1 : AVal} {x2 x3 : Int} {h : Heap} (n : Nat) (H : F n x0 x1 x2 x3 h) : s79l1_E F x0 x1 x2 x3 h := gJ_plain rfl ⟨n, H⟩

def s79l1 (Ψ : AVal → Heap → Prop) : Nat → s79l1_T
  | 0, _, _, _, _, _ => False
  | n1 + 1, s1, f1, t7, t8, h =>
    ifT (decide (t8 < t7)) (
      ixS 1 s1 t8 fun p =>
      ld1 h p fun v =>
      tInt .i64 v fun v1 =>
      callV prog f1 [(.int .i64 v1)] h fun v2 h_ =>
      tBool v2 fun v3 =>
      ifT v3 (
        retG (.int .i64 t8) h_ Ψ) (
        rg (t8 + 1) (
          s79l1_G (s79l1 Ψ n1) s1 f1 t7 (t8 + 1) h_))) (
      retG (.int .i64 (-1)) h Ψ)

def s79 (Ψ : AVal → Heap → Prop) (s : AVal) (f : AVal) (h : Heap) : Prop :=
  lenN s fun n =>
  s79l1_E (s79l1 Ψ) s f n 0 h

def s79_A (Ψ : AVal → Heap → Prop) : Ann :=
  .seq (rA 1)
  (.seq (.seq (rA 3)
  (.block (.loop [(0, .any), (1, .any), (7, .int .i64), (8, .int .i64)] (fun n l h => s79l1_R (s79l1 Ψ n) l h) (fun L1 =>
  .seq (rA 1)
  (.seq (.cond (.leaf)
  (.leaf))
  (.seq (.block (.seq (rA 2)
  (.seq (rA 6)
  (.cond (.seq (rA 2)
  (.leaf))
  (.leaf)))))
  (rA 2)))))))
  (.seq (rA 1)
  (.leaf)))

theorem s79_ok {Ψ : AVal → Heap → Prop} {s : AVal} {f : AVal} {h : Heap} (H : s79 Ψ s f h) : ACalls prog 79 [s, f] h Ψ :=
  calls_of_evF func79 (by kernel_rfl) (by kernel_rfl) (by kernel_rfl)
    (Eq.mpr (by as_aux_lemma => kernel_rfl : oblF prog f79 (s79_A Ψ) Ψ = (True ∧ (True ∧ (∀ (h : Heap) (x0 x1 : AVal) (x2 x3 : Int), ON (s79l1 Ψ 0 x0 x1 x2 x3 h)) ∧ ∀ n1 : Nat, (∀ (h : Heap) (x0 x1 : AVal) (x2 x3 : Int), OI (s79l1 Ψ (n1 + 1) x0 x1 x2 x3 h)) ∧ (True ∧ (True ∧ True) ∧ (True ∧ True ∧ (True ∧ True) ∧ True) ∧ True)) ∧ True ∧ True)) ⟨trivial, ⟨⟨trivial, ⟨fun _ _ _ _ _ H => H, fun _ => ⟨fun _ _ _ _ _ H => H, ⟨trivial, ⟨⟨trivial, trivial⟩, ⟨⟨trivial, ⟨trivial, ⟨⟨trivial, trivial⟩, trivial⟩⟩⟩, trivial⟩⟩⟩⟩⟩⟩, ⟨trivial, trivial⟩⟩⟩)
    (Eq.mpr (by as_aux_lemma => kernel_rfl : evF prog f79 (s79_A Ψ) Ψ [s, f] h = s79 Ψ s f h) H)

/- 81 cmp.Less[int] -/
def s81 (Ψ : AVal → Heap → Prop) (x : Int) (y : Int) (h : Heap) : Prop :=
  callG prog 86 [(.int .i64 x)] h fun v h_ =>
  tBool v fun v1 =>
  ifT v1 (
    callG prog 86 [(.int .i64 y)] h_ fun v2 h_1 =>
    tBool v2 fun v3 =>
    ifT (!v3) (
      retG (.bool true) h_1 Ψ) (
      retG (.bool (decide (x < y))) h_1 Ψ)) (
    retG (.bool (decide (x < y))) h_ Ψ)

def s81_A (Ψ : AVal → Heap → Prop) : Ann :=
  .seq (rA 1)
  (.seq (.reg [⟨none, [(0, false), (1, false), (2, false)]⟩, ⟨some (7, true), [(3, false), (4, false), (5, false)]⟩, ⟨none, [(6, false), (7, false)]⟩, ⟨some (12, false), [(8, false), (9, false), (10, false)]⟩, ⟨none, [(11, false), (12, false)]⟩])
  (.leaf))

theorem s81_ok {Ψ : AVal → Heap → Prop} {x : Int} {y : Int} {h : Heap} (H : s81 Ψ x y h) : ACalls prog 81 [(.int .i64 x), (.int .i64 y)] h Ψ :=
  calls_of_evF func81 (by kernel_rfl) (by kernel_rfl) (by kernel_rfl)
    (Eq.mpr (by as_aux_lemma => kernel_rfl : oblF prog f81 (s81_A Ψ) Ψ = (True ∧ True ∧ True)) ⟨trivial, ⟨trivial, trivial⟩⟩)
    (Eq.mpr (by as_aux_lemma => kernel_rfl : evF prog f81 (s81_A Ψ) Ψ [(.int .i64 x), (.int .i64 y)] h = s81 Ψ x y h) H)

/- 83 dictum/worlds.looked -/
abbrev s83l2_T := AVal → Int → AVal → AVal → Int → Int → Heap → Prop
def s83l2_R (F : s83l2_T) (l : List AVal) (h : Heap) : Prop := J.cons l fun x0 l => J.cons l fun v l => J.int .i64 v fun x1 => J.cons l fun x2 l => J.cons l fun x3 l => J.cons l fun v l => J.int .i64 v fun x4 => J.cons l fun v l => J.int .i64 v fun x5 => J.nil l (F x0 x1 x2 x3 x4 x5 h)
def s83l2_G (F : s83l2_T) (x0 : AVal) (x1 : Int) (x2 x3 : AVal) (x4 x5 : Int) (h : Heap) : Prop := gJ [.any, .int .i64, .any, .any, .int .i64, .int .i64] [x0, (.int .i64 x1), x2, x3, (.int .i64 x4), (.int .i64 x5)] h (s83l2_R F)
def s83l2_E (F : Nat → s83l2_T) (x0 : AVal) (x1 : Int) (x2 x3 : AVal) (x4 x5 : Int) (h : Heap) : Prop := gJ [.any, .int .i64, .any, .any, .int .i64, .int .i64] [x0, (.int .i64 x1), x2, x3, (.int .i64 x4), (.int .i64 x5)] h (fun l h => ∃ n, s83l2_R (F n) l h)
theorem s83l2_go {F : s83l2_T} {x0 : AVal} {x1 : Int} {x2 x3 : AVal} {x4 x5 : Int} {h : Heap} (H : F x0 x1 x2 x3 x4 x5 h) : s83l2_G F x0 x1 x2 x3 x4 x5 h := gJ_plain rfl H
theorem s83l2_in {F : Nat → s83l2_T} {x0 : AVal} {x1 : Int} {x2 x3 : AVal} {x4 x5 : Int} {h : Heap} (n : Nat) (H : F n x0 x1 x2 x3 x4 x5 h) : s83l2_E F x0 x1 x2 x3 x4 x5 h := gJ_plain rfl ⟨n, H⟩

abbrev s83l3_T := AVal → Int → AVal → Int → AVal → AVal → Int → Int → Int → Int → Heap → Prop
def s83l3_R (F : s83l3_T) (l : List AVal) (h : Heap) : Prop := J.cons l fun x0 l => J.cons l fun v l => J.int .i64 v fun x1 => J.cons l fun x2 l => J.cons l fun v l => J.int .i64 v fun x3 => J.cons l fun x4 l => J.cons l fun x5 l => J.cons l fun v l => J.int .i64 v fun x6 => J.cons l fun v l => J.int .i64 v fun x7 => J.cons l fun v l => J.int .i64 v fun x8 => J.cons l fun v l => J.int .i64 v fun x9 => J.nil l (F x0 x1 x2 x3 x4 x5 x6 x7 x8 x9 h)
def s83l3_G (F : s83l3_T) (x0 : AVal) (x1 : Int) (x2 : AVal) (x3 : Int) (x4 x5 : AVal) (x6 x7 x8 x9 : Int) (h : Heap) : Prop := gJ [.any, .int .i64, .any, .int .i64, .any, .any, .int .i64, .int .i64, .int .i64, .int .i64] [x0, (.int .i64 x1), x2, (.int .i64 x3), x4, x5, (.int .i64 x6), (.int .i64 x7), (.int .i64 x8), (.int .i64 x9)] h (s83l3_R F)
def s83l3_E (F : Nat → s83l3_T) (x0 : AVal) (x1 : Int) (x2 : AVal) (x3 : Int) (x4 x5 : AVal) (x6 x7 x8 x9 : Int) (h : Heap) : Prop := gJ [.any, .int .i64, .any, .int .i64, .any, .any, .int .i64, .int .i64, .int .i64, .int .i64] [x0, (.int .i64 x1), x2, (.int .i64 x3), x4, x5, (.int .i64 x6), (.int .i64 x7), (.int .i64 x8), (.int .i64 x9)] h (fun l h => ∃ n, s83l3_R (F n) l h)
theorem s83l3_go {F : s83l3_T} {x0 : AVal} {x1 : Int} {x2 : AVal} {x3 : Int} {x4 x5 : AVal} {x6 x7 x8 x9 : Int} {h : Heap} (H : F x0 x1 x2 x3 x4 x5 x6 x7 x8 x9 h) : s83l3_G F x0 x1 x2 x3 x4 x5 x6 x7 x8 x9 h := gJ_plain rfl H
theorem s83l3_in {F : Nat → s83l3_T} {x0 : AVal} {x1 : Int} {x2 : AVal} {x3 : Int} {x4 x5 : AVal} {x6 x7 x8 x9 : Int} {h : Heap} (n : Nat) (H : F n x0 x1 x2 x3 x4 x5 x6 x7 x8 x9 h) : s83l3_E F x0 x1 x2 x3 x4 x5 x6 x7 x8 x9 h := gJ_plain rfl ⟨n, H⟩

def s83c4 (Ψ : AVal → Heap → Prop) (L2 : s83l2_T) (L3 : s83l3_T) (m3 : AVal) (n7 : Int) (leq2 : AVal) (a1 : Int) (l_7 t34_2 : AVal) (t35_2 t36_2 t44_1 t45_1 : Int) (h : Heap) : Prop :=
  rg (t45_1 + 1) (
    L3 m3 n7 leq2 a1 l_7 t34_2 t35_2 t36_2 t44_1 (t45_1 + 1) h)

def s83c6 (Ψ : AVal → Heap → Prop) (L2 : s83l2_T) (L3 : s83l3_T) (m5 : AVal) (n9 : Int) (leq4 : AVal) (a3 : Int) (l_9 t34_4 : AVal) (t35_4 t36_4 t44_3 t45_3 : Int) (t66 : Bool) (h : Heap) : Prop :=
  ifT t66 (
    retG (.tuple [.nilfunc, (.bool false)]) h Ψ) (
    s83c4 Ψ L2 L3 m5 n9 leq4 a3 l_9 t34_4 t35_4 t36_4 t44_3 t45_3 h)

def s83c5 (Ψ : AVal → Heap → Prop) (L2 : s83l2_T) (L3 : s83l3_T) (m4 : AVal) (n8 : Int) (leq3 : AVal) (a2 : Int) (l_8 b t34_3 : AVal) (t35_3 t36_3 t44_2 t45_2 : Int) (t57 : Bool) (h : Heap) : Prop :=
  ifT t57 (
    s83c4 Ψ L2 L3 m4 n8 leq3 a2 l_8 t34_3 t35_3 t36_3 t44_2 t45_2 h) (
    ld1 h b fun v10 =>
    tInt .i64 v10 fun v11 =>
    callV prog leq3 [(.int .i64 v11), (.int .i64 a2)] h fun v12 h_4 =>
    tBool v12 fun v13 =>
    ifT v13 (
      s83c6 Ψ L2 L3 m4 n8 leq3 a2 l_8 t34_3 t35_3 t36_3 t44_2 t45_2 true h_4) (
      callG prog 44 [l_8, (.func (.func 89) [] [m4, b])] h_4 fun v14 h_5 =>
      tBool v14 fun v15 =>
      s83c6 Ψ L2 L3 m4 n8 leq3 a2 l_8 t34_3 t35_3 t36_3 t44_2 t45_2 v15 h_5))

def s83l3 (Ψ : AVal → Heap → Prop) (L2 : s83l2_T) : Nat → s83l3_T
  | 0, _, _, _, _, _, _, _, _, _, _, _ => False
  | n6 + 1, m2, n5, leq1, a, l_6, t34_1, t35_1, t36_1, t44, t45, h =>
    ifT (decide (t45 < t44)) (
      Sym.newRow 1 [(.int .i64 0)] h fun r h_2 =>
      st true h_2 (.ptr r 0 0) [(.int .i64 t45)] fun h_3 =>
      ld1 h_3 (.ptr r 0 0) fun v16 =>
      tInt .i64 v16 fun v17 =>
      ifT (a == v17) (
        s83c5 Ψ L2 (s83l3_G (s83l3 Ψ L2 n6)) m2 n5 leq1 a l_6 (.ptr r 0 0) t34_1 t35_1 t36_1 t44 t45 true h_3) (
        ld1 h_3 (.ptr r 0 0) fun v18 =>
        tInt .i64 v18 fun v19 =>
        callV prog leq1 [(.int .i64 a), (.int .i64 v19)] h_3 fun v20 h_6 =>
        tBool v20 fun v21 =>
        s83c5 Ψ L2 (s83l3_G (s83l3 Ψ L2 n6)) m2 n5 leq1 a l_6 (.ptr r 0 0) t34_1 t35_1 t36_1 t44 t45 (!v21) h_6)) (
      rg (t36_1 + 1) (
        L2 m2 n5 leq1 t34_1 t35_1 (t36_1 + 1) h))

def s83l2 (Ψ : AVal → Heap → Prop) : Nat → s83l2_T
  | 0, _, _, _, _, _, _, _ => False
  | n4 + 1, m1, n3, leq, t34, t35, t36, h =>
    ifT (decide (t36 < t35)) (
      ixS 1 t34 t36 fun p1 =>
      ld1 h p1 fun v7 =>
      callG prog 88 [v7] h fun v8 h_1 =>
      tBool v8 fun v9 =>
      ifT (!v9) (
        retG (.tuple [.nilfunc, (.bool false)]) h_1 Ψ) (
        s83l3_E (s83l3 Ψ (s83l2_G (s83l2 Ψ n4))) m1 n3 leq t36 v7 t34 t35 t36 n3 0 h_1)) (
      retG (.tuple [leq, (.bool true)]) h Ψ)

def s83c1 (Ψ : AVal → Heap → Prop) (m : AVal) (n1 : Int) (t25 : Bool) (h : Heap) : Prop :=
  ifT t25 (
    retG (.tuple [.nilfunc, (.bool false)]) h Ψ) (
    ldN 2 h m fun l_ =>
    tCons l_ fun v l_1 =>
    tCons l_1 fun v1 l_2 =>
    tNil l_2 (
      callG prog 87 [(.agg [v, v1])] h fun v2 h_ =>
      tTup v2 fun l_3 =>
      tCons l_3 fun v3 l_4 =>
      tCons l_4 fun v4 l_5 =>
      tBool v4 fun v5 =>
      tNil l_5 (
        ifT (!v5) (
          retG (.tuple [.nilfunc, (.bool false)]) h_ Ψ) (
          addOff m 1 fun p =>
          ld1 h_ p fun v6 =>
          lenN v6 fun n2 =>
          s83l2_E (s83l2 Ψ) m n1 v3 v6 n2 0 h_))))

def s83 (Ψ : AVal → Heap → Prop) (m_Up : AVal) (m_Val : AVal) (h : Heap) : Prop :=
  lenN m_Up fun n =>
  ifT (decide (n < 1)) (
    s83c1 Ψ (.lptr [m_Up, m_Val]) n true h) (
    ifT (decide (512 < n)) (
      s83c1 Ψ (.lptr [m_Up, m_Val]) n true h) (
      lenN m_Val fun n12 =>
      s83c1 Ψ (.lptr [m_Up, m_Val]) n (n12 != n) h))

def s83_A (Ψ : AVal → Heap → Prop) : Ann :=
  .seq (.reg [⟨none, [(0, true), (1, false), (2, false)]⟩])
  (.seq (rA 4)
  (.seq (.cut [(1, .any), (4, .int .i64), (25, .bool)] (fun l h => J.cons l fun x0 l => J.cons l fun v l => J.int .i64 v fun x1 => J.cons l fun v l => J.bool v fun x2 => J.nil l (s83c1 Ψ x0 x1 x2 h)) (.reg [⟨none, [(0, false), (1, false), (2, false)]⟩, ⟨some (15, false), [(3, false), (4, false)]⟩, ⟨none, [(5, false), (6, false)]⟩, ⟨some (19, false), [(7, false), (8, false), (9, false), (10, false), (11, false)]⟩, ⟨none, [(12, false)]⟩])
  (.cond (.seq (rA 2)
  (.leaf))
  (.leaf)))
  (.seq (rA 7)
  (.seq (.seq (rA 2)
  (.cond (.seq (rA 2)
  (.leaf))
  (.leaf)))
  (.seq (.seq (rA 4)
  (.block (.loop [(1, .any), (4, .int .i64), (5, .any), (34, .any), (35, .int .i64), (36, .int .i64)] (fun n l h => s83l2_R (s83l2 Ψ n) l h) (fun L2 =>
  .seq (rA 1)
  (.seq (.cond (.leaf)
  (.leaf))
  (.seq (.block (.seq (rA 5)
  (.seq (.seq (rA 3)
  (.cond (.seq (rA 2)
  (.leaf))
  (.leaf)))
  (.seq (rA 2)
  (.block (.loop [(1, .any), (4, .int .i64), (5, .any), (7, .int .i64), (8, .any), (34, .any), (35, .int .i64), (36, .int .i64), (44, .int .i64), (45, .int .i64)] (fun n l h => s83l3_R (s83l3 Ψ (fun y0 y1 y2 y3 y4 y5 h => L2 [y0, (.int .i64 y1), y2, y3, (.int .i64 y4), (.int .i64 y5)] h) n) l h) (fun L3 =>
  .seq (rA 1)
  (.seq (.cond (.leaf)
  (.leaf))
  (.cut [(1, .any), (4, .int .i64), (5, .any), (7, .int .i64), (8, .any), (34, .any), (35, .int .i64), (36, .int .i64), (44, .int .i64), (45, .int .i64)] (fun l h => J.cons l fun x0 l => J.cons l fun v l => J.int .i64 v fun x1 => J.cons l fun x2 l => J.cons l fun v l => J.int .i64 v fun x3 => J.cons l fun x4 l => J.cons l fun x5 l => J.cons l fun v l => J.int .i64 v fun x6 => J.cons l fun v l => J.int .i64 v fun x7 => J.cons l fun v l => J.int .i64 v fun x8 => J.cons l fun v l => J.int .i64 v fun x9 => J.nil l (s83c4 Ψ (fun y0 y1 y2 y3 y4 y5 h => L2 [y0, (.int .i64 y1), y2, y3, (.int .i64 y4), (.int .i64 y5)] h) (fun y0 y1 y2 y3 y4 y5 y6 y7 y8 y9 h => L3 [y0, (.int .i64 y1), y2, (.int .i64 y3), y4, y5, (.int .i64 y6), (.int .i64 y7), (.int .i64 y8), (.int .i64 y9)] h) x0 x1 x2 x3 x4 x5 x6 x7 x8 x9 h)) (.block (.seq (rA 3)
  (.seq (.cut [(1, .any), (4, .int .i64), (5, .any), (7, .int .i64), (8, .any), (9, .any), (34, .any), (35, .int .i64), (36, .int .i64), (44, .int .i64), (45, .int .i64), (57, .bool)] (fun l h => J.cons l fun x0 l => J.cons l fun v l => J.int .i64 v fun x1 => J.cons l fun x2 l => J.cons l fun v l => J.int .i64 v fun x3 => J.cons l fun x4 l => J.cons l fun x5 l => J.cons l fun x6 l => J.cons l fun v l => J.int .i64 v fun x7 => J.cons l fun v l => J.int .i64 v fun x8 => J.cons l fun v l => J.int .i64 v fun x9 => J.cons l fun v l => J.int .i64 v fun x10 => J.cons l fun v l => J.bool v fun x11 => J.nil l (s83c5 Ψ (fun y0 y1 y2 y3 y4 y5 h => L2 [y0, (.int .i64 y1), y2, y3, (.int .i64 y4), (.int .i64 y5)] h) (fun y0 y1 y2 y3 y4 y5 y6 y7 y8 y9 h => L3 [y0, (.int .i64 y1), y2, (.int .i64 y3), y4, y5, (.int .i64 y6), (.int .i64 y7), (.int .i64 y8), (.int .i64 y9)] h) x0 x1 x2 x3 x4 x5 x6 x7 x8 x9 x10 x11 h)) (.reg [⟨none, [(0, false), (1, false), (2, false), (3, false)]⟩, ⟨some (51, false), [(4, false), (5, false), (6, false), (7, false), (8, false)]⟩, ⟨none, [(9, false)]⟩])
  (.cond (.leaf)
  (.leaf)))
  (.cut [(1, .any), (4, .int .i64), (5, .any), (7, .int .i64), (8, .any), (34, .any), (35, .int .i64), (36, .int .i64), (44, .int .i64), (45, .int .i64), (66, .bool)] (fun l h => J.cons l fun x0 l => J.cons l fun v l => J.int .i64 v fun x1 => J.cons l fun x2 l => J.cons l fun v l => J.int .i64 v fun x3 => J.cons l fun x4 l => J.cons l fun x5 l => J.cons l fun v l => J.int .i64 v fun x6 => J.cons l fun v l => J.int .i64 v fun x7 => J.cons l fun v l => J.int .i64 v fun x8 => J.cons l fun v l => J.int .i64 v fun x9 => J.cons l fun v l => J.bool v fun x10 => J.nil l (s83c6 Ψ (fun y0 y1 y2 y3 y4 y5 h => L2 [y0, (.int .i64 y1), y2, y3, (.int .i64 y4), (.int .i64 y5)] h) (fun y0 y1 y2 y3 y4 y5 y6 y7 y8 y9 h => L3 [y0, (.int .i64 y1), y2, (.int .i64 y3), y4, y5, (.int .i64 y6), (.int .i64 y7), (.int .i64 y8), (.int .i64 y9)] h) x0 x1 x2 x3 x4 x5 x6 x7 x8 x9 x10 h)) (.reg [⟨none, [(0, false), (1, false), (2, false), (3, false), (4, false)]⟩, ⟨some (62, false), [(5, false), (6, false), (7, false)]⟩, ⟨none, [(8, false)]⟩])
  (.cond (.seq (rA 2)
  (.leaf))
  (.leaf))))))
  (rA 2))))))))))
  (rA 2)))))))
  (.seq (rA 3)
  (.leaf)))))))

theorem s83_ok {Ψ : AVal → Heap → Prop} {m_Up : AVal} {m_Val : AVal} {h : Heap} (H : s83 Ψ m_Up m_Val h) : ACalls prog 83 [(.agg [m_Up, m_Val])] h Ψ :=
  calls_of_evF func83 (by kernel_rfl) (by kernel_rfl) (by kernel_rfl)
    (Eq.mpr (by as_aux_lemma => kernel_rfl : oblF prog f83 (s83_A Ψ) Ψ = (True ∧ True ∧ ((True) ∧ (∀ (h : Heap) (x0 : AVal) (x1 : Int) (x2 : Bool), OI (s83c1 Ψ x0 x1 x2 h)) ∧ ((True ∧ True) ∧ True)) ∧ True ∧ (True ∧ (True ∧ True) ∧ True) ∧ (True ∧ (∀ (h : Heap) (x0 : AVal) (x1 : Int) (x2 x3 : AVal) (x4 x5 : Int), ON (s83l2 Ψ 0 x0 x1 x2 x3 x4 x5 h)) ∧ ∀ n2 : Nat, (∀ (h : Heap) (x0 : AVal) (x1 : Int) (x2 x3 : AVal) (x4 x5 : Int), OI (s83l2 Ψ (n2 + 1) x0 x1 x2 x3 x4 x5 h)) ∧ (True ∧ (True ∧ True) ∧ (True ∧ (True ∧ (True ∧ True) ∧ True) ∧ True ∧ (∀ (h : Heap) (x0 : AVal) (x1 : Int) (x2 : AVal) (x3 : Int) (x4 x5 : AVal) (x6 x7 x8 x9 : Int), ON (s83l3 Ψ (s83l2_G (s83l2 Ψ n2)) 0 x0 x1 x2 x3 x4 x5 x6 x7 x8 x9 h)) ∧ ∀ n3 : Nat, (∀ (h : Heap) (x0 : AVal) (x1 : Int) (x2 : AVal) (x3 : Int) (x4 x5 : AVal) (x6 x7 x8 x9 : Int), OI (s83l3 Ψ (s83l2_G (s83l2 Ψ n2)) (n3 + 1) x0 x1 x2 x3 x4 x5 x6 x7 x8 x9 h)) ∧ (True ∧ (True ∧ True) ∧ (True ∧ ((True) ∧ (∀ (h : Heap) (x0 : AVal) (x1 : Int) (x2 : AVal) (x3 : Int) (x4 x5 x6 : AVal) (x7 x8 x9 x10 : Int) (x11 : Bool), OI (s83c5 Ψ (s83l2_G (s83l2 Ψ n2)) (s83l3_G (s83l3 Ψ (s83l2_G (s83l2 Ψ n2)) n3)) x0 x1 x2 x3 x4 x5 x6 x7 x8 x9 x10 x11 h)) ∧ (True ∧ True)) ∧ (True) ∧ (∀ (h : Heap) (x0 : AVal) (x1 : Int) (x2 : AVal) (x3 : Int) (x4 x5 : AVal) (x6 x7 x8 x9 : Int) (x10 : Bool), OI (s83c6 Ψ (s83l2_G (s83l2 Ψ n2)) (s83l3_G (s83l3 Ψ (s83l2_G (s83l2 Ψ n2)) n3)) x0 x1 x2 x3 x4 x5 x6 x7 x8 x9 x10 h)) ∧ ((True ∧ True) ∧ True)) ∧ (∀ (h : Heap) (x0 : AVal) (x1 : Int) (x2 : AVal) (x3 : Int) (x4 x5 : AVal) (x6 x7 x8 x9 : Int), OI (s83c4 Ψ (s83l2_G (s83l2 Ψ n2)) (s83l3_G (s83l3 Ψ (s83l2_G (s83l2 Ψ n2)) n3)) x0 x1 x2 x3 x4 x5 x6 x7 x8 x9 h)) ∧ (True))) ∧ True)) ∧ True ∧ True)) ⟨trivial, ⟨trivial, ⟨⟨trivial, fun _ _ _ _ H => H, ⟨⟨trivial, trivial⟩, trivial⟩⟩, ⟨trivial, ⟨⟨trivial, ⟨⟨trivial, trivial⟩, trivial⟩⟩, ⟨⟨trivial, ⟨fun _ _ _ _ _ _ _ H => H, fun _ => ⟨fun _ _ _ _ _ _ _ H => H, ⟨trivial, ⟨⟨trivial, trivial⟩, ⟨⟨trivial, ⟨⟨trivial, ⟨⟨trivial, trivial⟩, trivial⟩⟩, ⟨trivial, ⟨fun _ _ _ _ _ _ _ _ _ _ _ H => H, fun _ => ⟨fun _ _ _ _ _ _ _ _ _ _ _ H => H, ⟨trivial, ⟨⟨trivial, trivial⟩, ⟨⟨trivial, ⟨⟨trivial, fun _ _ _ _ _ _ _ _ _ _ _ _ _ H => H, ⟨trivial, trivial⟩⟩, ⟨trivial, fun _ _ _ _ _ _ _ _ _ _ _ _ H => H, ⟨⟨trivial, trivial⟩, trivial⟩⟩⟩⟩, fun _ _ _ _ _ _ _ _ _ _ _ H => H, trivial⟩⟩⟩⟩⟩⟩⟩⟩, trivial⟩⟩⟩⟩⟩⟩, ⟨trivial, trivial⟩⟩⟩⟩⟩⟩⟩)
    (Eq.mpr (by as_aux_lemma => kernel_rfl : evF prog f83 (s83_A Ψ) Ψ [(.agg [m_Up, m_Val])] h = s83 Ψ m_Up m_Val h) H)

/- 87 dictum/worlds.reckon -/
abbrev s87l1_T := AVal → Int → AVal → Int → Int → Heap → Prop
def s87l1_R (F : s87l1_T) (l : List AVal) (h : Heap) : Prop := J.cons l fun x0 l => J.cons l fun v l => J.int .i64 v fun x1 => J.cons l fun x2 l => J.cons l fun v l => J.int .i64 v fun x3 => J.cons l fun v l => J.int .i64 v fun x4 => J.nil l (F x0 x1 x2 x3 x4 h)
def s87l1_G (F : s87l1_T) (x0 : AVal) (x1 : Int) (x2 : AVal) (x3 x4 : Int) (h : Heap) : Prop := gJ [.any, .int .i64, .any, .int .i64, .int .i64] [x0, (.int .i64 x1), x2, (.int .i64 x3), (.int .i64 x4)] h (s87l1_R F)
def s87l1_E (F : Nat → s87l1_T) (x0 : AVal) (x1 : Int) (x2 : AVal) (x3 x4 : Int) (h : Heap) : Prop := gJ [.any, .int .i64, .any, .int .i64, .int .i64] [x0, (.int .i64 x1), x2, (.int .i64 x3), (.int .i64 x4)] h (fun l h => ∃ n, s87l1_R (F n) l h)
theorem s87l1_go {F : s87l1_T} {x0 : AVal} {x1 : Int} {x2 : AVal} {x3 x4 : Int} {h : Heap} (H : F x0 x1 x2 x3 x4 h) : s87l1_G F x0 x1 x2 x3 x4 h := gJ_plain rfl H
theorem s87l1_in {F : Nat → s87l1_T} {x0 : AVal} {x1 : Int} {x2 : AVal} {x3 x4 : Int} {h : Heap} (n : Nat) (H : F n x0 x1 x2 x3 x4 h) : s87l1_E F x0 x1 x2 x3 x4 h := gJ_plain rfl ⟨n, H⟩

abbrev s87l2_T := AVal → Int → AVal → AVal → AVal → Int → Int → Heap → Prop
def s87l2_R (F : s87l2_T) (l : List AVal) (h : Heap) : Prop := J.cons l fun x0 l => J.cons l fun v l => J.int .i64 v fun x1 => J.cons l fun x2 l => J.cons l fun x3 l => J.cons l fun x4 l => J.cons l fun v l => J.int .i64 v fun x5 => J.cons l fun v l => J.int .i64 v fun x6 => J.nil l (F x0 x1 x2 x3 x4 x5 x6 h)
def s87l2_G (F : s87l2_T) (x0 : AVal) (x1 : Int) (x2 x3 x4 : AVal) (x5 x6 : Int) (h : Heap) : Prop := gJ [.any, .int .i64, .any, .any, .any, .int .i64, .int .i64] [x0, (.int .i64 x1), x2, x3, x4, (.int .i64 x5), (.int .i64 x6)] h (s87l2_R F)
def s87l2_E (F : Nat → s87l2_T) (x0 : AVal) (x1 : Int) (x2 x3 x4 : AVal) (x5 x6 : Int) (h : Heap) : Prop := gJ [.any, .int .i64, .any, .any, .any, .int .i64, .int .i64] [x0, (.int .i64 x1), x2, x3, x4, (.int .i64 x5), (.int .i64 x6)] h (fun l h => ∃ n, s87l2_R (F n) l h)
theorem s87l2_go {F : s87l2_T} {x0 : AVal} {x1 : Int} {x2 x3 x4 : AVal} {x5 x6 : Int} {h : Heap} (H : F x0 x1 x2 x3 x4 x5 x6 h) : s87l2_G F x0 x1 x2 x3 x4 x5 x6 h := gJ_plain rfl H
theorem s87l2_in {F : Nat → s87l2_T} {x0 : AVal} {x1 : Int} {x2 x3 x4 : AVal} {x5 x6 : Int} {h : Heap} (n : Nat) (H : F n x0 x1 x2 x3 x4 x5 x6 h) : s87l2_E F x0 x1 x2 x3 x4 x5 x6 h := gJ_plain rfl ⟨n, H⟩

abbrev s87l3_T := AVal → Int → AVal → AVal → AVal → Int → Int → AVal → Int → Int → Heap → Prop
def s87l3_R (F : s87l3_T) (l : List AVal) (h : Heap) : Prop := J.cons l fun x0 l => J.cons l fun v l => J.int .i64 v fun x1 => J.cons l fun x2 l => J.cons l fun x3 l => J.cons l fun x4 l => J.cons l fun v l => J.int .i64 v fun x5 => J.cons l fun v l => J.int .i64 v fun x6 => J.cons l fun x7 l => J.cons l fun v l => J.int .i64 v fun x8 => J.cons l fun v l => J.int .i64 v fun x9 => J.nil l (F x0 x1 x2 x3 x4 x5 x6 x7 x8 x9 h)
def s87l3_G (F : s87l3_T) (x0 : AVal) (x1 : Int) (x2 x3 x4 : AVal) (x5 x6 : Int) (x7 : AVal) (x8 x9 : Int) (h : Heap) : Prop := gJ [.any, .int .i64, .any, .any, .any, .int .i64, .int .i64, .any, .int .i64, .int .i64] [x0, (.int .i64 x1), x2, x3, x4, (.int .i64 x5), (.int .i64 x6), x7, (.int .i64 x8), (.int .i64 x9)] h (s87l3_R F)
def s87l3_E (F : Nat → s87l3_T) (x0 : AVal) (x1 : Int) (x2 x3 x4 : AVal) (x5 x6 : Int) (x7 : AVal) (x8 x9 : Int) (h : Heap) : Prop := gJ [.any, .int .i64, .any, .any, .any, .int .i64, .int .i64, .any, .int .i64, .int .i64] [x0, (.int .i64 x1), x2, x3, x4, (.int .i64 x5), (.int .i64 x6), x7, (.int .i64 x8), (.int .i64 x9)] h (fun l h => ∃ n, s87l3_R (F n) l h)
theorem s87l3_go {F : s87l3_T} {x0 : AVal} {x1 : Int} {x2 x3 x4 : AVal} {x5 x6 : Int} {x7 : AVal} {x8 x9 : Int} {h : Heap} (H : F x0 x1 x2 x3 x4 x5 x6 x7 x8 x9 h) : s87l3_G F x0 x1 x2 x3 x4 x5 x6 x7 x8 x9 h := gJ_plain rfl H
theorem s87l3_in {F : Nat → s87l3_T} {x0 : AVal} {x1 : Int} {x2 x3 x4 : AVal} {x5 x6 : Int} {x7 : AVal} {x8 x9 : Int} {h : Heap} (n : Nat) (H : F n x0 x1 x2 x3 x4 x5 x6 x7 x8 x9 h) : s87l3_E F x0 x1 x2 x3 x4 x5 x6 x7 x8 x9 h := gJ_plain rfl ⟨n, H⟩

def s87c4 (Ψ : AVal → Heap → Prop) (L1 : s87l1_T) (L2 : s87l2_T) (L3 : s87l3_T) (m3 : AVal) (n12 : Int) (above3 row2 stack2 : AVal) (t18_3 t19_3 : Int) (t51_1 : AVal) (t52_1 t53_1 : Int) (h : Heap) : Prop :=
  rg (t53_1 + 1) (
    L3 m3 n12 above3 row2 stack2 t18_3 t19_3 t51_1 t52_1 (t53_1 + 1) h)

def s87c5 (Ψ : AVal → Heap → Prop) (L1 : s87l1_T) (L2 : s87l2_T) (L3 : s87l3_T) (m4 : AVal) (n13 : Int) (above4 row3 stack3 : AVal) (b t18_4 t19_4 : Int) (t51_2 : AVal) (t52_2 t53_2 : Int) (t63 : Bool) (h : Heap) : Prop :=
  ifT t63 (
    retG (.tuple [.nilfunc, (.bool false)]) h Ψ) (
    ixS 1 row3 b fun p6 =>
    ld1 h p6 fun v11 =>
    tBool v11 fun v12 =>
    ifT (!v12) (
      ixS 1 row3 b fun p7 =>
      st true h p7 [(.bool true)] fun h_7 =>
      appC 1 8 h_7 stack3 (.lsl 1 [(.int .i64 b)]) fun v13 h_8 =>
      s87c4 Ψ L1 L2 L3 m4 n13 above4 row3 v13 t18_4 t19_4 t51_2 t52_2 t53_2 h_8) (
      s87c4 Ψ L1 L2 L3 m4 n13 above4 row3 stack3 t18_4 t19_4 t51_2 t52_2 t53_2 h))

def s87l3 (Ψ : AVal → Heap → Prop) (L1 : s87l1_T) (L2 : s87l2_T) : Nat → s87l3_T
  | 0, _, _, _, _, _, _, _, _, _, _, _ => False
  | n11 + 1, m2, n10, above2, row1, stack1, t18_2, t19_2, t51, t52, t53, h =>
    ifT (decide (t53 < t52)) (
      ixS 1 t51 t53 fun p5 =>
      ld1 h p5 fun v9 =>
      tInt .i64 v9 fun v10 =>
      ifT (decide (v10 < 0)) (
        s87c5 Ψ L1 L2 (s87l3_G (s87l3 Ψ L1 L2 n11)) m2 n10 above2 row1 stack1 v10 t18_2 t19_2 t51 t52 t53 true h) (
        s87c5 Ψ L1 L2 (s87l3_G (s87l3 Ψ L1 L2 n11)) m2 n10 above2 row1 stack1 v10 t18_2 t19_2 t51 t52 t53 (decide (n10 ≤ v10)) h)) (
      L2 m2 n10 above2 row1 stack1 t18_2 t19_2 h)

def s87l2 (Ψ : AVal → Heap → Prop) (L1 : s87l1_T) : Nat → s87l2_T
  | 0, _, _, _, _, _, _, _, _ => False
  | n5 + 1, m1, n4, above1, row, stack, t18_1, t19_1, h =>
    lenN stack fun n6 =>
    ifT (decide (0 < n6)) (
      lenN stack fun n7 =>
      rg (n7 - 1) (
        ixS 1 stack (n7 - 1) fun p2 =>
        ld1 h p2 fun v4 =>
        tInt .i64 v4 fun v5 =>
        lenN stack fun n8 =>
        rg (n8 - 1) (
          slX 1 stack 0 (some (n8 - 1)) fun v6 =>
          addOff m1 0 fun p3 =>
          ld1 h p3 fun v7 =>
          ixS 1 v7 v5 fun p4 =>
          ld1 h p4 fun v8 =>
          lenN v8 fun n9 =>
          s87l3_E (s87l3 Ψ L1 (s87l2_G (s87l2 Ψ L1 n5))) m1 n4 above1 row v6 t18_1 t19_1 v8 n9 0 h))) (
      rg (t19_1 + 1) (
        L1 m1 n4 above1 t18_1 (t19_1 + 1) h))

def s87l1 (Ψ : AVal → Heap → Prop) : Nat → s87l1_T
  | 0, _, _, _, _, _, _ => False
  | n3 + 1, m, n2, above, t18, t19, h =>
    ifT (decide (t19 < t18)) (
      mkS false 1 1 (.bool false) h n2 n2 fun v2 h_3 =>
      ld1 h_3 above fun v3 =>
      ixS 1 v3 t19 fun p =>
      chk (sc v2) (
        st true h_3 p [v2] fun h_4 =>
        ixS 1 v2 t19 fun p1 =>
        st true h_4 p1 [(.bool true)] fun h_5 =>
        Sym.newRow 1 [(.int .i64 t19)] h_5 fun r1 h_6 =>
        s87l2_E (s87l2 Ψ (s87l1_G (s87l1 Ψ n3))) m n2 above v2 (.sl r1 1 0 1) t18 t19 h_6)) (
      retG (.tuple [(.func (.func 90) [] [above]), (.bool true)]) h Ψ)

def s87 (Ψ : AVal → Heap → Prop) (m_Up : AVal) (m_Val : AVal) (h : Heap) : Prop :=
  lenN m_Up fun n =>
  mkS false 1 24 .nilsl h n n fun v h_ =>
  Sym.newRow 1 [.nilsl] h_ fun r h_1 =>
  chk (sc v) (
    st true h_1 (.ptr r 0 0) [v] fun h_2 =>
    ld1 h_2 (.ptr r 0 0) fun v1 =>
    lenN v1 fun n1 =>
    s87l1_E (s87l1 Ψ) (.lptr [m_Up, m_Val]) n (.ptr r 0 0) n1 0 h_2)

def s87_A (Ψ : AVal → Heap → Prop) : Ann :=
  .seq (.reg [⟨none, [(0, true), (1, false), (2, false)]⟩])
  (.seq (rA 4)
  (.seq (rA 4)
  (.seq (.seq (rA 3)
  (.block (.loop [(1, .any), (4, .int .i64), (5, .any), (18, .int .i64), (19, .int .i64)] (fun n l h => s87l1_R (s87l1 Ψ n) l h) (fun L1 =>
  .seq (rA 1)
  (.seq (.cond (.leaf)
  (.leaf))
  (.seq (.block (.seq (rA 2)
  (.seq (rA 3)
  (.seq (rA 5)
  (.seq (rA 4)
  (.seq (rA 3)
  (.block (.loop [(1, .any), (4, .int .i64), (5, .any), (7, .any), (8, .any), (18, .int .i64), (19, .int .i64)] (fun n l h => s87l2_R (s87l2 Ψ (fun y0 y1 y2 y3 y4 h => L1 [y0, (.int .i64 y1), y2, (.int .i64 y3), (.int .i64 y4)] h) n) l h) (fun L2 =>
  .seq (.seq (rA 3)
  (.cond (.leaf)
  (.leaf)))
  (.block (.seq (rA 7)
  (.seq (rA 6)
  (.seq (rA 7)
  (.block (.loop [(1, .any), (4, .int .i64), (5, .any), (7, .any), (8, .any), (18, .int .i64), (19, .int .i64), (51, .any), (52, .int .i64), (53, .int .i64)] (fun n l h => s87l3_R (s87l3 Ψ (fun y0 y1 y2 y3 y4 h => L1 [y0, (.int .i64 y1), y2, (.int .i64 y3), (.int .i64 y4)] h) (fun y0 y1 y2 y3 y4 y5 y6 h => L2 [y0, (.int .i64 y1), y2, y3, y4, (.int .i64 y5), (.int .i64 y6)] h) n) l h) (fun L3 =>
  .seq (rA 1)
  (.seq (.cond (.leaf)
  (.leaf))
  (.cut [(1, .any), (4, .int .i64), (5, .any), (7, .any), (8, .any), (18, .int .i64), (19, .int .i64), (51, .any), (52, .int .i64), (53, .int .i64)] (fun l h => J.cons l fun x0 l => J.cons l fun v l => J.int .i64 v fun x1 => J.cons l fun x2 l => J.cons l fun x3 l => J.cons l fun x4 l => J.cons l fun v l => J.int .i64 v fun x5 => J.cons l fun v l => J.int .i64 v fun x6 => J.cons l fun x7 l => J.cons l fun v l => J.int .i64 v fun x8 => J.cons l fun v l => J.int .i64 v fun x9 => J.nil l (s87c4 Ψ (fun y0 y1 y2 y3 y4 h => L1 [y0, (.int .i64 y1), y2, (.int .i64 y3), (.int .i64 y4)] h) (fun y0 y1 y2 y3 y4 y5 y6 h => L2 [y0, (.int .i64 y1), y2, y3, y4, (.int .i64 y5), (.int .i64 y6)] h) (fun y0 y1 y2 y3 y4 y5 y6 y7 y8 y9 h => L3 [y0, (.int .i64 y1), y2, y3, y4, (.int .i64 y5), (.int .i64 y6), y7, (.int .i64 y8), (.int .i64 y9)] h) x0 x1 x2 x3 x4 x5 x6 x7 x8 x9 h)) (.block (.seq (rA 3)
  (.seq (.cut [(1, .any), (4, .int .i64), (5, .any), (7, .any), (8, .any), (11, .int .i64), (18, .int .i64), (19, .int .i64), (51, .any), (52, .int .i64), (53, .int .i64), (63, .bool)] (fun l h => J.cons l fun x0 l => J.cons l fun v l => J.int .i64 v fun x1 => J.cons l fun x2 l => J.cons l fun x3 l => J.cons l fun x4 l => J.cons l fun v l => J.int .i64 v fun x5 => J.cons l fun v l => J.int .i64 v fun x6 => J.cons l fun v l => J.int .i64 v fun x7 => J.cons l fun x8 l => J.cons l fun v l => J.int .i64 v fun x9 => J.cons l fun v l => J.int .i64 v fun x10 => J.cons l fun v l => J.bool v fun x11 => J.nil l (s87c5 Ψ (fun y0 y1 y2 y3 y4 h => L1 [y0, (.int .i64 y1), y2, (.int .i64 y3), (.int .i64 y4)] h) (fun y0 y1 y2 y3 y4 y5 y6 h => L2 [y0, (.int .i64 y1), y2, y3, y4, (.int .i64 y5), (.int .i64 y6)] h) (fun y0 y1 y2 y3 y4 y5 y6 y7 y8 y9 h => L3 [y0, (.int .i64 y1), y2, y3, y4, (.int .i64 y5), (.int .i64 y6), y7, (.int .i64 y8), (.int .i64 y9)] h) x0 x1 x2 x3 x4 x5 x6 x7 x8 x9 x10 x11 h)) (.reg [⟨none, [(0, false), (1, false), (2, false)]⟩, ⟨some (59, false), [(3, false), (4, false), (5, false)]⟩, ⟨none, [(6, false)]⟩])
  (.cond (.seq (rA 2)
  (.leaf))
  (.leaf)))
  (.seq (rA 5)
  (.cond (.seq (rA 4)
  (.reg [⟨none, [(0, false), (1, false), (2, true), (3, false), (4, false)]⟩]))
  (.leaf))))))
  (rA 2)))))))))))))))))))
  (rA 2)))))))
  (.seq (rA 3)
  (.leaf)))))

theorem s87_ok {Ψ : AVal → Heap → Prop} {m_Up : AVal} {m_Val : AVal} {h : Heap} (H : s87 Ψ m_Up m_Val h) : ACalls prog 87 [(.agg [m_Up, m_Val])] h Ψ :=
  calls_of_evF func87 (by kernel_rfl) (by kernel_rfl) (by kernel_rfl)
    (Eq.mpr (by as_aux_lemma => kernel_rfl : oblF prog f87 (s87_A Ψ) Ψ = (True ∧ True ∧ True ∧ (True ∧ (∀ (h : Heap) (x0 : AVal) (x1 : Int) (x2 : AVal) (x3 x4 : Int), ON (s87l1 Ψ 0 x0 x1 x2 x3 x4 h)) ∧ ∀ n1 : Nat, (∀ (h : Heap) (x0 : AVal) (x1 : Int) (x2 : AVal) (x3 x4 : Int), OI (s87l1 Ψ (n1 + 1) x0 x1 x2 x3 x4 h)) ∧ (True ∧ (True ∧ True) ∧ (True ∧ True ∧ True ∧ True ∧ True ∧ (∀ (h : Heap) (x0 : AVal) (x1 : Int) (x2 x3 x4 : AVal) (x5 x6 : Int), ON (s87l2 Ψ (s87l1_G (s87l1 Ψ n1)) 0 x0 x1 x2 x3 x4 x5 x6 h)) ∧ ∀ n2 : Nat, (∀ (h : Heap) (x0 : AVal) (x1 : Int) (x2 x3 x4 : AVal) (x5 x6 : Int), OI (s87l2 Ψ (s87l1_G (s87l1 Ψ n1)) (n2 + 1) x0 x1 x2 x3 x4 x5 x6 h)) ∧ ((True ∧ True ∧ True) ∧ True ∧ True ∧ True ∧ (∀ (h : Heap) (x0 : AVal) (x1 : Int) (x2 x3 x4 : AVal) (x5 x6 : Int) (x7 : AVal) (x8 x9 : Int), ON (s87l3 Ψ (s87l1_G (s87l1 Ψ n1)) (s87l2_G (s87l2 Ψ (s87l1_G (s87l1 Ψ n1)) n2)) 0 x0 x1 x2 x3 x4 x5 x6 x7 x8 x9 h)) ∧ ∀ n3 : Nat, (∀ (h : Heap) (x0 : AVal) (x1 : Int) (x2 x3 x4 : AVal) (x5 x6 : Int) (x7 : AVal) (x8 x9 : Int), OI (s87l3 Ψ (s87l1_G (s87l1 Ψ n1)) (s87l2_G (s87l2 Ψ (s87l1_G (s87l1 Ψ n1)) n2)) (n3 + 1) x0 x1 x2 x3 x4 x5 x6 x7 x8 x9 h)) ∧ (True ∧ (True ∧ True) ∧ (True ∧ ((True) ∧ (∀ (h : Heap) (x0 : AVal) (x1 : Int) (x2 x3 x4 : AVal) (x5 x6 x7 : Int) (x8 : AVal) (x9 x10 : Int) (x11 : Bool), OI (s87c5 Ψ (s87l1_G (s87l1 Ψ n1)) (s87l2_G (s87l2 Ψ (s87l1_G (s87l1 Ψ n1)) n2)) (s87l3_G (s87l3 Ψ (s87l1_G (s87l1 Ψ n1)) (s87l2_G (s87l2 Ψ (s87l1_G (s87l1 Ψ n1)) n2)) n3)) x0 x1 x2 x3 x4 x5 x6 x7 x8 x9 x10 x11 h)) ∧ ((True ∧ True) ∧ True)) ∧ True ∧ (True ∧ True) ∧ True) ∧ (∀ (h : Heap) (x0 : AVal) (x1 : Int) (x2 x3 x4 : AVal) (x5 x6 : Int) (x7 : AVal) (x8 x9 : Int), OI (s87c4 Ψ (s87l1_G (s87l1 Ψ n1)) (s87l2_G (s87l2 Ψ (s87l1_G (s87l1 Ψ n1)) n2)) (s87l3_G (s87l3 Ψ (s87l1_G (s87l1 Ψ n1)) (s87l2_G (s87l2 Ψ (s87l1_G (s87l1 Ψ n1)) n2)) n3)) x0 x1 x2 x3 x4 x5 x6 x7 x8 x9 h)) ∧ (True)))) ∧ True)) ∧ True ∧ True)) ⟨trivial, ⟨trivial, ⟨trivial, ⟨⟨trivial, ⟨fun _ _ _ _ _ _ H => H, fun _ => ⟨fun _ _ _ _ _ _ H => H, ⟨trivial, ⟨⟨trivial, trivial⟩, ⟨⟨trivial, ⟨trivial, ⟨trivial, ⟨trivial, ⟨trivial, ⟨fun _ _ _ _ _ _ _ _ H => H, fun _ => ⟨fun _ _ _ _ _ _ _ _ H => H, ⟨⟨trivial, ⟨trivial, trivial⟩⟩, ⟨trivial, ⟨trivial, ⟨trivial, ⟨fun _ _ _ _ _ _ _ _ _ _ _ H => H, fun _ => ⟨fun _ _ _ _ _ _ _ _ _ _ _ H => H, ⟨trivial, ⟨⟨trivial, trivial⟩, ⟨⟨trivial, ⟨⟨trivial, fun _ _ _ _ _ _ _ _ _ _ _ _ _ H => H, ⟨⟨trivial, trivial⟩, trivial⟩⟩, ⟨trivial, ⟨⟨trivial, trivial⟩, trivial⟩⟩⟩⟩, fun _ _ _ _ _ _ _ _ _ _ _ H => H, trivial⟩⟩⟩⟩⟩⟩⟩⟩⟩⟩⟩⟩⟩⟩⟩⟩, trivial⟩⟩⟩⟩⟩⟩, ⟨trivial, trivial⟩⟩⟩⟩⟩)
    (Eq.mpr (by as_aux_lemma => kernel_rfl : evF prog f87 (s87_A Ψ) Ψ [(.agg [m_Up, m_Val])] h = s87 Ψ m_Up m_Val h) H)

/- 89 dictum/worlds.looked$1 -/
def s89 (Ψ : AVal → Heap → Prop) (s : ByteArray) (c0 : AVal) (c1 : AVal) (h : Heap) : Prop :=
  addOff c0 1 fun p =>
  ld1 h p fun v =>
  ld1 h c1 fun v1 =>
  tInt .i64 v1 fun v2 =>
  ixS 1 v v2 fun p1 =>
  ld1 h p1 fun v3 =>
  callG prog 46 [v3, (.str s)] h fun v4 h_ =>
  tBool v4 fun v5 =>
  retG (.bool (!v5)) h_ Ψ

def s89_A (Ψ : AVal → Heap → Prop) : Ann :=
  .seq (rA 1)
  (.seq (rA 9)
  (.leaf))

theorem s89_ok {Ψ : AVal → Heap → Prop} {s : ByteArray} {c0 : AVal} {c1 : AVal} {h : Heap} (H : s89 Ψ s c0 c1 h) : ACalls prog 89 [(.str s), c0, c1] h Ψ :=
  calls_of_evF func89 (by kernel_rfl) (by kernel_rfl) (by kernel_rfl)
    (Eq.mpr (by as_aux_lemma => kernel_rfl : oblF prog f89 (s89_A Ψ) Ψ = (True ∧ True ∧ True)) ⟨trivial, ⟨trivial, trivial⟩⟩)
    (Eq.mpr (by as_aux_lemma => kernel_rfl : evF prog f89 (s89_A Ψ) Ψ [(.str s), c0, c1] h = s89 Ψ s c0 c1 h) H)

end Go.Proofs.Ytinficcdpggiaaa

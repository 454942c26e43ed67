/- The functions that the proof meets, each as a text that Lean has checked against the program. No condition. -/
import Derived.Test.YtinficcdpggiaaaM3
import Derived.Test.YtinficcdpggiaaaChecked
namespace Go.Proofs.Ytinficcdpggiaaa
open Go Go.Sym Go.Proofs.Try
set_option maxRecDepth 100000
set_option linter.unusedVariables false

/- 6 dictum/dictumlaw19.MorphGlued -/
def s6l2_R (F : AVal → AVal → AVal → AVal → Int → Heap → Prop) (l : List AVal) (h : Heap) : Prop := J.cons l fun x0 l => J.cons l fun x1 l => J.cons l fun x2 l => J.cons l fun x3 l => J.cons l fun v l => J.int .i64 v fun x4 => J.nil l (F x0 x1 x2 x3 x4 h)
def s6l2_G (F : AVal → AVal → AVal → AVal → Int → Heap → Prop) (x0 : AVal) (x1 : AVal) (x2 : AVal) (x3 : AVal) (x4 : Int) (h : Heap) : Prop := gJ [.any, .any, .any, .any, .int .i64] [x0, x1, x2, x3, (.int .i64 x4)] h (s6l2_R F)
def s6l2_E (F : Nat → AVal → AVal → AVal → AVal → Int → Heap → Prop) (x0 : AVal) (x1 : AVal) (x2 : AVal) (x3 : AVal) (x4 : Int) (h : Heap) : Prop := gJ [.any, .any, .any, .any, .int .i64] [x0, x1, x2, x3, (.int .i64 x4)] h (fun l h => ∃ n, s6l2_R (F n) l h)
theorem s6l2_go {F : AVal → AVal → AVal → AVal → Int → Heap → Prop} {x0 : AVal} {x1 : AVal} {x2 : AVal} {x3 : AVal} {x4 : Int} {h : Heap} (H : F x0 x1 x2 x3 x4 h) : s6l2_G F x0 x1 x2 x3 x4 h := gJ_plain rfl H
theorem s6l2_in {F : Nat → AVal → AVal → AVal → AVal → Int → Heap → Prop} {x0 : AVal} {x1 : AVal} {x2 : AVal} {x3 : AVal} {x4 : Int} {h : Heap} (n : Nat) (H : F n x0 x1 x2 x3 x4 h) : s6l2_E F x0 x1 x2 x3 x4 h := gJ_plain rfl ⟨n, H⟩

def s6l3_R (F : AVal → AVal → AVal → AVal → Int → AVal → Int → Heap → Prop) (l : List AVal) (h : Heap) : Prop := J.cons l fun x0 l => J.cons l fun x1 l => J.cons l fun x2 l => J.cons l fun x3 l => J.cons l fun v l => J.int .i64 v fun x4 => J.cons l fun x5 l => J.cons l fun v l => J.int .i64 v fun x6 => J.nil l (F x0 x1 x2 x3 x4 x5 x6 h)
def s6l3_G (F : AVal → AVal → AVal → AVal → Int → AVal → Int → Heap → Prop) (x0 : AVal) (x1 : AVal) (x2 : AVal) (x3 : AVal) (x4 : Int) (x5 : AVal) (x6 : Int) (h : Heap) : Prop := gJ [.any, .any, .any, .any, .int .i64, .any, .int .i64] [x0, x1, x2, x3, (.int .i64 x4), x5, (.int .i64 x6)] h (s6l3_R F)
def s6l3_E (F : Nat → AVal → AVal → AVal → AVal → Int → AVal → Int → Heap → Prop) (x0 : AVal) (x1 : AVal) (x2 : AVal) (x3 : AVal) (x4 : Int) (x5 : AVal) (x6 : Int) (h : Heap) : Prop := gJ [.any, .any, .any, .any, .int .i64, .any, .int .i64] [x0, x1, x2, x3, (.int .i64 x4), x5, (.int .i64 x6)] h (fun l h => ∃ n, s6l3_R (F n) l h)
theorem s6l3_go {F : AVal → AVal → AVal → AVal → Int → AVal → Int → Heap → Prop} {x0 : AVal} {x1 : AVal} {x2 : AVal} {x3 : AVal} {x4 : Int} {x5 : AVal} {x6 : Int} {h : Heap} (H : F x0 x1 x2 x3 x4 x5 x6 h) : s6l3_G F x0 x1 x2 x3 x4 x5 x6 h := gJ_plain rfl H
theorem s6l3_in {F : Nat → AVal → AVal → AVal → AVal → Int → AVal → Int → Heap → Prop} {x0 : AVal} {x1 : AVal} {x2 : AVal} {x3 : AVal} {x4 : Int} {x5 : AVal} {x6 : Int} {h : Heap} (n : Nat) (H : F n x0 x1 x2 x3 x4 x5 x6 h) : s6l3_E F x0 x1 x2 x3 x4 x5 x6 h := gJ_plain rfl ⟨n, H⟩

def s6c4 (Ψ : AVal → Heap → Prop) (L2 : AVal → AVal → AVal → AVal → Int → Heap → Prop) (l_26 : AVal) (m3 : AVal) (at_3 : AVal) (t2 : AVal) (i2 : Int) (t108 : Bool) (h : Heap) : Prop :=
  ifT t108 (
    retG (.bool false) h Ψ) (
    rg (i2 + 1) (
      L2 l_26 m3 at_3 t2 (i2 + 1) h))

def s6l3 (Ψ : AVal → Heap → Prop) (L2 : AVal → AVal → AVal → AVal → Int → Heap → Prop) : Nat → AVal → AVal → AVal → AVal → Int → AVal → Int → Heap → Prop
  | 0, _, _, _, _, _, _, _, _ => False
  | n2 + 1, l_16, m2, at_2, t1, i1, f, w, h =>
    ixS 2 l_16 i1 fun p =>
    addOff p 0 fun p1 =>
    ld1 h p1 fun v17 =>
    lenN v17 fun n3 =>
    ifT (decide (w < n3)) (
      ixS 1 at_2 i1 fun p2 =>
      ld1 h p2 fun v18 =>
      tInt .i64 v18 fun v19 =>
      rg (v19 + w) (
        appC 1 8 h f (.lsl 1 [(.int .i64 (v19 + w))]) fun v20 h_6 =>
        rg (w + 1) (
          s6l3_G (s6l3 Ψ L2 n2) l_16 m2 at_2 t1 i1 v20 (w + 1) h_6))) (
      ixS 2 l_16 i1 fun p3 =>
      ldN 2 h p3 fun l_17 =>
      tCons l_17 fun v21 l_18 =>
      tCons l_18 fun v22 l_19 =>
      tNil l_19 (
        ldN 2 h m2 fun l_20 =>
        tCons l_20 fun v23 l_21 =>
        tCons l_21 fun v24 l_22 =>
        tNil l_22 (
          callG prog 25 [(.agg [v21, v22]), (.agg [v23, v24]), f] h fun v25 h_7 =>
          tTup v25 fun l_23 =>
          tCons l_23 fun v26 l_24 =>
          tBool v26 fun v27 =>
          tCons l_24 fun v28 l_25 =>
          tInt .i64 v28 fun v29 =>
          tNil l_25 (
            ifT (!v27) (
              s6c4 Ψ L2 l_16 m2 at_2 t1 i1 true h_7) (
              ifT (v29 != 0) (
                s6c4 Ψ L2 l_16 m2 at_2 t1 i1 true h_7) (
                ixS 2 l_16 i1 fun p4 =>
                ldN 2 h_7 p4 fun l_27 =>
                tCons l_27 fun v30 l_28 =>
                tCons l_28 fun v31 l_29 =>
                tNil l_29 (
                  ldN 2 h_7 m2 fun l_30 =>
                  tCons l_30 fun v32 l_31 =>
                  tCons l_31 fun v33 l_32 =>
                  tNil l_32 (
                    callG prog 26 [(.agg [v30, v31]), (.agg [v32, v33]), f, t1] h_7 fun v34 h_8 =>
                    tBool v34 fun v35 =>
                    s6c4 Ψ L2 l_16 m2 at_2 t1 i1 (!v35) h_8))))))))

def s6l2 (Ψ : AVal → Heap → Prop) : Nat → AVal → AVal → AVal → AVal → Int → Heap → Prop
  | 0, _, _, _, _, _, _ => False
  | n + 1, l_15, m1, at_1, t, i, h =>
    lenN l_15 fun n1 =>
    ifT (decide (i < n1)) (
      s6l3_E (s6l3 Ψ (s6l2_G (s6l2 Ψ n))) l_15 m1 at_1 t i .nilsl 0 h) (
      callG prog 20 [] h fun v36 h_9 =>
      tBool v36 fun v37 =>
      retG (.bool v37) h_9 Ψ)

def s6c1 (Ψ : AVal → Heap → Prop) (l_14 : AVal) (rows1 : AVal) (m : AVal) (at_ : AVal) (t54 : Bool) (h : Heap) : Prop :=
  ifT t54 (
    retG (.bool false) h Ψ) (
    callG prog 24 [rows1] h fun v16 h_5 =>
    s6l2_E (s6l2 Ψ) l_14 m at_ v16 0 h_5)

def s6 (Ψ : AVal → Heap → Prop) (l_ : AVal) (atoms : AVal) (rows : AVal) (h : Heap) : Prop :=
  callG prog 21 [l_, atoms] h fun v h_ =>
  tTup v fun l_1 =>
  tCons l_1 fun v1 l_2 =>
  tCons l_2 fun v2 l_3 =>
  tCons l_3 fun v3 l_4 =>
  tInt .i64 v3 fun v4 =>
  tNil l_4 (
    tAgg v1 fun l_5 =>
    tCons l_5 fun v5 l_6 =>
    tCons l_6 fun v6 l_7 =>
    tNil l_7 (
      Sym.newRow 2 [(.agg [.nilsl, .nilsl])] h_ fun r h_1 =>
      st false h_1 (.ptr r 0 0) [v5, v6] fun h_2 =>
      ifT (v4 != 0) (
        callG prog 20 [] h_2 fun v7 h_3 =>
        tBool v7 fun v8 =>
        retG (.bool v8) h_3 Ψ) (
        ldN 2 h_2 (.ptr r 0 0) fun l_8 =>
        tCons l_8 fun v9 l_9 =>
        tCons l_9 fun v10 l_10 =>
        tNil l_10 (
          callG prog 27 [(.agg [v9, v10])] h_2 fun v11 h_4 =>
          tTup v11 fun l_11 =>
          tCons l_11 fun v12 l_12 =>
          tInt .i64 v12 fun v13 =>
          tCons l_12 fun v14 l_13 =>
          tBool v14 fun v15 =>
          tNil l_13 (
            ifT (!v15) (
              s6c1 Ψ l_ rows (.ptr r 0 0) v2 true h_4) (
              ifT (v13 != 0) (
                s6c1 Ψ l_ rows (.ptr r 0 0) v2 true h_4) (
                lenN v2 fun n6 =>
                lenN l_ fun n7 =>
                ifT (n6 != n7) (
                  s6c1 Ψ l_ rows (.ptr r 0 0) v2 true h_4) (
                  ld1 h_4 (.ptr r 0 1) fun v38 =>
                  ixS 1 v38 0 fun p5 =>
                  ld1 h_4 p5 fun v39 =>
                  callG prog 23 [v39, atoms] h_4 fun v40 h_10 =>
                  tBool v40 fun v41 =>
                  s6c1 Ψ l_ rows (.ptr r 0 0) v2 (!v41) h_10))))))))

def s6_A (Ψ : AVal → Heap → Prop) : Ann :=
  .seq (.reg [⟨none, [(0, false)]⟩])
  (.seq (.reg [⟨none, [(0, false), (1, false), (2, false), (3, false), (4, false), (5, false), (6, false), (7, false), (8, false), (9, false), (10, false)]⟩])
  (.seq (.seq (.reg [⟨none, [(0, false), (1, false)]⟩])
  (.cond (.seq (.reg [⟨none, [(0, false), (1, false)]⟩])
  (.leaf))
  (.leaf)))
  (.seq (.reg [⟨none, [(0, false), (1, false), (2, false), (3, false), (4, false), (5, false), (6, false)]⟩])
  (.seq (.cut [(0, .any), (2, .any), (7, .any), (8, .any), (54, .bool)] (fun l h => J.cons l fun x0 l => J.cons l fun x1 l => J.cons l fun x2 l => J.cons l fun x3 l => J.cons l fun v l => J.bool v fun x4 => J.nil l (s6c1 Ψ x0 x1 x2 x3 x4 h)) (.reg [⟨none, [(0, false), (1, false), (2, false)]⟩, ⟨some (35, false), [(3, false), (4, false)]⟩, ⟨none, [(5, false), (6, false)]⟩, ⟨some (39, false), [(7, false), (8, false), (9, false), (10, false), (11, false)]⟩, ⟨none, [(12, false), (13, false)]⟩, ⟨some (46, false), [(14, false), (15, false), (16, false), (17, false), (18, false), (19, false), (20, false)]⟩, ⟨none, [(21, false)]⟩])
  (.cond (.seq (.reg [⟨none, [(0, false)]⟩])
  (.leaf))
  (.leaf)))
  (.seq (.reg [⟨none, [(0, false), (1, false), (2, false)]⟩])
  (.seq (.seq (.reg [⟨none, [(0, false)]⟩])
  (.block (.loop [(0, .any), (7, .any), (8, .any), (12, .any), (13, .int .i64)] (fun n l h => s6l2_R (s6l2 Ψ n) l h) (fun L2 =>
  .seq (.seq (.reg [⟨none, [(0, false), (1, false), (2, false), (3, false)]⟩])
  (.cond (.leaf)
  (.leaf)))
  (.seq (.block (.seq (.reg [⟨none, [(0, false)]⟩])
  (.seq (.seq (.reg [⟨none, [(0, false)]⟩])
  (.block (.loop [(0, .any), (7, .any), (8, .any), (12, .any), (13, .int .i64), (14, .any), (15, .int .i64)] (fun n l h => s6l3_R (s6l3 Ψ (fun y0 y1 y2 y3 y4 h => L2 [y0, y1, y2, y3, (.int .i64 y4)] h) n) l h) (fun L3 =>
  .seq (.seq (.reg [⟨none, [(0, false), (1, false), (2, false), (3, false), (4, false), (5, false), (6, false), (7, false)]⟩])
  (.cond (.leaf)
  (.leaf)))
  (.seq (.block (.reg [⟨none, [(0, false), (1, false), (2, false), (3, false), (4, false), (5, false), (6, false), (7, true), (8, false), (9, false)]⟩]))
  (.reg [⟨none, [(0, false), (1, false), (2, false)]⟩]))))))
  (.seq (.draw [(0, false), (1, false), (2, false), (3, false), (4, false), (5, false), (6, false), (7, false), (8, false), (9, false), (10, false), (11, false)] [0, 0, 3, 7, 0, 0, 63, 127, 255, 255, 511, 2047])
  (.cut [(0, .any), (7, .any), (8, .any), (12, .any), (13, .int .i64), (108, .bool)] (fun l h => J.cons l fun x0 l => J.cons l fun x1 l => J.cons l fun x2 l => J.cons l fun x3 l => J.cons l fun v l => J.int .i64 v fun x4 => J.cons l fun v l => J.bool v fun x5 => J.nil l (s6c4 Ψ (fun y0 y1 y2 y3 y4 h => L2 [y0, y1, y2, y3, (.int .i64 y4)] h) x0 x1 x2 x3 x4 x5 h)) (.draw [(0, false), (1, false), (2, false), (3, false), (4, false), (5, false), (6, false), (7, false), (8, false), (9, false), (10, false), (11, false), (12, false), (13, false), (14, false), (15, false), (16, false)] [0, 1, 3, 7, 15, 31, 63, 127, 127, 511, 1023, 127, 127, 127, 16383, 32767, 65535])
  (.cond (.seq (.reg [⟨none, [(0, false)]⟩])
  (.leaf))
  (.leaf)))))))
  (.reg [⟨none, [(0, false), (1, false), (2, false)]⟩]))))))
  (.seq (.reg [⟨none, [(0, false), (1, false)]⟩])
  (.leaf))))))))

theorem s6_ok {Ψ : AVal → Heap → Prop} {l_ : AVal} {atoms : AVal} {rows : AVal} {h : Heap} (H : s6 Ψ l_ atoms rows h) : ACalls prog 6 [l_, atoms, rows] h Ψ :=
  calls_of_evF func6 (by kernel_rfl) (by kernel_rfl) (by kernel_rfl)
    (Eq.mpr (by as_aux_lemma => kernel_rfl : oblF prog f6 (s6_A Ψ) Ψ = (True ∧ True ∧ (True ∧ (True ∧ True) ∧ True) ∧ True ∧ ((True) ∧ (∀ (h : Heap) (x0 x1 x2 x3 : AVal) (x4 : Bool), OI (s6c1 Ψ x0 x1 x2 x3 x4 h)) ∧ ((True ∧ True) ∧ True)) ∧ True ∧ (True ∧ (∀ (h : Heap) (x0 x1 x2 x3 : AVal) (x4 : Int), ON (s6l2 Ψ 0 x0 x1 x2 x3 x4 h)) ∧ ∀ n2 : Nat, (∀ (h : Heap) (x0 x1 x2 x3 : AVal) (x4 : Int), OI (s6l2 Ψ (n2 + 1) x0 x1 x2 x3 x4 h)) ∧ ((True ∧ True ∧ True) ∧ (True ∧ (True ∧ (∀ (h : Heap) (x0 x1 x2 x3 : AVal) (x4 : Int) (x5 : AVal) (x6 : Int), ON (s6l3 Ψ (s6l2_G (s6l2 Ψ n2)) 0 x0 x1 x2 x3 x4 x5 x6 h)) ∧ ∀ n3 : Nat, (∀ (h : Heap) (x0 x1 x2 x3 : AVal) (x4 : Int) (x5 : AVal) (x6 : Int), OI (s6l3 Ψ (s6l2_G (s6l2 Ψ n2)) (n3 + 1) x0 x1 x2 x3 x4 x5 x6 h)) ∧ ((True ∧ True ∧ True) ∧ True ∧ True)) ∧ True ∧ (True) ∧ (∀ (h : Heap) (x0 x1 x2 x3 : AVal) (x4 : Int) (x5 : Bool), OI (s6c4 Ψ (s6l2_G (s6l2 Ψ n2)) x0 x1 x2 x3 x4 x5 h)) ∧ ((True ∧ True) ∧ True)) ∧ True)) ∧ True ∧ True)) ⟨trivial, ⟨trivial, ⟨⟨trivial, ⟨⟨trivial, trivial⟩, trivial⟩⟩, ⟨trivial, ⟨⟨trivial, fun _ _ _ _ _ _ H => H, ⟨⟨trivial, trivial⟩, trivial⟩⟩, ⟨trivial, ⟨⟨trivial, ⟨fun _ _ _ _ _ _ H => H, fun _ => ⟨fun _ _ _ _ _ _ H => H, ⟨⟨trivial, ⟨trivial, trivial⟩⟩, ⟨⟨trivial, ⟨⟨trivial, ⟨fun _ _ _ _ _ _ _ _ H => H, fun _ => ⟨fun _ _ _ _ _ _ _ _ H => H, ⟨⟨trivial, ⟨trivial, trivial⟩⟩, ⟨trivial, trivial⟩⟩⟩⟩⟩, ⟨trivial, ⟨trivial, fun _ _ _ _ _ _ _ H => H, ⟨⟨trivial, trivial⟩, trivial⟩⟩⟩⟩⟩, trivial⟩⟩⟩⟩⟩, ⟨trivial, trivial⟩⟩⟩⟩⟩⟩⟩⟩)
    (Eq.mpr (by as_aux_lemma => kernel_rfl : evF prog f6 (s6_A Ψ) Ψ [l_, atoms, rows] h = s6 Ψ l_ atoms rows h) H)

/- 11 dictum/dictumlaw19.told -/
def s11 (Ψ : AVal → Heap → Prop) (m_Up : AVal) (m_Val : AVal) (l_ : AVal) (e : Int) (n_Up : AVal) (n_Val : AVal) (k : AVal) (f : Int) (h : Heap) : Prop :=
  callG prog 19 [(.agg [m_Up, m_Val]), (.agg [n_Up, n_Val])] h fun v h_ =>
  tBool v fun v1 =>
  ifT v1 (
    callG prog 16 [l_, k] h_ fun v2 h_1 =>
    tBool v2 fun v3 =>
    ifT v3 (
      retG (.bool (e == f)) h_1 Ψ) (
      retG (.bool false) h_1 Ψ)) (
    retG (.bool false) h_ Ψ)

def s11_A (Ψ : AVal → Heap → Prop) : Ann :=
  .seq (.reg [⟨none, [(0, true), (1, true), (2, false)]⟩])
  (.seq (.reg [⟨none, [(0, false), (1, false), (2, false), (3, false)]⟩, ⟨some (16, true), [(4, false), (5, false), (6, false)]⟩, ⟨none, [(7, false), (8, false)]⟩, ⟨some (21, true), [(9, false), (10, false), (11, false)]⟩, ⟨none, [(12, false), (13, false)]⟩])
  (.leaf))

theorem s11_ok {Ψ : AVal → Heap → Prop} {m_Up : AVal} {m_Val : AVal} {l_ : AVal} {e : Int} {n_Up : AVal} {n_Val : AVal} {k : AVal} {f : Int} {h : Heap} (H : s11 Ψ m_Up m_Val l_ e n_Up n_Val k f h) : ACalls prog 11 [(.agg [m_Up, m_Val]), l_, (.int .i64 e), (.agg [n_Up, n_Val]), k, (.int .i64 f)] h Ψ :=
  calls_of_evF func11 (by kernel_rfl) (by kernel_rfl) (by kernel_rfl)
    (Eq.mpr (by as_aux_lemma => kernel_rfl : oblF prog f11 (s11_A Ψ) Ψ = (True ∧ True ∧ True)) ⟨trivial, ⟨trivial, trivial⟩⟩)
    (Eq.mpr (by as_aux_lemma => kernel_rfl : evF prog f11 (s11_A Ψ) Ψ [(.agg [m_Up, m_Val]), l_, (.int .i64 e), (.agg [n_Up, n_Val]), k, (.int .i64 f)] h = s11 Ψ m_Up m_Val l_ e n_Up n_Val k f h) H)

/- 19 dictum/dictumref17.Same -/
def s19l2_R (F : AVal → AVal → Int → Heap → Prop) (l : List AVal) (h : Heap) : Prop := J.cons l fun x0 l => J.cons l fun x1 l => J.cons l fun v l => J.int .i64 v fun x2 => J.nil l (F x0 x1 x2 h)
def s19l2_G (F : AVal → AVal → Int → Heap → Prop) (x0 : AVal) (x1 : AVal) (x2 : Int) (h : Heap) : Prop := gJ [.any, .any, .int .i64] [x0, x1, (.int .i64 x2)] h (s19l2_R F)
def s19l2_E (F : Nat → AVal → AVal → Int → Heap → Prop) (x0 : AVal) (x1 : AVal) (x2 : Int) (h : Heap) : Prop := gJ [.any, .any, .int .i64] [x0, x1, (.int .i64 x2)] h (fun l h => ∃ n, s19l2_R (F n) l h)
theorem s19l2_go {F : AVal → AVal → Int → Heap → Prop} {x0 : AVal} {x1 : AVal} {x2 : Int} {h : Heap} (H : F x0 x1 x2 h) : s19l2_G F x0 x1 x2 h := gJ_plain rfl H
theorem s19l2_in {F : Nat → AVal → AVal → Int → Heap → Prop} {x0 : AVal} {x1 : AVal} {x2 : Int} {h : Heap} (n : Nat) (H : F n x0 x1 x2 h) : s19l2_E F x0 x1 x2 h := gJ_plain rfl ⟨n, H⟩

def s19l3_R (F : AVal → AVal → Int → Heap → Prop) (l : List AVal) (h : Heap) : Prop := J.cons l fun x0 l => J.cons l fun x1 l => J.cons l fun v l => J.int .i64 v fun x2 => J.nil l (F x0 x1 x2 h)
def s19l3_G (F : AVal → AVal → Int → Heap → Prop) (x0 : AVal) (x1 : AVal) (x2 : Int) (h : Heap) : Prop := gJ [.any, .any, .int .i64] [x0, x1, (.int .i64 x2)] h (s19l3_R F)
def s19l3_E (F : Nat → AVal → AVal → Int → Heap → Prop) (x0 : AVal) (x1 : AVal) (x2 : Int) (h : Heap) : Prop := gJ [.any, .any, .int .i64] [x0, x1, (.int .i64 x2)] h (fun l h => ∃ n, s19l3_R (F n) l h)
theorem s19l3_go {F : AVal → AVal → Int → Heap → Prop} {x0 : AVal} {x1 : AVal} {x2 : Int} {h : Heap} (H : F x0 x1 x2 h) : s19l3_G F x0 x1 x2 h := gJ_plain rfl H
theorem s19l3_in {F : Nat → AVal → AVal → Int → Heap → Prop} {x0 : AVal} {x1 : AVal} {x2 : Int} {h : Heap} (n : Nat) (H : F n x0 x1 x2 h) : s19l3_E F x0 x1 x2 h := gJ_plain rfl ⟨n, H⟩

def s19l3 (Ψ : AVal → Heap → Prop) : Nat → AVal → AVal → Int → Heap → Prop
  | 0, _, _, _, _ => False
  | n2 + 1, a2, b2, i1, h =>
    addOff a2 1 fun p5 =>
    ld1 h p5 fun v7 =>
    lenN v7 fun n3 =>
    ifT (decide (i1 < n3)) (
      addOff a2 1 fun p6 =>
      ld1 h p6 fun v8 =>
      ixS 1 v8 i1 fun p7 =>
      ld1 h p7 fun v9 =>
      addOff b2 1 fun p8 =>
      ld1 h p8 fun v10 =>
      ixS 1 v10 i1 fun p9 =>
      ld1 h p9 fun v11 =>
      callG prog 23 [v9, v11] h fun v12 h_1 =>
      tBool v12 fun v13 =>
      ifT (!v13) (
        retG (.bool false) h_1 Ψ) (
        rg (i1 + 1) (
          s19l3_G (s19l3 Ψ n2) a2 b2 (i1 + 1) h_1))) (
      retG (.bool true) h Ψ)

def s19l2 (Ψ : AVal → Heap → Prop) : Nat → AVal → AVal → Int → Heap → Prop
  | 0, _, _, _, _ => False
  | n + 1, a1, b1, i, h =>
    addOff a1 0 fun p =>
    ld1 h p fun v =>
    lenN v fun n1 =>
    ifT (decide (i < n1)) (
      addOff a1 0 fun p1 =>
      ld1 h p1 fun v1 =>
      ixS 1 v1 i fun p2 =>
      ld1 h p2 fun v2 =>
      addOff b1 0 fun p3 =>
      ld1 h p3 fun v3 =>
      ixS 1 v3 i fun p4 =>
      ld1 h p4 fun v4 =>
      callG prog 16 [v2, v4] h fun v5 h_ =>
      tBool v5 fun v6 =>
      ifT (!v6) (
        retG (.bool false) h_ Ψ) (
        rg (i + 1) (
          s19l2_G (s19l2 Ψ n) a1 b1 (i + 1) h_))) (
      s19l3_E (s19l3 Ψ) a1 b1 0 h)

def s19c1 (Ψ : AVal → Heap → Prop) (a : AVal) (b : AVal) (t22 : Bool) (h : Heap) : Prop :=
  ifT t22 (
    retG (.bool false) h Ψ) (
    s19l2_E (s19l2 Ψ) a b 0 h)

def s19 (Ψ : AVal → Heap → Prop) (a_Up : AVal) (a_Val : AVal) (b_Up : AVal) (b_Val : AVal) (h : Heap) : Prop :=
  lenN a_Up fun n6 =>
  lenN b_Up fun n7 =>
  ifT (n6 != n7) (
    s19c1 Ψ (.lptr [a_Up, a_Val]) (.lptr [b_Up, b_Val]) true h) (
    lenN a_Val fun n8 =>
    lenN b_Val fun n9 =>
    s19c1 Ψ (.lptr [a_Up, a_Val]) (.lptr [b_Up, b_Val]) (n8 != n9) h)

def s19_A (Ψ : AVal → Heap → Prop) : Ann :=
  .seq (.reg [⟨none, [(0, true), (1, true), (2, false)]⟩])
  (.seq (.cut [(2, .any), (3, .any), (22, .bool)] (fun l h => J.cons l fun x0 l => J.cons l fun x1 l => J.cons l fun v l => J.bool v fun x2 => J.nil l (s19c1 Ψ x0 x1 x2 h)) (.reg [⟨none, [(0, false), (1, false), (2, false), (3, false), (4, false), (5, false), (6, false), (7, false)]⟩, ⟨some (14, false), [(8, false), (9, false), (10, false), (11, false), (12, false), (13, false), (14, false)]⟩, ⟨none, [(15, false)]⟩])
  (.cond (.seq (.reg [⟨none, [(0, false)]⟩])
  (.leaf))
  (.leaf)))
  (.seq (.seq (.reg [⟨none, [(0, false)]⟩])
  (.block (.loop [(2, .any), (3, .any), (5, .int .i64)] (fun n l h => s19l2_R (s19l2 Ψ n) l h) (fun L2 =>
  .seq (.seq (.reg [⟨none, [(0, false), (1, false), (2, false), (3, false), (4, false)]⟩])
  (.cond (.leaf)
  (.leaf)))
  (.seq (.block (.seq (.draw [(0, false), (1, false), (2, false), (3, false), (4, false), (5, false), (6, false), (7, false), (8, false), (9, false), (10, false), (11, false)] [0, 1, 0, 7, 15, 0, 32, 0, 224, 480, 1023, 2047])
  (.cond (.seq (.reg [⟨none, [(0, false)]⟩])
  (.leaf))
  (.leaf))))
  (.reg [⟨none, [(0, false), (1, false), (2, false)]⟩]))))))
  (.seq (.seq (.reg [⟨none, [(0, false)]⟩])
  (.block (.loop [(2, .any), (3, .any), (6, .int .i64)] (fun n l h => s19l3_R (s19l3 Ψ n) l h) (fun L3 =>
  .seq (.seq (.reg [⟨none, [(0, false), (1, false), (2, false), (3, false), (4, false)]⟩])
  (.cond (.leaf)
  (.leaf)))
  (.seq (.block (.seq (.draw [(0, false), (1, false), (2, false), (3, false), (4, false), (5, false), (6, false), (7, false), (8, false), (9, false), (10, false), (11, false)] [0, 1, 0, 7, 15, 0, 32, 0, 224, 480, 1023, 2047])
  (.cond (.seq (.reg [⟨none, [(0, false)]⟩])
  (.leaf))
  (.leaf))))
  (.reg [⟨none, [(0, false), (1, false), (2, false)]⟩]))))))
  (.seq (.reg [⟨none, [(0, false)]⟩])
  (.leaf)))))

theorem s19_ok {Ψ : AVal → Heap → Prop} {a_Up : AVal} {a_Val : AVal} {b_Up : AVal} {b_Val : AVal} {h : Heap} (H : s19 Ψ a_Up a_Val b_Up b_Val h) : ACalls prog 19 [(.agg [a_Up, a_Val]), (.agg [b_Up, b_Val])] h Ψ :=
  calls_of_evF func19 (by kernel_rfl) (by kernel_rfl) (by kernel_rfl)
    (Eq.mpr (by as_aux_lemma => kernel_rfl : oblF prog f19 (s19_A Ψ) Ψ = (True ∧ ((True) ∧ (∀ (h : Heap) (x0 x1 : AVal) (x2 : Bool), OI (s19c1 Ψ x0 x1 x2 h)) ∧ ((True ∧ True) ∧ True)) ∧ (True ∧ (∀ (h : Heap) (x0 x1 : AVal) (x2 : Int), ON (s19l2 Ψ 0 x0 x1 x2 h)) ∧ ∀ n2 : Nat, (∀ (h : Heap) (x0 x1 : AVal) (x2 : Int), OI (s19l2 Ψ (n2 + 1) x0 x1 x2 h)) ∧ ((True ∧ True ∧ True) ∧ (True ∧ (True ∧ True) ∧ True) ∧ True)) ∧ (True ∧ (∀ (h : Heap) (x0 x1 : AVal) (x2 : Int), ON (s19l3 Ψ 0 x0 x1 x2 h)) ∧ ∀ n3 : Nat, (∀ (h : Heap) (x0 x1 : AVal) (x2 : Int), OI (s19l3 Ψ (n3 + 1) x0 x1 x2 h)) ∧ ((True ∧ True ∧ True) ∧ (True ∧ (True ∧ True) ∧ True) ∧ True)) ∧ True ∧ True)) ⟨trivial, ⟨⟨trivial, fun _ _ _ _ H => H, ⟨⟨trivial, trivial⟩, trivial⟩⟩, ⟨⟨trivial, ⟨fun _ _ _ _ H => H, fun _ => ⟨fun _ _ _ _ H => H, ⟨⟨trivial, ⟨trivial, trivial⟩⟩, ⟨⟨trivial, ⟨⟨trivial, trivial⟩, trivial⟩⟩, trivial⟩⟩⟩⟩⟩, ⟨⟨trivial, ⟨fun _ _ _ _ H => H, fun _ => ⟨fun _ _ _ _ H => H, ⟨⟨trivial, ⟨trivial, trivial⟩⟩, ⟨⟨trivial, ⟨⟨trivial, trivial⟩, trivial⟩⟩, trivial⟩⟩⟩⟩⟩, ⟨trivial, trivial⟩⟩⟩⟩⟩)
    (Eq.mpr (by as_aux_lemma => kernel_rfl : evF prog f19 (s19_A Ψ) Ψ [(.agg [a_Up, a_Val]), (.agg [b_Up, b_Val])] h = s19 Ψ a_Up a_Val b_Up b_Val h) H)

/- 22 dictum/dictumref19.Glue -/
def s22l1_R (F : AVal → AVal → AVal → Int → Heap → Prop) (l : List AVal) (h : Heap) : Prop := J.cons l fun x0 l => J.cons l fun x1 l => J.cons l fun x2 l => J.cons l fun v l => J.int .i64 v fun x3 => J.nil l (F x0 x1 x2 x3 h)
def s22l1_G (F : AVal → AVal → AVal → Int → Heap → Prop) (x0 : AVal) (x1 : AVal) (x2 : AVal) (x3 : Int) (h : Heap) : Prop := gJ [.any, .any, .any, .int .i64] [x0, x1, x2, (.int .i64 x3)] h (s22l1_R F)
def s22l1_E (F : Nat → AVal → AVal → AVal → Int → Heap → Prop) (x0 : AVal) (x1 : AVal) (x2 : AVal) (x3 : Int) (h : Heap) : Prop := gJ [.any, .any, .any, .int .i64] [x0, x1, x2, (.int .i64 x3)] h (fun l h => ∃ n, s22l1_R (F n) l h)
theorem s22l1_go {F : AVal → AVal → AVal → Int → Heap → Prop} {x0 : AVal} {x1 : AVal} {x2 : AVal} {x3 : Int} {h : Heap} (H : F x0 x1 x2 x3 h) : s22l1_G F x0 x1 x2 x3 h := gJ_plain rfl H
theorem s22l1_in {F : Nat → AVal → AVal → AVal → Int → Heap → Prop} {x0 : AVal} {x1 : AVal} {x2 : AVal} {x3 : Int} {h : Heap} (n : Nat) (H : F n x0 x1 x2 x3 h) : s22l1_E F x0 x1 x2 x3 h := gJ_plain rfl ⟨n, H⟩

def s22l2_R (F : AVal → AVal → AVal → Int → Heap → Prop) (l : List AVal) (h : Heap) : Prop := J.cons l fun x0 l => J.cons l fun x1 l => J.cons l fun x2 l => J.cons l fun v l => J.int .i64 v fun x3 => J.nil l (F x0 x1 x2 x3 h)
def s22l2_G (F : AVal → AVal → AVal → Int → Heap → Prop) (x0 : AVal) (x1 : AVal) (x2 : AVal) (x3 : Int) (h : Heap) : Prop := gJ [.any, .any, .any, .int .i64] [x0, x1, x2, (.int .i64 x3)] h (s22l2_R F)
def s22l2_E (F : Nat → AVal → AVal → AVal → Int → Heap → Prop) (x0 : AVal) (x1 : AVal) (x2 : AVal) (x3 : Int) (h : Heap) : Prop := gJ [.any, .any, .any, .int .i64] [x0, x1, x2, (.int .i64 x3)] h (fun l h => ∃ n, s22l2_R (F n) l h)
theorem s22l2_go {F : AVal → AVal → AVal → Int → Heap → Prop} {x0 : AVal} {x1 : AVal} {x2 : AVal} {x3 : Int} {h : Heap} (H : F x0 x1 x2 x3 h) : s22l2_G F x0 x1 x2 x3 h := gJ_plain rfl H
theorem s22l2_in {F : Nat → AVal → AVal → AVal → Int → Heap → Prop} {x0 : AVal} {x1 : AVal} {x2 : AVal} {x3 : Int} {h : Heap} (n : Nat) (H : F n x0 x1 x2 x3 h) : s22l2_E F x0 x1 x2 x3 h := gJ_plain rfl ⟨n, H⟩

def s22c3 (Ψ : AVal → Heap → Prop) (L2 : AVal → AVal → AVal → Int → Heap → Prop) (l_9 : AVal) (atoms3 : AVal) (t4_2 : AVal) (k1 : Int) (t60 : Bool) (h : Heap) : Prop :=
  ifT t60 (
    st false h t4_2 [.nilsl, .nilsl] fun h_3 =>
    ldN 2 h_3 t4_2 fun l_10 =>
    tCons l_10 fun v6 l_11 =>
    tCons l_11 fun v7 l_12 =>
    tNil l_12 (
      retG (.tuple [(.agg [v6, v7]), .nilsl, (.int .i64 190)]) h_3 Ψ)) (
    rg (k1 + 1) (
      L2 l_9 atoms3 t4_2 (k1 + 1) h))

def s22l4_R (F : AVal → AVal → AVal → AVal → AVal → AVal → Int → Heap → Prop) (l : List AVal) (h : Heap) : Prop := J.cons l fun x0 l => J.cons l fun x1 l => J.cons l fun x2 l => J.cons l fun x3 l => J.cons l fun x4 l => J.cons l fun x5 l => J.cons l fun v l => J.int .i64 v fun x6 => J.nil l (F x0 x1 x2 x3 x4 x5 x6 h)
def s22l4_G (F : AVal → AVal → AVal → AVal → AVal → AVal → Int → Heap → Prop) (x0 : AVal) (x1 : AVal) (x2 : AVal) (x3 : AVal) (x4 : AVal) (x5 : AVal) (x6 : Int) (h : Heap) : Prop := gJ [.any, .any, .any, .any, .any, .any, .int .i64] [x0, x1, x2, x3, x4, x5, (.int .i64 x6)] h (s22l4_R F)
def s22l4_E (F : Nat → AVal → AVal → AVal → AVal → AVal → AVal → Int → Heap → Prop) (x0 : AVal) (x1 : AVal) (x2 : AVal) (x3 : AVal) (x4 : AVal) (x5 : AVal) (x6 : Int) (h : Heap) : Prop := gJ [.any, .any, .any, .any, .any, .any, .int .i64] [x0, x1, x2, x3, x4, x5, (.int .i64 x6)] h (fun l h => ∃ n, s22l4_R (F n) l h)
theorem s22l4_go {F : AVal → AVal → AVal → AVal → AVal → AVal → Int → Heap → Prop} {x0 : AVal} {x1 : AVal} {x2 : AVal} {x3 : AVal} {x4 : AVal} {x5 : AVal} {x6 : Int} {h : Heap} (H : F x0 x1 x2 x3 x4 x5 x6 h) : s22l4_G F x0 x1 x2 x3 x4 x5 x6 h := gJ_plain rfl H
theorem s22l4_in {F : Nat → AVal → AVal → AVal → AVal → AVal → AVal → Int → Heap → Prop} {x0 : AVal} {x1 : AVal} {x2 : AVal} {x3 : AVal} {x4 : AVal} {x5 : AVal} {x6 : Int} {h : Heap} (n : Nat) (H : F n x0 x1 x2 x3 x4 x5 x6 h) : s22l4_E F x0 x1 x2 x3 x4 x5 x6 h := gJ_plain rfl ⟨n, H⟩

def s22l6_R (F : AVal → AVal → AVal → AVal → AVal → AVal → Int → Int → Int → Heap → Prop) (l : List AVal) (h : Heap) : Prop := J.cons l fun x0 l => J.cons l fun x1 l => J.cons l fun x2 l => J.cons l fun x3 l => J.cons l fun x4 l => J.cons l fun x5 l => J.cons l fun v l => J.int .i64 v fun x6 => J.cons l fun v l => J.int .i64 v fun x7 => J.cons l fun v l => J.int .i64 v fun x8 => J.nil l (F x0 x1 x2 x3 x4 x5 x6 x7 x8 h)
def s22l6_G (F : AVal → AVal → AVal → AVal → AVal → AVal → Int → Int → Int → Heap → Prop) (x0 : AVal) (x1 : AVal) (x2 : AVal) (x3 : AVal) (x4 : AVal) (x5 : AVal) (x6 : Int) (x7 : Int) (x8 : Int) (h : Heap) : Prop := gJ [.any, .any, .any, .any, .any, .any, .int .i64, .int .i64, .int .i64] [x0, x1, x2, x3, x4, x5, (.int .i64 x6), (.int .i64 x7), (.int .i64 x8)] h (s22l6_R F)
def s22l6_E (F : Nat → AVal → AVal → AVal → AVal → AVal → AVal → Int → Int → Int → Heap → Prop) (x0 : AVal) (x1 : AVal) (x2 : AVal) (x3 : AVal) (x4 : AVal) (x5 : AVal) (x6 : Int) (x7 : Int) (x8 : Int) (h : Heap) : Prop := gJ [.any, .any, .any, .any, .any, .any, .int .i64, .int .i64, .int .i64] [x0, x1, x2, x3, x4, x5, (.int .i64 x6), (.int .i64 x7), (.int .i64 x8)] h (fun l h => ∃ n, s22l6_R (F n) l h)
theorem s22l6_go {F : AVal → AVal → AVal → AVal → AVal → AVal → Int → Int → Int → Heap → Prop} {x0 : AVal} {x1 : AVal} {x2 : AVal} {x3 : AVal} {x4 : AVal} {x5 : AVal} {x6 : Int} {x7 : Int} {x8 : Int} {h : Heap} (H : F x0 x1 x2 x3 x4 x5 x6 x7 x8 h) : s22l6_G F x0 x1 x2 x3 x4 x5 x6 x7 x8 h := gJ_plain rfl H
theorem s22l6_in {F : Nat → AVal → AVal → AVal → AVal → AVal → AVal → Int → Int → Int → Heap → Prop} {x0 : AVal} {x1 : AVal} {x2 : AVal} {x3 : AVal} {x4 : AVal} {x5 : AVal} {x6 : Int} {x7 : Int} {x8 : Int} {h : Heap} (n : Nat) (H : F n x0 x1 x2 x3 x4 x5 x6 x7 x8 h) : s22l6_E F x0 x1 x2 x3 x4 x5 x6 x7 x8 h := gJ_plain rfl ⟨n, H⟩

def s22l7_R (F : AVal → AVal → AVal → AVal → AVal → AVal → Int → Int → Int → Heap → Prop) (l : List AVal) (h : Heap) : Prop := J.cons l fun x0 l => J.cons l fun x1 l => J.cons l fun x2 l => J.cons l fun x3 l => J.cons l fun x4 l => J.cons l fun x5 l => J.cons l fun v l => J.int .i64 v fun x6 => J.cons l fun v l => J.int .i64 v fun x7 => J.cons l fun v l => J.int .i64 v fun x8 => J.nil l (F x0 x1 x2 x3 x4 x5 x6 x7 x8 h)
def s22l7_G (F : AVal → AVal → AVal → AVal → AVal → AVal → Int → Int → Int → Heap → Prop) (x0 : AVal) (x1 : AVal) (x2 : AVal) (x3 : AVal) (x4 : AVal) (x5 : AVal) (x6 : Int) (x7 : Int) (x8 : Int) (h : Heap) : Prop := gJ [.any, .any, .any, .any, .any, .any, .int .i64, .int .i64, .int .i64] [x0, x1, x2, x3, x4, x5, (.int .i64 x6), (.int .i64 x7), (.int .i64 x8)] h (s22l7_R F)
def s22l7_E (F : Nat → AVal → AVal → AVal → AVal → AVal → AVal → Int → Int → Int → Heap → Prop) (x0 : AVal) (x1 : AVal) (x2 : AVal) (x3 : AVal) (x4 : AVal) (x5 : AVal) (x6 : Int) (x7 : Int) (x8 : Int) (h : Heap) : Prop := gJ [.any, .any, .any, .any, .any, .any, .int .i64, .int .i64, .int .i64] [x0, x1, x2, x3, x4, x5, (.int .i64 x6), (.int .i64 x7), (.int .i64 x8)] h (fun l h => ∃ n, s22l7_R (F n) l h)
theorem s22l7_go {F : AVal → AVal → AVal → AVal → AVal → AVal → Int → Int → Int → Heap → Prop} {x0 : AVal} {x1 : AVal} {x2 : AVal} {x3 : AVal} {x4 : AVal} {x5 : AVal} {x6 : Int} {x7 : Int} {x8 : Int} {h : Heap} (H : F x0 x1 x2 x3 x4 x5 x6 x7 x8 h) : s22l7_G F x0 x1 x2 x3 x4 x5 x6 x7 x8 h := gJ_plain rfl H
theorem s22l7_in {F : Nat → AVal → AVal → AVal → AVal → AVal → AVal → Int → Int → Int → Heap → Prop} {x0 : AVal} {x1 : AVal} {x2 : AVal} {x3 : AVal} {x4 : AVal} {x5 : AVal} {x6 : Int} {x7 : Int} {x8 : Int} {h : Heap} (n : Nat) (H : F n x0 x1 x2 x3 x4 x5 x6 x7 x8 h) : s22l7_E F x0 x1 x2 x3 x4 x5 x6 x7 x8 h := gJ_plain rfl ⟨n, H⟩

def s22l8_R (F : AVal → AVal → AVal → AVal → AVal → AVal → Int → Int → Int → AVal → Int → Heap → Prop) (l : List AVal) (h : Heap) : Prop := J.cons l fun x0 l => J.cons l fun x1 l => J.cons l fun x2 l => J.cons l fun x3 l => J.cons l fun x4 l => J.cons l fun x5 l => J.cons l fun v l => J.int .i64 v fun x6 => J.cons l fun v l => J.int .i64 v fun x7 => J.cons l fun v l => J.int .i64 v fun x8 => J.cons l fun x9 l => J.cons l fun v l => J.int .i64 v fun x10 => J.nil l (F x0 x1 x2 x3 x4 x5 x6 x7 x8 x9 x10 h)
def s22l8_G (F : AVal → AVal → AVal → AVal → AVal → AVal → Int → Int → Int → AVal → Int → Heap → Prop) (x0 : AVal) (x1 : AVal) (x2 : AVal) (x3 : AVal) (x4 : AVal) (x5 : AVal) (x6 : Int) (x7 : Int) (x8 : Int) (x9 : AVal) (x10 : Int) (h : Heap) : Prop := gJ [.any, .any, .any, .any, .any, .any, .int .i64, .int .i64, .int .i64, .any, .int .i64] [x0, x1, x2, x3, x4, x5, (.int .i64 x6), (.int .i64 x7), (.int .i64 x8), x9, (.int .i64 x10)] h (s22l8_R F)
def s22l8_E (F : Nat → AVal → AVal → AVal → AVal → AVal → AVal → Int → Int → Int → AVal → Int → Heap → Prop) (x0 : AVal) (x1 : AVal) (x2 : AVal) (x3 : AVal) (x4 : AVal) (x5 : AVal) (x6 : Int) (x7 : Int) (x8 : Int) (x9 : AVal) (x10 : Int) (h : Heap) : Prop := gJ [.any, .any, .any, .any, .any, .any, .int .i64, .int .i64, .int .i64, .any, .int .i64] [x0, x1, x2, x3, x4, x5, (.int .i64 x6), (.int .i64 x7), (.int .i64 x8), x9, (.int .i64 x10)] h (fun l h => ∃ n, s22l8_R (F n) l h)
theorem s22l8_go {F : AVal → AVal → AVal → AVal → AVal → AVal → Int → Int → Int → AVal → Int → Heap → Prop} {x0 : AVal} {x1 : AVal} {x2 : AVal} {x3 : AVal} {x4 : AVal} {x5 : AVal} {x6 : Int} {x7 : Int} {x8 : Int} {x9 : AVal} {x10 : Int} {h : Heap} (H : F x0 x1 x2 x3 x4 x5 x6 x7 x8 x9 x10 h) : s22l8_G F x0 x1 x2 x3 x4 x5 x6 x7 x8 x9 x10 h := gJ_plain rfl H
theorem s22l8_in {F : Nat → AVal → AVal → AVal → AVal → AVal → AVal → Int → Int → Int → AVal → Int → Heap → Prop} {x0 : AVal} {x1 : AVal} {x2 : AVal} {x3 : AVal} {x4 : AVal} {x5 : AVal} {x6 : Int} {x7 : Int} {x8 : Int} {x9 : AVal} {x10 : Int} {h : Heap} (n : Nat) (H : F n x0 x1 x2 x3 x4 x5 x6 x7 x8 x9 x10 h) : s22l8_E F x0 x1 x2 x3 x4 x5 x6 x7 x8 x9 x10 h := gJ_plain rfl ⟨n, H⟩

def s22l8 (Ψ : AVal → Heap → Prop) (L4 : AVal → AVal → AVal → AVal → AVal → AVal → Int → Heap → Prop) (L7 : AVal → AVal → AVal → AVal → AVal → AVal → Int → Int → Int → Heap → Prop) : Nat → AVal → AVal → AVal → AVal → AVal → AVal → Int → Int → Int → AVal → Int → Heap → Prop
  | 0, _, _, _, _, _, _, _, _, _, _, _, _ => False
  | n11 + 1, l_29, atoms8, t4_7, out4, places4, up4, i5, at_1, w1, row, k3, h =>
    ixS 2 l_29 i5 fun p12 =>
    addOff p12 0 fun p13 =>
    ld1 h p13 fun v37 =>
    ixS 1 v37 w1 fun p14 =>
    ld1 h p14 fun v38 =>
    lenN v38 fun n12 =>
    ifT (decide (k3 < n12)) (
      ixS 2 l_29 i5 fun p15 =>
      addOff p15 0 fun p16 =>
      ld1 h p16 fun v39 =>
      ixS 1 v39 w1 fun p17 =>
      ld1 h p17 fun v40 =>
      ixS 1 v40 k3 fun p18 =>
      ld1 h p18 fun v41 =>
      tInt .i64 v41 fun v42 =>
      rg (at_1 + v42) (
        appC 1 8 h row (.lsl 1 [(.int .i64 (at_1 + v42))]) fun v43 h_15 =>
        rg (k3 + 1) (
          s22l8_G (s22l8 Ψ L4 L7 n11) l_29 atoms8 t4_7 out4 places4 up4 i5 at_1 w1 v43 (k3 + 1) h_15))) (
      addOff out4 0 fun p19 =>
      ld1 h p19 fun v44 =>
      chk (sc row) (
        appC 1 24 h v44 (.lsl 1 [row]) fun v45 h_16 =>
        addOff out4 0 fun p20 =>
        chk (sc v45) (
          st true h_16 p20 [v45] fun h_17 =>
          addOff out4 1 fun p21 =>
          ld1 h_17 p21 fun v46 =>
          ixS 2 l_29 i5 fun p22 =>
          addOff p22 1 fun p23 =>
          ld1 h_17 p23 fun v47 =>
          ixS 1 v47 w1 fun p24 =>
          ld1 h_17 p24 fun v48 =>
          chk (sc v48) (
            (ld1 h_17 p21 fun v49 =>
            v49 = v46) ∧
            appC 1 24 h_17 v46 (.lsl 1 [v48]) fun v50 h_18 =>
            addOff out4 1 fun p25 =>
            chk (sc v50) (
              st true h_18 p25 [v50] fun h_19 =>
              rg (w1 + 1) (
                L7 l_29 atoms8 t4_7 out4 places4 up4 i5 at_1 (w1 + 1) h_19))))))

def s22l7 (Ψ : AVal → Heap → Prop) (L4 : AVal → AVal → AVal → AVal → AVal → AVal → Int → Heap → Prop) : Nat → AVal → AVal → AVal → AVal → AVal → AVal → Int → Int → Int → Heap → Prop
  | 0, _, _, _, _, _, _, _, _, _, _ => False
  | n9 + 1, l_28, atoms7, t4_6, out3, places3, up3, i4, at_, w, h =>
    ixS 2 l_28 i4 fun p10 =>
    addOff p10 0 fun p11 =>
    ld1 h p11 fun v36 =>
    lenN v36 fun n10 =>
    ifT (decide (w < n10)) (
      s22l8_E (s22l8 Ψ L4 (s22l7_G (s22l7 Ψ L4 n9))) l_28 atoms7 t4_6 out3 places3 up3 i4 at_ w .nilsl 0 h) (
      rg (i4 + 1) (
        L4 l_28 atoms7 t4_6 out3 places3 up3 (i4 + 1) h))

def s22l6 (Ψ : AVal → Heap → Prop) (L4 : AVal → AVal → AVal → AVal → AVal → AVal → Int → Heap → Prop) : Nat → AVal → AVal → AVal → AVal → AVal → AVal → Int → Int → Int → Heap → Prop
  | 0, _, _, _, _, _, _, _, _, _, _ => False
  | n6 + 1, l_24, atoms6, t4_5, out2, places2, up2, i3, r5, k2, h =>
    lenN atoms6 fun n7 =>
    ifT (decide (k2 < n7)) (
      ixS 2 l_24 i3 fun p5 =>
      addOff p5 1 fun p6 =>
      ld1 h p6 fun v25 =>
      ixS 1 v25 r5 fun p7 =>
      ld1 h p7 fun v26 =>
      ixS 1 atoms6 k2 fun p8 =>
      ld1 h p8 fun v27 =>
      tStr v27 fun v28 =>
      callG prog 49 [v26, (.str v28)] h fun v29 h_11 =>
      tBool v29 fun v30 =>
      ifT (!v30) (
        st false h_11 t4_5 [.nilsl, .nilsl] fun h_12 =>
        ldN 2 h_12 t4_5 fun l_25 =>
        tCons l_25 fun v31 l_26 =>
        tCons l_26 fun v32 l_27 =>
        tNil l_27 (
          retG (.tuple [(.agg [v31, v32]), .nilsl, (.int .i64 190)]) h_12 Ψ)) (
        rg (k2 + 1) (
          s22l6_G (s22l6 Ψ L4 n6) l_24 atoms6 t4_5 out2 places2 up2 i3 r5 (k2 + 1) h_11))) (
      addOff out2 0 fun p9 =>
      ld1 h p9 fun v33 =>
      lenN v33 fun n8 =>
      appC 1 8 h places2 (.lsl 1 [(.int .i64 n8)]) fun v34 h_13 =>
      rg (n8 + r5) (
        appC 1 8 h_13 up2 (.lsl 1 [(.int .i64 (n8 + r5))]) fun v35 h_14 =>
        s22l7_E (s22l7 Ψ L4) l_24 atoms6 t4_5 out2 v34 v35 i3 n8 0 h_14))

def s22c5 (Ψ : AVal → Heap → Prop) (L4 : AVal → AVal → AVal → AVal → AVal → AVal → Int → Heap → Prop) (l_20 : AVal) (atoms5 : AVal) (t4_4 : AVal) (out1 : AVal) (places1 : AVal) (up1 : AVal) (i2 : Int) (r4 : Int) (t94 : Bool) (h : Heap) : Prop :=
  ifT t94 (
    st false h t4_4 [.nilsl, .nilsl] fun h_10 =>
    ldN 2 h_10 t4_4 fun l_21 =>
    tCons l_21 fun v23 l_22 =>
    tCons l_22 fun v24 l_23 =>
    tNil l_23 (
      retG (.tuple [(.agg [v23, v24]), .nilsl, (.int .i64 190)]) h_10 Ψ)) (
    s22l6_E (s22l6 Ψ L4) l_20 atoms5 t4_4 out1 places1 up1 i2 r4 0 h)

def s22l4 (Ψ : AVal → Heap → Prop) : Nat → AVal → AVal → AVal → AVal → AVal → AVal → Int → Heap → Prop
  | 0, _, _, _, _, _, _, _, _ => False
  | n4 + 1, l_13, atoms4, t4_3, out, places, up, i1, h =>
    lenN l_13 fun n5 =>
    ifT (decide (i1 < n5)) (
      ixS 2 l_13 i1 fun p4 =>
      ldN 2 h p4 fun l_14 =>
      tCons l_14 fun v16 l_15 =>
      tCons l_15 fun v17 l_16 =>
      tNil l_16 (
        callG prog 27 [(.agg [v16, v17])] h fun v18 h_9 =>
        tTup v18 fun l_17 =>
        tCons l_17 fun v19 l_18 =>
        tInt .i64 v19 fun v20 =>
        tCons l_18 fun v21 l_19 =>
        tBool v21 fun v22 =>
        tNil l_19 (
          ifT (!v22) (
            s22c5 Ψ (s22l4_G (s22l4 Ψ n4)) l_13 atoms4 t4_3 out places up i1 v20 true h_9) (
            addOff out 0 fun p26 =>
            ld1 h_9 p26 fun v51 =>
            lenN v51 fun n16 =>
            ixS 2 l_13 i1 fun p27 =>
            addOff p27 0 fun p28 =>
            ld1 h_9 p28 fun v52 =>
            lenN v52 fun n17 =>
            rg (n16 + n17) (
              s22c5 Ψ (s22l4_G (s22l4 Ψ n4)) l_13 atoms4 t4_3 out places up i1 v20 (decide (512 < (n16 + n17))) h_9))))) (
      addOff out 0 fun p29 =>
      ld1 h p29 fun v53 =>
      ixS 1 v53 0 fun p30 =>
      chk (sc up) (
        st true h p30 [up] fun h_20 =>
        ldN 2 h_20 out fun l_30 =>
        tCons l_30 fun v54 l_31 =>
        tCons l_31 fun v55 l_32 =>
        tNil l_32 (
          callG prog 37 [(.agg [v54, v55])] h_20 fun v56 h_21 =>
          tAgg v56 fun l_33 =>
          tCons l_33 fun v57 l_34 =>
          tCons l_34 fun v58 l_35 =>
          tNil l_35 (
            st false h_21 t4_3 [v57, v58] fun h_22 =>
            ldN 2 h_22 t4_3 fun l_36 =>
            tCons l_36 fun v59 l_37 =>
            tCons l_37 fun v60 l_38 =>
            tNil l_38 (
              retG (.tuple [(.agg [v59, v60]), places, (.int .i64 0)]) h_22 Ψ)))))

def s22l2 (Ψ : AVal → Heap → Prop) : Nat → AVal → AVal → AVal → Int → Heap → Prop
  | 0, _, _, _, _, _ => False
  | n2 + 1, l_8, atoms2, t4_1, k, h =>
    lenN atoms2 fun n3 =>
    ifT (decide (k < n3)) (
      ixS 1 atoms2 k fun p1 =>
      ld1 h p1 fun v8 =>
      tStr v8 fun v9 =>
      callG prog 48 [(.str v9)] h fun v10 h_4 =>
      tBool v10 fun v11 =>
      ifT (!v11) (
        s22c3 Ψ (s22l2_G (s22l2 Ψ n2)) l_8 atoms2 t4_1 k true h_4) (
        ifT (decide (0 < k)) (
          rg (k - 1) (
            ixS 1 atoms2 (k - 1) fun p2 =>
            ld1 h_4 p2 fun v12 =>
            tStr v12 fun v13 =>
            ixS 1 atoms2 k fun p3 =>
            ld1 h_4 p3 fun v14 =>
            tStr v14 fun v15 =>
            s22c3 Ψ (s22l2_G (s22l2 Ψ n2)) l_8 atoms2 t4_1 k (!strLt v13 v15) h_4)) (
          s22c3 Ψ (s22l2_G (s22l2 Ψ n2)) l_8 atoms2 t4_1 k false h_4))) (
      Sym.newRow 1 [.nilsl] h fun r1 h_5 =>
      chk (sc atoms2) (
        Sym.newRow 1 [atoms2] h_5 fun r2 h_6 =>
        Sym.newRow 2 [(.agg [.nilsl, .nilsl])] h_6 fun r3 h_7 =>
        st false h_7 (.ptr r3 0 0) [(.sl r1 1 0 1), (.sl r2 1 0 1)] fun h_8 =>
        s22l4_E (s22l4 Ψ) l_8 atoms2 t4_1 (.ptr r3 0 0) .nilsl .nilsl 0 h_8))

def s22l1 (Ψ : AVal → Heap → Prop) : Nat → AVal → AVal → AVal → Int → Heap → Prop
  | 0, _, _, _, _, _ => False
  | n + 1, l_1, atoms1, t4, i, h =>
    lenN l_1 fun n1 =>
    ifT (decide (i < n1)) (
      ixS 2 l_1 i fun p =>
      ldN 2 h p fun l_2 =>
      tCons l_2 fun v l_3 =>
      tCons l_3 fun v1 l_4 =>
      tNil l_4 (
        callG prog 47 [(.agg [v, v1])] h fun v2 h_1 =>
        tInt .i64 v2 fun v3 =>
        ifT (v3 != 0) (
          st false h_1 t4 [.nilsl, .nilsl] fun h_2 =>
          ldN 2 h_2 t4 fun l_5 =>
          tCons l_5 fun v4 l_6 =>
          tCons l_6 fun v5 l_7 =>
          tNil l_7 (
            retG (.tuple [(.agg [v4, v5]), .nilsl, (.int .i64 170)]) h_2 Ψ)) (
          rg (i + 1) (
            s22l1_G (s22l1 Ψ n) l_1 atoms1 t4 (i + 1) h_1)))) (
      s22l2_E (s22l2 Ψ) l_1 atoms1 t4 0 h)

def s22 (Ψ : AVal → Heap → Prop) (l_ : AVal) (atoms : AVal) (h : Heap) : Prop :=
  Sym.newRow 2 [(.agg [.nilsl, .nilsl])] h fun r h_ =>
  s22l1_E (s22l1 Ψ) l_ atoms (.ptr r 0 0) 0 h_

def s22_A (Ψ : AVal → Heap → Prop) : Ann :=
  .seq (.reg [⟨none, [(0, false), (1, false), (2, false)]⟩])
  (.seq (.seq (.reg [⟨none, [(0, false)]⟩])
  (.block (.loop [(0, .any), (1, .any), (4, .any), (7, .int .i64)] (fun n l h => s22l1_R (s22l1 Ψ n) l h) (fun L1 =>
  .seq (.seq (.reg [⟨none, [(0, false), (1, false), (2, false), (3, false)]⟩])
  (.cond (.leaf)
  (.leaf)))
  (.seq (.block (.seq (.reg [⟨none, [(0, false), (1, false), (2, false), (3, false), (4, false), (5, false)]⟩])
  (.cond (.seq (.reg [⟨none, [(0, false), (1, false), (2, false), (3, false)]⟩])
  (.leaf))
  (.leaf))))
  (.reg [⟨none, [(0, false), (1, false), (2, false)]⟩]))))))
  (.seq (.seq (.reg [⟨none, [(0, false)]⟩])
  (.block (.loop [(0, .any), (1, .any), (4, .any), (8, .int .i64)] (fun n l h => s22l2_R (s22l2 Ψ n) l h) (fun L2 =>
  .seq (.seq (.reg [⟨none, [(0, false), (1, false), (2, false), (3, false)]⟩])
  (.cond (.leaf)
  (.leaf)))
  (.seq (.block (.cut [(0, .any), (1, .any), (4, .any), (8, .int .i64), (60, .bool)] (fun l h => J.cons l fun x0 l => J.cons l fun x1 l => J.cons l fun x2 l => J.cons l fun v l => J.int .i64 v fun x3 => J.cons l fun v l => J.bool v fun x4 => J.nil l (s22c3 Ψ (fun y0 y1 y2 y3 h => L2 [y0, y1, y2, (.int .i64 y3)] h) x0 x1 x2 x3 x4 h)) (.draw [(0, false), (1, false), (2, false), (3, false), (4, false), (5, false), (6, false), (7, false), (8, false), (9, false), (10, false), (11, false), (12, false), (13, false), (14, false), (15, false), (16, false), (17, false), (18, false), (19, false), (20, false), (21, false)] [0, 0, 3, 7, 15, 31, 63, 127, 255, 511, 1023, 1023, 3071, 8191, 16383, 1023, 1023, 99327, 230399, 524287, 1048575, 2097151])
  (.cond (.seq (.reg [⟨none, [(0, false), (1, false), (2, false), (3, false)]⟩])
  (.leaf))
  (.leaf))))
  (.reg [⟨none, [(0, false), (1, false), (2, false)]⟩]))))))
  (.seq (.reg [⟨none, [(0, false), (1, false), (2, false), (3, false), (4, false), (5, false)]⟩])
  (.seq (.reg [⟨none, [(0, false)]⟩])
  (.seq (.reg [⟨none, [(0, false)]⟩])
  (.seq (.seq (.reg [⟨none, [(0, false)]⟩])
  (.block (.loop [(0, .any), (1, .any), (4, .any), (9, .any), (10, .any), (11, .any), (12, .int .i64)] (fun n l h => s22l4_R (s22l4 Ψ n) l h) (fun L4 =>
  .seq (.seq (.reg [⟨none, [(0, false), (1, false), (2, false), (3, false)]⟩])
  (.cond (.leaf)
  (.leaf)))
  (.seq (.block (.seq (.reg [⟨none, [(0, false), (1, false), (2, false), (3, false), (4, false), (5, false), (6, false), (7, false), (8, false), (9, false)]⟩])
  (.seq (.cut [(0, .any), (1, .any), (4, .any), (9, .any), (10, .any), (11, .any), (12, .int .i64), (13, .int .i64), (94, .bool)] (fun l h => J.cons l fun x0 l => J.cons l fun x1 l => J.cons l fun x2 l => J.cons l fun x3 l => J.cons l fun x4 l => J.cons l fun x5 l => J.cons l fun v l => J.int .i64 v fun x6 => J.cons l fun v l => J.int .i64 v fun x7 => J.cons l fun v l => J.bool v fun x8 => J.nil l (s22c5 Ψ (fun y0 y1 y2 y3 y4 y5 y6 h => L4 [y0, y1, y2, y3, y4, y5, (.int .i64 y6)] h) x0 x1 x2 x3 x4 x5 x6 x7 x8 h)) (.draw [(0, false), (1, false), (2, false), (3, false), (4, false), (5, false), (6, false), (7, false), (8, false), (9, false), (10, false), (11, false), (12, false), (13, false), (14, false)] [0, 1, 3, 7, 15, 31, 7, 7, 199, 455, 967, 1991, 4095, 8191, 16383])
  (.cond (.seq (.reg [⟨none, [(0, false), (1, false), (2, false), (3, false)]⟩])
  (.leaf))
  (.leaf)))
  (.seq (.seq (.reg [⟨none, [(0, false)]⟩])
  (.block (.loop [(0, .any), (1, .any), (4, .any), (9, .any), (10, .any), (11, .any), (12, .int .i64), (13, .int .i64), (15, .int .i64)] (fun n l h => s22l6_R (s22l6 Ψ (fun y0 y1 y2 y3 y4 y5 y6 h => L4 [y0, y1, y2, y3, y4, y5, (.int .i64 y6)] h) n) l h) (fun L6 =>
  .seq (.seq (.reg [⟨none, [(0, false), (1, false), (2, false), (3, false)]⟩])
  (.cond (.leaf)
  (.leaf)))
  (.seq (.block (.seq (.draw [(0, false), (1, false), (2, false), (3, false), (4, false), (5, false), (6, false), (7, false), (8, false), (9, false), (10, false), (11, false), (12, false), (13, false)] [0, 0, 3, 7, 15, 0, 63, 127, 0, 0, 768, 1792, 4095, 8191])
  (.cond (.seq (.reg [⟨none, [(0, false), (1, false), (2, false), (3, false)]⟩])
  (.leaf))
  (.leaf))))
  (.reg [⟨none, [(0, false), (1, false), (2, false)]⟩]))))))
  (.seq (.reg [⟨none, [(0, false), (1, false), (2, false), (3, false)]⟩])
  (.seq (.reg [⟨none, [(0, false), (1, false), (2, true), (3, false), (4, false)]⟩])
  (.seq (.reg [⟨none, [(0, false), (1, false), (2, false), (3, false), (4, true), (5, false), (6, false)]⟩])
  (.seq (.reg [⟨none, [(0, false)]⟩])
  (.block (.loop [(0, .any), (1, .any), (4, .any), (9, .any), (10, .any), (11, .any), (12, .int .i64), (16, .int .i64), (17, .int .i64)] (fun n l h => s22l7_R (s22l7 Ψ (fun y0 y1 y2 y3 y4 y5 y6 h => L4 [y0, y1, y2, y3, y4, y5, (.int .i64 y6)] h) n) l h) (fun L7 =>
  .seq (.seq (.reg [⟨none, [(0, false), (1, false), (2, false), (3, false), (4, false), (5, false), (6, false), (7, false)]⟩])
  (.cond (.leaf)
  (.leaf)))
  (.seq (.block (.seq (.reg [⟨none, [(0, false)]⟩])
  (.seq (.seq (.reg [⟨none, [(0, false)]⟩])
  (.block (.loop [(0, .any), (1, .any), (4, .any), (9, .any), (10, .any), (11, .any), (12, .int .i64), (16, .int .i64), (17, .int .i64), (18, .any), (19, .int .i64)] (fun n l h => s22l8_R (s22l8 Ψ (fun y0 y1 y2 y3 y4 y5 y6 h => L4 [y0, y1, y2, y3, y4, y5, (.int .i64 y6)] h) (fun y0 y1 y2 y3 y4 y5 y6 y7 y8 h => L7 [y0, y1, y2, y3, y4, y5, (.int .i64 y6), (.int .i64 y7), (.int .i64 y8)] h) n) l h) (fun L8 =>
  .seq (.seq (.reg [⟨none, [(0, false), (1, false), (2, false), (3, false), (4, false), (5, false), (6, false), (7, false), (8, false), (9, false), (10, false)]⟩])
  (.cond (.leaf)
  (.leaf)))
  (.seq (.block (.reg [⟨none, [(0, false), (1, false), (2, false), (3, false), (4, false), (5, false), (6, false), (7, false), (8, false), (9, false), (10, false), (11, false), (12, false), (13, false), (14, true), (15, false), (16, false)]⟩]))
  (.reg [⟨none, [(0, false), (1, false), (2, false)]⟩]))))))
  (.seq (.reg [⟨none, [(0, false), (1, false), (2, false), (3, true), (4, false), (5, false), (6, false)]⟩])
  (.draw [(0, false), (1, false), (2, false), (3, false), (4, false), (5, false), (6, false), (7, false), (8, false), (9, false), (10, true), (11, false), (12, false), (13, false)] [0, 1, 0, 0, 12, 28, 60, 0, 252, 508, 1020, 2047, 4095, 8191])))))
  (.reg [⟨none, [(0, false), (1, false), (2, false)]⟩])))))))))))))
  (.reg [⟨none, [(0, false), (1, false), (2, false)]⟩]))))))
  (.seq (.reg [⟨none, [(0, false), (1, false), (2, false), (3, false), (4, false)]⟩])
  (.seq (.reg [⟨none, [(0, false), (1, false), (2, false), (3, false), (4, false), (5, false)]⟩])
  (.leaf)))))))))

theorem s22_ok {Ψ : AVal → Heap → Prop} {l_ : AVal} {atoms : AVal} {h : Heap} (H : s22 Ψ l_ atoms h) : ACalls prog 22 [l_, atoms] h Ψ :=
  calls_of_evF func22 (by kernel_rfl) (by kernel_rfl) (by kernel_rfl)
    (Eq.mpr (by as_aux_lemma => kernel_rfl : oblF prog f22 (s22_A Ψ) Ψ = (True ∧ (True ∧ (∀ (h : Heap) (x0 x1 x2 : AVal) (x3 : Int), ON (s22l1 Ψ 0 x0 x1 x2 x3 h)) ∧ ∀ n1 : Nat, (∀ (h : Heap) (x0 x1 x2 : AVal) (x3 : Int), OI (s22l1 Ψ (n1 + 1) x0 x1 x2 x3 h)) ∧ ((True ∧ True ∧ True) ∧ (True ∧ (True ∧ True) ∧ True) ∧ True)) ∧ (True ∧ (∀ (h : Heap) (x0 x1 x2 : AVal) (x3 : Int), ON (s22l2 Ψ 0 x0 x1 x2 x3 h)) ∧ ∀ n2 : Nat, (∀ (h : Heap) (x0 x1 x2 : AVal) (x3 : Int), OI (s22l2 Ψ (n2 + 1) x0 x1 x2 x3 h)) ∧ ((True ∧ True ∧ True) ∧ ((True) ∧ (∀ (h : Heap) (x0 x1 x2 : AVal) (x3 : Int) (x4 : Bool), OI (s22c3 Ψ (s22l2_G (s22l2 Ψ n2)) x0 x1 x2 x3 x4 h)) ∧ ((True ∧ True) ∧ True)) ∧ True)) ∧ True ∧ True ∧ True ∧ (True ∧ (∀ (h : Heap) (x0 x1 x2 x3 x4 x5 : AVal) (x6 : Int), ON (s22l4 Ψ 0 x0 x1 x2 x3 x4 x5 x6 h)) ∧ ∀ n4 : Nat, (∀ (h : Heap) (x0 x1 x2 x3 x4 x5 : AVal) (x6 : Int), OI (s22l4 Ψ (n4 + 1) x0 x1 x2 x3 x4 x5 x6 h)) ∧ ((True ∧ True ∧ True) ∧ (True ∧ ((True) ∧ (∀ (h : Heap) (x0 x1 x2 x3 x4 x5 : AVal) (x6 x7 : Int) (x8 : Bool), OI (s22c5 Ψ (s22l4_G (s22l4 Ψ n4)) x0 x1 x2 x3 x4 x5 x6 x7 x8 h)) ∧ ((True ∧ True) ∧ True)) ∧ (True ∧ (∀ (h : Heap) (x0 x1 x2 x3 x4 x5 : AVal) (x6 x7 x8 : Int), ON (s22l6 Ψ (s22l4_G (s22l4 Ψ n4)) 0 x0 x1 x2 x3 x4 x5 x6 x7 x8 h)) ∧ ∀ n6 : Nat, (∀ (h : Heap) (x0 x1 x2 x3 x4 x5 : AVal) (x6 x7 x8 : Int), OI (s22l6 Ψ (s22l4_G (s22l4 Ψ n4)) (n6 + 1) x0 x1 x2 x3 x4 x5 x6 x7 x8 h)) ∧ ((True ∧ True ∧ True) ∧ (True ∧ (True ∧ True) ∧ True) ∧ True)) ∧ True ∧ True ∧ True ∧ True ∧ (∀ (h : Heap) (x0 x1 x2 x3 x4 x5 : AVal) (x6 x7 x8 : Int), ON (s22l7 Ψ (s22l4_G (s22l4 Ψ n4)) 0 x0 x1 x2 x3 x4 x5 x6 x7 x8 h)) ∧ ∀ n7 : Nat, (∀ (h : Heap) (x0 x1 x2 x3 x4 x5 : AVal) (x6 x7 x8 : Int), OI (s22l7 Ψ (s22l4_G (s22l4 Ψ n4)) (n7 + 1) x0 x1 x2 x3 x4 x5 x6 x7 x8 h)) ∧ ((True ∧ True ∧ True) ∧ (True ∧ (True ∧ (∀ (h : Heap) (x0 x1 x2 x3 x4 x5 : AVal) (x6 x7 x8 : Int) (x9 : AVal) (x10 : Int), ON (s22l8 Ψ (s22l4_G (s22l4 Ψ n4)) (s22l7_G (s22l7 Ψ (s22l4_G (s22l4 Ψ n4)) n7)) 0 x0 x1 x2 x3 x4 x5 x6 x7 x8 x9 x10 h)) ∧ ∀ n8 : Nat, (∀ (h : Heap) (x0 x1 x2 x3 x4 x5 : AVal) (x6 x7 x8 : Int) (x9 : AVal) (x10 : Int), OI (s22l8 Ψ (s22l4_G (s22l4 Ψ n4)) (s22l7_G (s22l7 Ψ (s22l4_G (s22l4 Ψ n4)) n7)) (n8 + 1) x0 x1 x2 x3 x4 x5 x6 x7 x8 x9 x10 h)) ∧ ((True ∧ True ∧ True) ∧ True ∧ True)) ∧ True ∧ True) ∧ True)) ∧ True)) ∧ True ∧ True ∧ True)) ⟨trivial, ⟨⟨trivial, ⟨fun _ _ _ _ _ H => H, fun _ => ⟨fun _ _ _ _ _ H => H, ⟨⟨trivial, ⟨trivial, trivial⟩⟩, ⟨⟨trivial, ⟨⟨trivial, trivial⟩, trivial⟩⟩, trivial⟩⟩⟩⟩⟩, ⟨⟨trivial, ⟨fun _ _ _ _ _ H => H, fun _ => ⟨fun _ _ _ _ _ H => H, ⟨⟨trivial, ⟨trivial, trivial⟩⟩, ⟨⟨trivial, fun _ _ _ _ _ _ H => H, ⟨⟨trivial, trivial⟩, trivial⟩⟩, trivial⟩⟩⟩⟩⟩, ⟨trivial, ⟨trivial, ⟨trivial, ⟨⟨trivial, ⟨fun _ _ _ _ _ _ _ _ H => H, fun _ => ⟨fun _ _ _ _ _ _ _ _ H => H, ⟨⟨trivial, ⟨trivial, trivial⟩⟩, ⟨⟨trivial, ⟨⟨trivial, fun _ _ _ _ _ _ _ _ _ _ H => H, ⟨⟨trivial, trivial⟩, trivial⟩⟩, ⟨⟨trivial, ⟨fun _ _ _ _ _ _ _ _ _ _ H => H, fun _ => ⟨fun _ _ _ _ _ _ _ _ _ _ H => H, ⟨⟨trivial, ⟨trivial, trivial⟩⟩, ⟨⟨trivial, ⟨⟨trivial, trivial⟩, trivial⟩⟩, trivial⟩⟩⟩⟩⟩, ⟨trivial, ⟨trivial, ⟨trivial, ⟨trivial, ⟨fun _ _ _ _ _ _ _ _ _ _ H => H, fun _ => ⟨fun _ _ _ _ _ _ _ _ _ _ H => H, ⟨⟨trivial, ⟨trivial, trivial⟩⟩, ⟨⟨trivial, ⟨⟨trivial, ⟨fun _ _ _ _ _ _ _ _ _ _ _ _ H => H, fun _ => ⟨fun _ _ _ _ _ _ _ _ _ _ _ _ H => H, ⟨⟨trivial, ⟨trivial, trivial⟩⟩, ⟨trivial, trivial⟩⟩⟩⟩⟩, ⟨trivial, trivial⟩⟩⟩, trivial⟩⟩⟩⟩⟩⟩⟩⟩⟩⟩⟩, trivial⟩⟩⟩⟩⟩, ⟨trivial, ⟨trivial, trivial⟩⟩⟩⟩⟩⟩⟩⟩⟩)
    (Eq.mpr (by as_aux_lemma => kernel_rfl : evF prog f22 (s22_A Ψ) Ψ [l_, atoms] h = s22 Ψ l_ atoms h) H)

/- 24 dictum/dictumlaw19.rowsOf -/
def s24 (Ψ : AVal → Heap → Prop) (rows : AVal) (h : Heap) : Prop :=
  callG prog 50 [rows] h fun v h_ =>
  tTup v fun l_ =>
  tCons l_ fun v1 l_1 =>
  tCons l_1 fun v2 l_2 =>
  tInt .i64 v2 fun v3 =>
  tNil l_2 (
    ifT (v3 != 0) (
      retG .nilsl h_ Ψ) (
      nilCheckA v1 fun p =>
      addOff p 0 fun p1 =>
      ld1 h_ p1 fun v4 =>
      retG v4 h_ Ψ))

def s24_A (Ψ : AVal → Heap → Prop) : Ann :=
  .seq (.reg [⟨none, [(0, false)]⟩])
  (.seq (.reg [⟨none, [(0, false), (1, false), (2, false), (3, false), (4, false), (5, false), (6, false)]⟩])
  (.seq (.seq (.reg [⟨none, [(0, false), (1, false)]⟩])
  (.cond (.seq (.reg [⟨none, [(0, false)]⟩])
  (.leaf))
  (.leaf)))
  (.seq (.reg [⟨none, [(0, false), (1, false), (2, false), (3, false), (4, false)]⟩])
  (.leaf))))

theorem s24_ok {Ψ : AVal → Heap → Prop} {rows : AVal} {h : Heap} (H : s24 Ψ rows h) : ACalls prog 24 [rows] h Ψ :=
  calls_of_evF func24 (by kernel_rfl) (by kernel_rfl) (by kernel_rfl)
    (Eq.mpr (by as_aux_lemma => kernel_rfl : oblF prog f24 (s24_A Ψ) Ψ = (True ∧ True ∧ (True ∧ (True ∧ True) ∧ True) ∧ True ∧ True)) ⟨trivial, ⟨trivial, ⟨⟨trivial, ⟨⟨trivial, trivial⟩, trivial⟩⟩, ⟨trivial, trivial⟩⟩⟩⟩)
    (Eq.mpr (by as_aux_lemma => kernel_rfl : evF prog f24 (s24_A Ψ) Ψ [rows] h = s24 Ψ rows h) H)

/- 26 dictum/dictumlaw19.keeps -/
def s26l2_R (F : AVal → AVal → AVal → AVal → AVal → AVal → Int → Heap → Prop) (l : List AVal) (h : Heap) : Prop := J.cons l fun x0 l => J.cons l fun x1 l => J.cons l fun x2 l => J.cons l fun x3 l => J.cons l fun x4 l => J.cons l fun x5 l => J.cons l fun v l => J.int .i64 v fun x6 => J.nil l (F x0 x1 x2 x3 x4 x5 x6 h)
def s26l2_G (F : AVal → AVal → AVal → AVal → AVal → AVal → Int → Heap → Prop) (x0 : AVal) (x1 : AVal) (x2 : AVal) (x3 : AVal) (x4 : AVal) (x5 : AVal) (x6 : Int) (h : Heap) : Prop := gJ [.any, .any, .any, .any, .any, .any, .int .i64] [x0, x1, x2, x3, x4, x5, (.int .i64 x6)] h (s26l2_R F)
def s26l2_E (F : Nat → AVal → AVal → AVal → AVal → AVal → AVal → Int → Heap → Prop) (x0 : AVal) (x1 : AVal) (x2 : AVal) (x3 : AVal) (x4 : AVal) (x5 : AVal) (x6 : Int) (h : Heap) : Prop := gJ [.any, .any, .any, .any, .any, .any, .int .i64] [x0, x1, x2, x3, x4, x5, (.int .i64 x6)] h (fun l h => ∃ n, s26l2_R (F n) l h)
theorem s26l2_go {F : AVal → AVal → AVal → AVal → AVal → AVal → Int → Heap → Prop} {x0 : AVal} {x1 : AVal} {x2 : AVal} {x3 : AVal} {x4 : AVal} {x5 : AVal} {x6 : Int} {h : Heap} (H : F x0 x1 x2 x3 x4 x5 x6 h) : s26l2_G F x0 x1 x2 x3 x4 x5 x6 h := gJ_plain rfl H
theorem s26l2_in {F : Nat → AVal → AVal → AVal → AVal → AVal → AVal → Int → Heap → Prop} {x0 : AVal} {x1 : AVal} {x2 : AVal} {x3 : AVal} {x4 : AVal} {x5 : AVal} {x6 : Int} {h : Heap} (n : Nat) (H : F n x0 x1 x2 x3 x4 x5 x6 h) : s26l2_E F x0 x1 x2 x3 x4 x5 x6 h := gJ_plain rfl ⟨n, H⟩

def s26l3_R (F : AVal → AVal → AVal → AVal → AVal → AVal → Int → Int → Heap → Prop) (l : List AVal) (h : Heap) : Prop := J.cons l fun x0 l => J.cons l fun x1 l => J.cons l fun x2 l => J.cons l fun x3 l => J.cons l fun x4 l => J.cons l fun x5 l => J.cons l fun v l => J.int .i64 v fun x6 => J.cons l fun v l => J.int .i64 v fun x7 => J.nil l (F x0 x1 x2 x3 x4 x5 x6 x7 h)
def s26l3_G (F : AVal → AVal → AVal → AVal → AVal → AVal → Int → Int → Heap → Prop) (x0 : AVal) (x1 : AVal) (x2 : AVal) (x3 : AVal) (x4 : AVal) (x5 : AVal) (x6 : Int) (x7 : Int) (h : Heap) : Prop := gJ [.any, .any, .any, .any, .any, .any, .int .i64, .int .i64] [x0, x1, x2, x3, x4, x5, (.int .i64 x6), (.int .i64 x7)] h (s26l3_R F)
def s26l3_E (F : Nat → AVal → AVal → AVal → AVal → AVal → AVal → Int → Int → Heap → Prop) (x0 : AVal) (x1 : AVal) (x2 : AVal) (x3 : AVal) (x4 : AVal) (x5 : AVal) (x6 : Int) (x7 : Int) (h : Heap) : Prop := gJ [.any, .any, .any, .any, .any, .any, .int .i64, .int .i64] [x0, x1, x2, x3, x4, x5, (.int .i64 x6), (.int .i64 x7)] h (fun l h => ∃ n, s26l3_R (F n) l h)
theorem s26l3_go {F : AVal → AVal → AVal → AVal → AVal → AVal → Int → Int → Heap → Prop} {x0 : AVal} {x1 : AVal} {x2 : AVal} {x3 : AVal} {x4 : AVal} {x5 : AVal} {x6 : Int} {x7 : Int} {h : Heap} (H : F x0 x1 x2 x3 x4 x5 x6 x7 h) : s26l3_G F x0 x1 x2 x3 x4 x5 x6 x7 h := gJ_plain rfl H
theorem s26l3_in {F : Nat → AVal → AVal → AVal → AVal → AVal → AVal → Int → Int → Heap → Prop} {x0 : AVal} {x1 : AVal} {x2 : AVal} {x3 : AVal} {x4 : AVal} {x5 : AVal} {x6 : Int} {x7 : Int} {h : Heap} (n : Nat) (H : F n x0 x1 x2 x3 x4 x5 x6 x7 h) : s26l3_E F x0 x1 x2 x3 x4 x5 x6 x7 h := gJ_plain rfl ⟨n, H⟩

def s26c4 (Ψ : AVal → Heap → Prop) (L2 : AVal → AVal → AVal → AVal → AVal → AVal → Int → Heap → Prop) (L3 : AVal → AVal → AVal → AVal → AVal → AVal → Int → Int → Heap → Prop) (f4 : AVal) (rows4 : AVal) (o3 : AVal) (p3 : AVal) (a2 : AVal) (b2 : AVal) (i2 : Int) (w1 : Int) (t93 : Bool) (h : Heap) : Prop :=
  ifT t93 (
    retG (.bool false) h Ψ) (
    rg (w1 + 1) (
      L3 f4 rows4 o3 p3 a2 b2 i2 (w1 + 1) h))

def s26l3 (Ψ : AVal → Heap → Prop) (L2 : AVal → AVal → AVal → AVal → AVal → AVal → Int → Heap → Prop) : Nat → AVal → AVal → AVal → AVal → AVal → AVal → Int → Int → Heap → Prop
  | 0, _, _, _, _, _, _, _, _, _ => False
  | n3 + 1, f3, rows3, o2, p2, a1, b1, i1, w, h =>
    lenN o2 fun n4 =>
    ifT (decide (w < n4)) (
      ixS 1 f3 w fun p4 =>
      ld1 h p4 fun v14 =>
      tInt .i64 v14 fun v15 =>
      ifT (decide (v15 < 0)) (
        s26c4 Ψ L2 (s26l3_G (s26l3 Ψ L2 n3)) f3 rows3 o2 p2 a1 b1 i1 w true h) (
        ixS 1 f3 w fun p5 =>
        ld1 h p5 fun v16 =>
        tInt .i64 v16 fun v17 =>
        lenN p2 fun n5 =>
        ifT (decide (n5 ≤ v17)) (
          s26c4 Ψ L2 (s26l3_G (s26l3 Ψ L2 n3)) f3 rows3 o2 p2 a1 b1 i1 w true h) (
          ixS 1 a1 i1 fun p6 =>
          ld1 h p6 fun v18 =>
          ixS 1 v18 w fun p7 =>
          ld1 h p7 fun v19 =>
          tBool v19 fun v20 =>
          ixS 1 b1 i1 fun p8 =>
          ld1 h p8 fun v21 =>
          ixS 1 f3 w fun p9 =>
          ld1 h p9 fun v22 =>
          tInt .i64 v22 fun v23 =>
          ixS 1 v21 v23 fun p10 =>
          ld1 h p10 fun v24 =>
          tBool v24 fun v25 =>
          eqQ prog 4 (.bool v20) (.bool v25) fun b3 =>
          s26c4 Ψ L2 (s26l3_G (s26l3 Ψ L2 n3)) f3 rows3 o2 p2 a1 b1 i1 w (!b3) h))) (
      rg (i1 + 1) (
        L2 f3 rows3 o2 p2 a1 b1 (i1 + 1) h))

def s26l2 (Ψ : AVal → Heap → Prop) : Nat → AVal → AVal → AVal → AVal → AVal → AVal → Int → Heap → Prop
  | 0, _, _, _, _, _, _, _, _ => False
  | n1 + 1, f2, rows2, o1, p1, a, b, i, h =>
    lenN rows2 fun n2 =>
    ifT (decide (i < n2)) (
      s26l3_E (s26l3 Ψ (s26l2_G (s26l2 Ψ n1))) f2 rows2 o1 p1 a b i 0 h) (
      retG (.bool true) h Ψ)

def s26c1 (Ψ : AVal → Heap → Prop) (f1 : AVal) (rows1 : AVal) (m : AVal) (n : AVal) (o : AVal) (p : AVal) (t39 : Bool) (h : Heap) : Prop :=
  ifT t39 (
    retG (.bool false) h Ψ) (
    ldN 2 h m fun l_6 =>
    tCons l_6 fun v8 l_7 =>
    tCons l_7 fun v9 l_8 =>
    tNil l_8 (
      callG prog 56 [(.agg [v8, v9]), o, rows1] h fun v10 h_2 =>
      ldN 2 h_2 n fun l_9 =>
      tCons l_9 fun v11 l_10 =>
      tCons l_10 fun v12 l_11 =>
      tNil l_11 (
        callG prog 56 [(.agg [v11, v12]), p, rows1] h_2 fun v13 h_3 =>
        s26l2_E (s26l2 Ψ) f1 rows1 o p v10 v13 0 h_3)))

def s26 (Ψ : AVal → Heap → Prop) (m_Up : AVal) (m_Val : AVal) (n_Up : AVal) (n_Val : AVal) (f : AVal) (rows : AVal) (h : Heap) : Prop :=
  callG prog 31 [(.agg [m_Up, m_Val])] h fun v h_ =>
  tTup v fun l_ =>
  tCons l_ fun v1 l_1 =>
  tCons l_1 fun v2 l_2 =>
  tBool v2 fun v3 =>
  tNil l_2 (
    callG prog 31 [(.agg [n_Up, n_Val])] h_ fun v4 h_1 =>
    tTup v4 fun l_3 =>
    tCons l_3 fun v5 l_4 =>
    tCons l_4 fun v6 l_5 =>
    tBool v6 fun v7 =>
    tNil l_5 (
      ifT (!v3) (
        s26c1 Ψ f rows (.lptr [m_Up, m_Val]) (.lptr [n_Up, n_Val]) v1 v5 true h_1) (
        ifT (!v7) (
          s26c1 Ψ f rows (.lptr [m_Up, m_Val]) (.lptr [n_Up, n_Val]) v1 v5 true h_1) (
          lenN f fun n8 =>
          lenN v1 fun n9 =>
          s26c1 Ψ f rows (.lptr [m_Up, m_Val]) (.lptr [n_Up, n_Val]) v1 v5 (n8 != n9) h_1))))

def s26_A (Ψ : AVal → Heap → Prop) : Ann :=
  .seq (.reg [⟨none, [(0, true), (1, true), (2, false)]⟩])
  (.seq (.reg [⟨none, [(0, false), (1, false), (2, false), (3, false), (4, false), (5, false), (6, false)]⟩])
  (.seq (.reg [⟨none, [(0, false), (1, false), (2, false), (3, false), (4, false), (5, false), (6, false)]⟩])
  (.seq (.cut [(2, .any), (3, .any), (4, .any), (5, .any), (9, .any), (11, .any), (39, .bool)] (fun l h => J.cons l fun x0 l => J.cons l fun x1 l => J.cons l fun x2 l => J.cons l fun x3 l => J.cons l fun x4 l => J.cons l fun x5 l => J.cons l fun v l => J.bool v fun x6 => J.nil l (s26c1 Ψ x0 x1 x2 x3 x4 x5 x6 h)) (.reg [⟨none, [(0, false), (1, false), (2, false)]⟩, ⟨some (29, false), [(3, false), (4, false)]⟩, ⟨none, [(5, false), (6, false)]⟩, ⟨some (33, false), [(7, false), (8, false), (9, false), (10, false), (11, false)]⟩, ⟨none, [(12, false)]⟩])
  (.cond (.seq (.reg [⟨none, [(0, false)]⟩])
  (.leaf))
  (.leaf)))
  (.seq (.reg [⟨none, [(0, false), (1, false), (2, false), (3, false), (4, false)]⟩])
  (.seq (.reg [⟨none, [(0, false), (1, false), (2, false), (3, false), (4, false)]⟩])
  (.seq (.seq (.reg [⟨none, [(0, false)]⟩])
  (.block (.loop [(2, .any), (3, .any), (9, .any), (11, .any), (13, .any), (14, .any), (15, .int .i64)] (fun n l h => s26l2_R (s26l2 Ψ n) l h) (fun L2 =>
  .seq (.seq (.reg [⟨none, [(0, false), (1, false), (2, false), (3, false)]⟩])
  (.cond (.leaf)
  (.leaf)))
  (.seq (.block (.seq (.reg [⟨none, [(0, false)]⟩])
  (.block (.loop [(2, .any), (3, .any), (9, .any), (11, .any), (13, .any), (14, .any), (15, .int .i64), (16, .int .i64)] (fun n l h => s26l3_R (s26l3 Ψ (fun y0 y1 y2 y3 y4 y5 y6 h => L2 [y0, y1, y2, y3, y4, y5, (.int .i64 y6)] h) n) l h) (fun L3 =>
  .seq (.seq (.reg [⟨none, [(0, false), (1, false), (2, false), (3, false)]⟩])
  (.cond (.leaf)
  (.leaf)))
  (.seq (.block (.cut [(2, .any), (3, .any), (9, .any), (11, .any), (13, .any), (14, .any), (15, .int .i64), (16, .int .i64), (93, .bool)] (fun l h => J.cons l fun x0 l => J.cons l fun x1 l => J.cons l fun x2 l => J.cons l fun x3 l => J.cons l fun x4 l => J.cons l fun x5 l => J.cons l fun v l => J.int .i64 v fun x6 => J.cons l fun v l => J.int .i64 v fun x7 => J.cons l fun v l => J.bool v fun x8 => J.nil l (s26c4 Ψ (fun y0 y1 y2 y3 y4 y5 y6 h => L2 [y0, y1, y2, y3, y4, y5, (.int .i64 y6)] h) (fun y0 y1 y2 y3 y4 y5 y6 y7 h => L3 [y0, y1, y2, y3, y4, y5, (.int .i64 y6), (.int .i64 y7)] h) x0 x1 x2 x3 x4 x5 x6 x7 x8 h)) (.draw [(0, false), (1, false), (2, false), (3, false), (4, false), (5, false), (6, false), (7, false), (8, false), (9, false), (10, false), (11, false), (12, false), (13, false), (14, false), (15, false), (16, false), (17, false), (18, false), (19, false), (20, false), (21, false), (22, false), (23, false), (24, false), (25, false), (26, false), (27, false), (28, false), (29, false), (30, false), (31, false), (32, false), (33, false)] [0, 0, 3, 7, 15, 31, 63, 63, 255, 511, 63, 1087, 4095, 8191, 16383, 32767, 32767, 131071, 262143, 32767, 1048575, 2097151, 32767, 32767, 12615679, 29392895, 32767, 32767, 201359359, 469794815, 1069580287, 2143322111, 4294967295, 8589934591])
  (.cond (.seq (.reg [⟨none, [(0, false)]⟩])
  (.leaf))
  (.leaf))))
  (.reg [⟨none, [(0, false), (1, false), (2, false)]⟩])))))))
  (.reg [⟨none, [(0, false), (1, false), (2, false)]⟩]))))))
  (.seq (.reg [⟨none, [(0, false)]⟩])
  (.leaf))))))))

theorem s26_ok {Ψ : AVal → Heap → Prop} {m_Up : AVal} {m_Val : AVal} {n_Up : AVal} {n_Val : AVal} {f : AVal} {rows : AVal} {h : Heap} (H : s26 Ψ m_Up m_Val n_Up n_Val f rows h) : ACalls prog 26 [(.agg [m_Up, m_Val]), (.agg [n_Up, n_Val]), f, rows] h Ψ :=
  calls_of_evF func26 (by kernel_rfl) (by kernel_rfl) (by kernel_rfl)
    (Eq.mpr (by as_aux_lemma => kernel_rfl : oblF prog f26 (s26_A Ψ) Ψ = (True ∧ True ∧ True ∧ ((True) ∧ (∀ (h : Heap) (x0 x1 x2 x3 x4 x5 : AVal) (x6 : Bool), OI (s26c1 Ψ x0 x1 x2 x3 x4 x5 x6 h)) ∧ ((True ∧ True) ∧ True)) ∧ True ∧ True ∧ (True ∧ (∀ (h : Heap) (x0 x1 x2 x3 x4 x5 : AVal) (x6 : Int), ON (s26l2 Ψ 0 x0 x1 x2 x3 x4 x5 x6 h)) ∧ ∀ n2 : Nat, (∀ (h : Heap) (x0 x1 x2 x3 x4 x5 : AVal) (x6 : Int), OI (s26l2 Ψ (n2 + 1) x0 x1 x2 x3 x4 x5 x6 h)) ∧ ((True ∧ True ∧ True) ∧ (True ∧ (∀ (h : Heap) (x0 x1 x2 x3 x4 x5 : AVal) (x6 x7 : Int), ON (s26l3 Ψ (s26l2_G (s26l2 Ψ n2)) 0 x0 x1 x2 x3 x4 x5 x6 x7 h)) ∧ ∀ n3 : Nat, (∀ (h : Heap) (x0 x1 x2 x3 x4 x5 : AVal) (x6 x7 : Int), OI (s26l3 Ψ (s26l2_G (s26l2 Ψ n2)) (n3 + 1) x0 x1 x2 x3 x4 x5 x6 x7 h)) ∧ ((True ∧ True ∧ True) ∧ ((True) ∧ (∀ (h : Heap) (x0 x1 x2 x3 x4 x5 : AVal) (x6 x7 : Int) (x8 : Bool), OI (s26c4 Ψ (s26l2_G (s26l2 Ψ n2)) (s26l3_G (s26l3 Ψ (s26l2_G (s26l2 Ψ n2)) n3)) x0 x1 x2 x3 x4 x5 x6 x7 x8 h)) ∧ ((True ∧ True) ∧ True)) ∧ True)) ∧ True)) ∧ True ∧ True)) ⟨trivial, ⟨trivial, ⟨trivial, ⟨⟨trivial, fun _ _ _ _ _ _ _ _ H => H, ⟨⟨trivial, trivial⟩, trivial⟩⟩, ⟨trivial, ⟨trivial, ⟨⟨trivial, ⟨fun _ _ _ _ _ _ _ _ H => H, fun _ => ⟨fun _ _ _ _ _ _ _ _ H => H, ⟨⟨trivial, ⟨trivial, trivial⟩⟩, ⟨⟨trivial, ⟨fun _ _ _ _ _ _ _ _ _ H => H, fun _ => ⟨fun _ _ _ _ _ _ _ _ _ H => H, ⟨⟨trivial, ⟨trivial, trivial⟩⟩, ⟨⟨trivial, fun _ _ _ _ _ _ _ _ _ _ H => H, ⟨⟨trivial, trivial⟩, trivial⟩⟩, trivial⟩⟩⟩⟩⟩, trivial⟩⟩⟩⟩⟩, ⟨trivial, trivial⟩⟩⟩⟩⟩⟩⟩⟩)
    (Eq.mpr (by as_aux_lemma => kernel_rfl : evF prog f26 (s26_A Ψ) Ψ [(.agg [m_Up, m_Val]), (.agg [n_Up, n_Val]), f, rows] h = s26 Ψ m_Up m_Val n_Up n_Val f rows h) H)

/- 28 dictum/morph.reckon -/
def s28l1_R (F : AVal → AVal → Int → Int → Heap → Prop) (l : List AVal) (h : Heap) : Prop := J.cons l fun x0 l => J.cons l fun x1 l => J.cons l fun v l => J.int .i64 v fun x2 => J.cons l fun v l => J.int .i64 v fun x3 => J.nil l (F x0 x1 x2 x3 h)
def s28l1_G (F : AVal → AVal → Int → Int → Heap → Prop) (x0 : AVal) (x1 : AVal) (x2 : Int) (x3 : Int) (h : Heap) : Prop := gJ [.any, .any, .int .i64, .int .i64] [x0, x1, (.int .i64 x2), (.int .i64 x3)] h (s28l1_R F)
def s28l1_E (F : Nat → AVal → AVal → Int → Int → Heap → Prop) (x0 : AVal) (x1 : AVal) (x2 : Int) (x3 : Int) (h : Heap) : Prop := gJ [.any, .any, .int .i64, .int .i64] [x0, x1, (.int .i64 x2), (.int .i64 x3)] h (fun l h => ∃ n, s28l1_R (F n) l h)
theorem s28l1_go {F : AVal → AVal → Int → Int → Heap → Prop} {x0 : AVal} {x1 : AVal} {x2 : Int} {x3 : Int} {h : Heap} (H : F x0 x1 x2 x3 h) : s28l1_G F x0 x1 x2 x3 h := gJ_plain rfl H
theorem s28l1_in {F : Nat → AVal → AVal → Int → Int → Heap → Prop} {x0 : AVal} {x1 : AVal} {x2 : Int} {x3 : Int} {h : Heap} (n : Nat) (H : F n x0 x1 x2 x3 h) : s28l1_E F x0 x1 x2 x3 h := gJ_plain rfl ⟨n, H⟩

def s28l2_R (F : AVal → AVal → Int → AVal → Int → Int → Int → Int → Heap → Prop) (l : List AVal) (h : Heap) : Prop := J.cons l fun x0 l => J.cons l fun x1 l => J.cons l fun v l => J.int .i64 v fun x2 => J.cons l fun x3 l => J.cons l fun v l => J.int .i64 v fun x4 => J.cons l fun v l => J.int .i64 v fun x5 => J.cons l fun v l => J.int .i64 v fun x6 => J.cons l fun v l => J.int .i64 v fun x7 => J.nil l (F x0 x1 x2 x3 x4 x5 x6 x7 h)
def s28l2_G (F : AVal → AVal → Int → AVal → Int → Int → Int → Int → Heap → Prop) (x0 : AVal) (x1 : AVal) (x2 : Int) (x3 : AVal) (x4 : Int) (x5 : Int) (x6 : Int) (x7 : Int) (h : Heap) : Prop := gJ [.any, .any, .int .i64, .any, .int .i64, .int .i64, .int .i64, .int .i64] [x0, x1, (.int .i64 x2), x3, (.int .i64 x4), (.int .i64 x5), (.int .i64 x6), (.int .i64 x7)] h (s28l2_R F)
def s28l2_E (F : Nat → AVal → AVal → Int → AVal → Int → Int → Int → Int → Heap → Prop) (x0 : AVal) (x1 : AVal) (x2 : Int) (x3 : AVal) (x4 : Int) (x5 : Int) (x6 : Int) (x7 : Int) (h : Heap) : Prop := gJ [.any, .any, .int .i64, .any, .int .i64, .int .i64, .int .i64, .int .i64] [x0, x1, (.int .i64 x2), x3, (.int .i64 x4), (.int .i64 x5), (.int .i64 x6), (.int .i64 x7)] h (fun l h => ∃ n, s28l2_R (F n) l h)
theorem s28l2_go {F : AVal → AVal → Int → AVal → Int → Int → Int → Int → Heap → Prop} {x0 : AVal} {x1 : AVal} {x2 : Int} {x3 : AVal} {x4 : Int} {x5 : Int} {x6 : Int} {x7 : Int} {h : Heap} (H : F x0 x1 x2 x3 x4 x5 x6 x7 h) : s28l2_G F x0 x1 x2 x3 x4 x5 x6 x7 h := gJ_plain rfl H
theorem s28l2_in {F : Nat → AVal → AVal → Int → AVal → Int → Int → Int → Int → Heap → Prop} {x0 : AVal} {x1 : AVal} {x2 : Int} {x3 : AVal} {x4 : Int} {x5 : Int} {x6 : Int} {x7 : Int} {h : Heap} (n : Nat) (H : F n x0 x1 x2 x3 x4 x5 x6 x7 h) : s28l2_E F x0 x1 x2 x3 x4 x5 x6 x7 h := gJ_plain rfl ⟨n, H⟩

def s28c3 (Ψ : AVal → Heap → Prop) (L1 : AVal → AVal → Int → Int → Heap → Prop) (L2 : AVal → AVal → Int → AVal → Int → Int → Int → Int → Heap → Prop) (m2 : AVal) (o2 : AVal) (w1 : Int) (in_1 : AVal) (t20_2 : Int) (t21_2 : Int) (t30_1 : Int) (t31_1 : Int) (h : Heap) : Prop :=
  rg (t31_1 + 1) (
    L2 m2 o2 w1 in_1 t20_2 t21_2 t30_1 (t31_1 + 1) h)

def s28l2 (Ψ : AVal → Heap → Prop) (L1 : AVal → AVal → Int → Int → Heap → Prop) : Nat → AVal → AVal → Int → AVal → Int → Int → Int → Int → Heap → Prop
  | 0, _, _, _, _, _, _, _, _, _ => False
  | n4 + 1, m1, o1, w, in_, t20_1, t21_1, t30, t31, h =>
    ifT (decide (t31 < t30)) (
      ld1 h in_ fun v5 =>
      mapGet (.int .i64 0) h v5 (.int .i64 t31) fun v6 b =>
      tInt .i64 v6 fun v7 =>
      ifT (decide (0 < v7)) (
        ixS 1 o1 w fun p =>
        ld1 h p fun v8 =>
        appC 1 8 h v8 (.lsl 1 [(.int .i64 t31)]) fun v9 h_8 =>
        ixS 1 o1 w fun p1 =>
        chk (sc v9) (
          st true h_8 p1 [v9] fun h_9 =>
          s28c3 Ψ L1 (s28l2_G (s28l2 Ψ L1 n4)) m1 o1 w in_ t20_1 t21_1 t30 t31 h_9)) (
        s28c3 Ψ L1 (s28l2_G (s28l2 Ψ L1 n4)) m1 o1 w in_ t20_1 t21_1 t30 t31 h)) (
      rg (t21_1 + 1) (
        L1 m1 o1 t20_1 (t21_1 + 1) h))

def s28l1 (Ψ : AVal → Heap → Prop) : Nat → AVal → AVal → Int → Int → Heap → Prop
  | 0, _, _, _, _, _ => False
  | n2 + 1, m, o, t20, t21, h =>
    ifT (decide (t21 < t20)) (
      newMap h fun r h_2 =>
      Sym.newRow 1 [.nilmap] h_2 fun r1 h_3 =>
      st true h_3 (.ptr r1 0 0) [(.mapr r)] fun h_4 =>
      Sym.newRow 1 [.nilfunc] h_4 fun r2 h_5 =>
      st true h_5 (.ptr r2 0 0) [(.func (.func 57) [] [(.ptr r1 0 0), m, (.ptr r2 0 0)])] fun h_6 =>
      ld1 h_6 (.ptr r2 0 0) fun v3 =>
      callV prog v3 [(.int .i64 t21)] h_6 fun v4 h_7 =>
      lenN o fun n3 =>
      s28l2_E (s28l2 Ψ (s28l1_G (s28l1 Ψ n2))) m o t21 (.ptr r1 0 0) t20 t21 n3 0 h_7) (
      retG (.tuple [o, (.int .i64 0)]) h Ψ)

def s28 (Ψ : AVal → Heap → Prop) (m_Up : AVal) (m_Val : AVal) (h : Heap) : Prop :=
  callG prog 41 [(.agg [m_Up, m_Val])] h fun v h_ =>
  tInt .i64 v fun v1 =>
  ifT (v1 != 0) (
    retG (.tuple [.nilsl, (.int .i64 v1)]) h_ Ψ) (
    lenN m_Up fun n =>
    mkS false 1 24 .nilsl h_ n n fun v2 h_1 =>
    lenN v2 fun n1 =>
    s28l1_E (s28l1 Ψ) (.lptr [m_Up, m_Val]) v2 n1 0 h_1)

def s28_A (Ψ : AVal → Heap → Prop) : Ann :=
  .seq (.reg [⟨none, [(0, true), (1, false), (2, false)]⟩])
  (.seq (.seq (.reg [⟨none, [(0, false), (1, false), (2, false)]⟩])
  (.seq (.reg [⟨none, [(0, false), (1, false)]⟩])
  (.cond (.seq (.reg [⟨none, [(0, false), (1, false), (2, false)]⟩])
  (.leaf))
  (.leaf))))
  (.seq (.reg [⟨none, [(0, false), (1, false), (2, false), (3, false), (4, false)]⟩])
  (.seq (.seq (.reg [⟨none, [(0, false), (1, false), (2, false)]⟩])
  (.block (.loop [(1, .any), (5, .any), (20, .int .i64), (21, .int .i64)] (fun n l h => s28l1_R (s28l1 Ψ n) l h) (fun L1 =>
  .seq (.reg [⟨none, [(0, false)]⟩])
  (.seq (.cond (.leaf)
  (.leaf))
  (.seq (.block (.seq (.reg [⟨none, [(0, false), (1, false)]⟩])
  (.seq (.reg [⟨none, [(0, false), (1, false), (2, false)]⟩])
  (.seq (.reg [⟨none, [(0, false)]⟩])
  (.seq (.reg [⟨none, [(0, false), (1, false)]⟩])
  (.seq (.reg [⟨none, [(0, false), (1, false), (2, false)]⟩])
  (.seq (.reg [⟨none, [(0, false), (1, false), (2, false)]⟩])
  (.block (.loop [(1, .any), (5, .any), (6, .int .i64), (7, .any), (20, .int .i64), (21, .int .i64), (30, .int .i64), (31, .int .i64)] (fun n l h => s28l2_R (s28l2 Ψ (fun y0 y1 y2 y3 h => L1 [y0, y1, (.int .i64 y2), (.int .i64 y3)] h) n) l h) (fun L2 =>
  .seq (.reg [⟨none, [(0, false)]⟩])
  (.seq (.cond (.leaf)
  (.leaf))
  (.cut [(1, .any), (5, .any), (6, .int .i64), (7, .any), (20, .int .i64), (21, .int .i64), (30, .int .i64), (31, .int .i64)] (fun l h => J.cons l fun x0 l => J.cons l fun x1 l => J.cons l fun v l => J.int .i64 v fun x2 => J.cons l fun x3 l => J.cons l fun v l => J.int .i64 v fun x4 => J.cons l fun v l => J.int .i64 v fun x5 => J.cons l fun v l => J.int .i64 v fun x6 => J.cons l fun v l => J.int .i64 v fun x7 => J.nil l (s28c3 Ψ (fun y0 y1 y2 y3 h => L1 [y0, y1, (.int .i64 y2), (.int .i64 y3)] h) (fun y0 y1 y2 y3 y4 y5 y6 y7 h => L2 [y0, y1, (.int .i64 y2), y3, (.int .i64 y4), (.int .i64 y5), (.int .i64 y6), (.int .i64 y7)] h) x0 x1 x2 x3 x4 x5 x6 x7 h)) (.block (.seq (.reg [⟨none, [(0, false), (1, false)]⟩])
  (.seq (.reg [⟨none, [(0, false), (1, false), (2, false), (3, false)]⟩])
  (.cond (.reg [⟨none, [(0, false), (1, false), (2, false), (3, false), (4, false), (5, false), (6, false), (7, true), (8, false), (9, false), (10, false)]⟩])
  (.leaf)))))
  (.reg [⟨none, [(0, false), (1, false)]⟩])))))))))))))
  (.reg [⟨none, [(0, false), (1, false)]⟩])))))))
  (.seq (.reg [⟨none, [(0, false), (1, false), (2, false)]⟩])
  (.leaf)))))

theorem s28_ok {Ψ : AVal → Heap → Prop} {m_Up : AVal} {m_Val : AVal} {h : Heap} (H : s28 Ψ m_Up m_Val h) : ACalls prog 28 [(.agg [m_Up, m_Val])] h Ψ :=
  calls_of_evF func28 (by kernel_rfl) (by kernel_rfl) (by kernel_rfl)
    (Eq.mpr (by as_aux_lemma => kernel_rfl : oblF prog f28 (s28_A Ψ) Ψ = (True ∧ (True ∧ True ∧ (True ∧ True) ∧ True) ∧ True ∧ (True ∧ (∀ (h : Heap) (x0 x1 : AVal) (x2 x3 : Int), ON (s28l1 Ψ 0 x0 x1 x2 x3 h)) ∧ ∀ n1 : Nat, (∀ (h : Heap) (x0 x1 : AVal) (x2 x3 : Int), OI (s28l1 Ψ (n1 + 1) x0 x1 x2 x3 h)) ∧ (True ∧ (True ∧ True) ∧ (True ∧ True ∧ True ∧ True ∧ True ∧ True ∧ (∀ (h : Heap) (x0 x1 : AVal) (x2 : Int) (x3 : AVal) (x4 x5 x6 x7 : Int), ON (s28l2 Ψ (s28l1_G (s28l1 Ψ n1)) 0 x0 x1 x2 x3 x4 x5 x6 x7 h)) ∧ ∀ n2 : Nat, (∀ (h : Heap) (x0 x1 : AVal) (x2 : Int) (x3 : AVal) (x4 x5 x6 x7 : Int), OI (s28l2 Ψ (s28l1_G (s28l1 Ψ n1)) (n2 + 1) x0 x1 x2 x3 x4 x5 x6 x7 h)) ∧ (True ∧ (True ∧ True) ∧ (True ∧ True ∧ True ∧ True) ∧ (∀ (h : Heap) (x0 x1 : AVal) (x2 : Int) (x3 : AVal) (x4 x5 x6 x7 : Int), OI (s28c3 Ψ (s28l1_G (s28l1 Ψ n1)) (s28l2_G (s28l2 Ψ (s28l1_G (s28l1 Ψ n1)) n2)) x0 x1 x2 x3 x4 x5 x6 x7 h)) ∧ (True))) ∧ True)) ∧ True ∧ True)) ⟨trivial, ⟨⟨trivial, ⟨trivial, ⟨⟨trivial, trivial⟩, trivial⟩⟩⟩, ⟨trivial, ⟨⟨trivial, ⟨fun _ _ _ _ _ H => H, fun _ => ⟨fun _ _ _ _ _ H => H, ⟨trivial, ⟨⟨trivial, trivial⟩, ⟨⟨trivial, ⟨trivial, ⟨trivial, ⟨trivial, ⟨trivial, ⟨trivial, ⟨fun _ _ _ _ _ _ _ _ _ H => H, fun _ => ⟨fun _ _ _ _ _ _ _ _ _ H => H, ⟨trivial, ⟨⟨trivial, trivial⟩, ⟨⟨trivial, ⟨trivial, ⟨trivial, trivial⟩⟩⟩, fun _ _ _ _ _ _ _ _ _ H => H, trivial⟩⟩⟩⟩⟩⟩⟩⟩⟩⟩⟩, trivial⟩⟩⟩⟩⟩⟩, ⟨trivial, trivial⟩⟩⟩⟩⟩)
    (Eq.mpr (by as_aux_lemma => kernel_rfl : evF prog f28 (s28_A Ψ) Ψ [(.agg [m_Up, m_Val])] h = s28 Ψ m_Up m_Val h) H)

/- 31 dictum/dictumref17.Right -/
def s31l2_R (F : AVal → Int → AVal → Int → Heap → Prop) (l : List AVal) (h : Heap) : Prop := J.cons l fun x0 l => J.cons l fun v l => J.int .i64 v fun x1 => J.cons l fun x2 l => J.cons l fun v l => J.int .i64 v fun x3 => J.nil l (F x0 x1 x2 x3 h)
def s31l2_G (F : AVal → Int → AVal → Int → Heap → Prop) (x0 : AVal) (x1 : Int) (x2 : AVal) (x3 : Int) (h : Heap) : Prop := gJ [.any, .int .i64, .any, .int .i64] [x0, (.int .i64 x1), x2, (.int .i64 x3)] h (s31l2_R F)
def s31l2_E (F : Nat → AVal → Int → AVal → Int → Heap → Prop) (x0 : AVal) (x1 : Int) (x2 : AVal) (x3 : Int) (h : Heap) : Prop := gJ [.any, .int .i64, .any, .int .i64] [x0, (.int .i64 x1), x2, (.int .i64 x3)] h (fun l h => ∃ n, s31l2_R (F n) l h)
theorem s31l2_go {F : AVal → Int → AVal → Int → Heap → Prop} {x0 : AVal} {x1 : Int} {x2 : AVal} {x3 : Int} {h : Heap} (H : F x0 x1 x2 x3 h) : s31l2_G F x0 x1 x2 x3 h := gJ_plain rfl H
theorem s31l2_in {F : Nat → AVal → Int → AVal → Int → Heap → Prop} {x0 : AVal} {x1 : Int} {x2 : AVal} {x3 : Int} {h : Heap} (n : Nat) (H : F n x0 x1 x2 x3 h) : s31l2_E F x0 x1 x2 x3 h := gJ_plain rfl ⟨n, H⟩

def s31l3_R (F : AVal → Int → AVal → Int → Heap → Prop) (l : List AVal) (h : Heap) : Prop := J.cons l fun x0 l => J.cons l fun v l => J.int .i64 v fun x1 => J.cons l fun x2 l => J.cons l fun v l => J.int .i64 v fun x3 => J.nil l (F x0 x1 x2 x3 h)
def s31l3_G (F : AVal → Int → AVal → Int → Heap → Prop) (x0 : AVal) (x1 : Int) (x2 : AVal) (x3 : Int) (h : Heap) : Prop := gJ [.any, .int .i64, .any, .int .i64] [x0, (.int .i64 x1), x2, (.int .i64 x3)] h (s31l3_R F)
def s31l3_E (F : Nat → AVal → Int → AVal → Int → Heap → Prop) (x0 : AVal) (x1 : Int) (x2 : AVal) (x3 : Int) (h : Heap) : Prop := gJ [.any, .int .i64, .any, .int .i64] [x0, (.int .i64 x1), x2, (.int .i64 x3)] h (fun l h => ∃ n, s31l3_R (F n) l h)
theorem s31l3_go {F : AVal → Int → AVal → Int → Heap → Prop} {x0 : AVal} {x1 : Int} {x2 : AVal} {x3 : Int} {h : Heap} (H : F x0 x1 x2 x3 h) : s31l3_G F x0 x1 x2 x3 h := gJ_plain rfl H
theorem s31l3_in {F : Nat → AVal → Int → AVal → Int → Heap → Prop} {x0 : AVal} {x1 : Int} {x2 : AVal} {x3 : Int} {h : Heap} (n : Nat) (H : F n x0 x1 x2 x3 h) : s31l3_E F x0 x1 x2 x3 h := gJ_plain rfl ⟨n, H⟩

def s31l4_R (F : AVal → Int → AVal → Int → Int → Heap → Prop) (l : List AVal) (h : Heap) : Prop := J.cons l fun x0 l => J.cons l fun v l => J.int .i64 v fun x1 => J.cons l fun x2 l => J.cons l fun v l => J.int .i64 v fun x3 => J.cons l fun v l => J.int .i64 v fun x4 => J.nil l (F x0 x1 x2 x3 x4 h)
def s31l4_G (F : AVal → Int → AVal → Int → Int → Heap → Prop) (x0 : AVal) (x1 : Int) (x2 : AVal) (x3 : Int) (x4 : Int) (h : Heap) : Prop := gJ [.any, .int .i64, .any, .int .i64, .int .i64] [x0, (.int .i64 x1), x2, (.int .i64 x3), (.int .i64 x4)] h (s31l4_R F)
def s31l4_E (F : Nat → AVal → Int → AVal → Int → Int → Heap → Prop) (x0 : AVal) (x1 : Int) (x2 : AVal) (x3 : Int) (x4 : Int) (h : Heap) : Prop := gJ [.any, .int .i64, .any, .int .i64, .int .i64] [x0, (.int .i64 x1), x2, (.int .i64 x3), (.int .i64 x4)] h (fun l h => ∃ n, s31l4_R (F n) l h)
theorem s31l4_go {F : AVal → Int → AVal → Int → Int → Heap → Prop} {x0 : AVal} {x1 : Int} {x2 : AVal} {x3 : Int} {x4 : Int} {h : Heap} (H : F x0 x1 x2 x3 x4 h) : s31l4_G F x0 x1 x2 x3 x4 h := gJ_plain rfl H
theorem s31l4_in {F : Nat → AVal → Int → AVal → Int → Int → Heap → Prop} {x0 : AVal} {x1 : Int} {x2 : AVal} {x3 : Int} {x4 : Int} {h : Heap} (n : Nat) (H : F n x0 x1 x2 x3 x4 h) : s31l4_E F x0 x1 x2 x3 x4 h := gJ_plain rfl ⟨n, H⟩

def s31c5 (Ψ : AVal → Heap → Prop) (L3 : AVal → Int → AVal → Int → Heap → Prop) (L4 : AVal → Int → AVal → Int → Int → Heap → Prop) (m4 : AVal) (n8 : Int) (o3 : AVal) (a3 : Int) (b1 : Int) (h : Heap) : Prop :=
  rg (b1 + 1) (
    L4 m4 n8 o3 a3 (b1 + 1) h)

def s31l7_R (F : AVal → Int → AVal → Int → Int → Int → Heap → Prop) (l : List AVal) (h : Heap) : Prop := J.cons l fun x0 l => J.cons l fun v l => J.int .i64 v fun x1 => J.cons l fun x2 l => J.cons l fun v l => J.int .i64 v fun x3 => J.cons l fun v l => J.int .i64 v fun x4 => J.cons l fun v l => J.int .i64 v fun x5 => J.nil l (F x0 x1 x2 x3 x4 x5 h)
def s31l7_G (F : AVal → Int → AVal → Int → Int → Int → Heap → Prop) (x0 : AVal) (x1 : Int) (x2 : AVal) (x3 : Int) (x4 : Int) (x5 : Int) (h : Heap) : Prop := gJ [.any, .int .i64, .any, .int .i64, .int .i64, .int .i64] [x0, (.int .i64 x1), x2, (.int .i64 x3), (.int .i64 x4), (.int .i64 x5)] h (s31l7_R F)
def s31l7_E (F : Nat → AVal → Int → AVal → Int → Int → Int → Heap → Prop) (x0 : AVal) (x1 : Int) (x2 : AVal) (x3 : Int) (x4 : Int) (x5 : Int) (h : Heap) : Prop := gJ [.any, .int .i64, .any, .int .i64, .int .i64, .int .i64] [x0, (.int .i64 x1), x2, (.int .i64 x3), (.int .i64 x4), (.int .i64 x5)] h (fun l h => ∃ n, s31l7_R (F n) l h)
theorem s31l7_go {F : AVal → Int → AVal → Int → Int → Int → Heap → Prop} {x0 : AVal} {x1 : Int} {x2 : AVal} {x3 : Int} {x4 : Int} {x5 : Int} {h : Heap} (H : F x0 x1 x2 x3 x4 x5 h) : s31l7_G F x0 x1 x2 x3 x4 x5 h := gJ_plain rfl H
theorem s31l7_in {F : Nat → AVal → Int → AVal → Int → Int → Int → Heap → Prop} {x0 : AVal} {x1 : Int} {x2 : AVal} {x3 : Int} {x4 : Int} {x5 : Int} {h : Heap} (n : Nat) (H : F n x0 x1 x2 x3 x4 x5 h) : s31l7_E F x0 x1 x2 x3 x4 x5 h := gJ_plain rfl ⟨n, H⟩

def s31l7 (Ψ : AVal → Heap → Prop) (L3 : AVal → Int → AVal → Int → Heap → Prop) (L4 : AVal → Int → AVal → Int → Int → Heap → Prop) : Nat → AVal → Int → AVal → Int → Int → Int → Heap → Prop
  | 0, _, _, _, _, _, _, _ => False
  | n11 + 1, m6, n10, o5, a5, b3, k, h =>
    addOff m6 1 fun p4 =>
    ld1 h p4 fun v13 =>
    ixS 1 v13 a5 fun p5 =>
    ld1 h p5 fun v14 =>
    lenN v14 fun n12 =>
    ifT (decide (k < n12)) (
      addOff m6 1 fun p6 =>
      ld1 h p6 fun v15 =>
      ixS 1 v15 b3 fun p7 =>
      ld1 h p7 fun v16 =>
      addOff m6 1 fun p8 =>
      ld1 h p8 fun v17 =>
      ixS 1 v17 a5 fun p9 =>
      ld1 h p9 fun v18 =>
      ixS 1 v18 k fun p10 =>
      ld1 h p10 fun v19 =>
      tStr v19 fun v20 =>
      callG prog 61 [v16, (.str v20)] h fun v21 h_2 =>
      tBool v21 fun v22 =>
      ifT (!v22) (
        retG (.tuple [.nilsl, (.bool false)]) h_2 Ψ) (
        rg (k + 1) (
          s31l7_G (s31l7 Ψ L3 L4 n11) m6 n10 o5 a5 b3 (k + 1) h_2))) (
      s31c5 Ψ L3 L4 m6 n10 o5 a5 b3 h)

def s31c6 (Ψ : AVal → Heap → Prop) (L3 : AVal → Int → AVal → Int → Heap → Prop) (L4 : AVal → Int → AVal → Int → Int → Heap → Prop) (m5 : AVal) (n9 : Int) (o4 : AVal) (a4 : Int) (b2 : Int) (t68 : Bool) (h : Heap) : Prop :=
  ifT t68 (
    s31c5 Ψ L3 L4 m5 n9 o4 a4 b2 h) (
    ixS 1 o4 b2 fun p2 =>
    ld1 h p2 fun v10 =>
    ixS 1 v10 a4 fun p3 =>
    ld1 h p3 fun v11 =>
    tBool v11 fun v12 =>
    ifT v12 (
      retG (.tuple [.nilsl, (.bool false)]) h Ψ) (
      s31l7_E (s31l7 Ψ L3 L4) m5 n9 o4 a4 b2 0 h))

def s31l4 (Ψ : AVal → Heap → Prop) (L3 : AVal → Int → AVal → Int → Heap → Prop) : Nat → AVal → Int → AVal → Int → Int → Heap → Prop
  | 0, _, _, _, _, _, _ => False
  | n7 + 1, m3, n6, o2, a2, b, h =>
    ifT (decide (b < n6)) (
      ixS 1 o2 a2 fun p11 =>
      ld1 h p11 fun v23 =>
      ixS 1 v23 b fun p12 =>
      ld1 h p12 fun v24 =>
      tBool v24 fun v25 =>
      ifT (!v25) (
        s31c6 Ψ L3 (s31l4_G (s31l4 Ψ L3 n7)) m3 n6 o2 a2 b true h) (
        s31c6 Ψ L3 (s31l4_G (s31l4 Ψ L3 n7)) m3 n6 o2 a2 b (a2 == b) h)) (
      rg (a2 + 1) (
        L3 m3 n6 o2 (a2 + 1) h))

def s31l3 (Ψ : AVal → Heap → Prop) : Nat → AVal → Int → AVal → Int → Heap → Prop
  | 0, _, _, _, _, _ => False
  | n5 + 1, m2, n4, o1, a1, h =>
    ifT (decide (a1 < n4)) (
      s31l4_E (s31l4 Ψ (s31l3_G (s31l3 Ψ n5))) m2 n4 o1 a1 0 h) (
      retG (.tuple [o1, (.bool true)]) h Ψ)

def s31l2 (Ψ : AVal → Heap → Prop) : Nat → AVal → Int → AVal → Int → Heap → Prop
  | 0, _, _, _, _, _ => False
  | n3 + 1, m1, n2, o, a, h =>
    ifT (decide (a < n2)) (
      addOff m1 1 fun p =>
      ld1 h p fun v6 =>
      ixS 1 v6 a fun p1 =>
      ld1 h p1 fun v7 =>
      callG prog 60 [v7] h fun v8 h_1 =>
      tBool v8 fun v9 =>
      ifT (!v9) (
        retG (.tuple [.nilsl, (.bool false)]) h_1 Ψ) (
        rg (a + 1) (
          s31l2_G (s31l2 Ψ n3) m1 n2 o (a + 1) h_1))) (
      s31l3_E (s31l3 Ψ) m1 n2 o 0 h)

def s31c1 (Ψ : AVal → Heap → Prop) (m : AVal) (n1 : Int) (t26 : Bool) (h : Heap) : Prop :=
  ifT t26 (
    retG (.tuple [.nilsl, (.bool false)]) h Ψ) (
    ldN 2 h m fun l_ =>
    tCons l_ fun v l_1 =>
    tCons l_1 fun v1 l_2 =>
    tNil l_2 (
      callG prog 59 [(.agg [v, v1])] h fun v2 h_ =>
      tTup v2 fun l_3 =>
      tCons l_3 fun v3 l_4 =>
      tCons l_4 fun v4 l_5 =>
      tBool v4 fun v5 =>
      tNil l_5 (
        ifT (!v5) (
          retG (.tuple [.nilsl, (.bool false)]) h_ Ψ) (
          s31l2_E (s31l2 Ψ) m n1 v3 0 h_))))

def s31 (Ψ : AVal → Heap → Prop) (m_Up : AVal) (m_Val : AVal) (h : Heap) : Prop :=
  lenN m_Up fun n =>
  ifT (decide (n < 1)) (
    s31c1 Ψ (.lptr [m_Up, m_Val]) n true h) (
    ifT (decide (512 < n)) (
      s31c1 Ψ (.lptr [m_Up, m_Val]) n true h) (
      lenN m_Val fun n17 =>
      s31c1 Ψ (.lptr [m_Up, m_Val]) n (n17 != n) h))

def s31_A (Ψ : AVal → Heap → Prop) : Ann :=
  .seq (.reg [⟨none, [(0, true), (1, false), (2, false)]⟩])
  (.seq (.reg [⟨none, [(0, false), (1, false), (2, false), (3, false)]⟩])
  (.seq (.cut [(1, .any), (4, .int .i64), (26, .bool)] (fun l h => J.cons l fun x0 l => J.cons l fun v l => J.int .i64 v fun x1 => J.cons l fun v l => J.bool v fun x2 => J.nil l (s31c1 Ψ x0 x1 x2 h)) (.reg [⟨none, [(0, false), (1, false), (2, false)]⟩, ⟨some (16, false), [(3, false), (4, false)]⟩, ⟨none, [(5, false), (6, false)]⟩, ⟨some (20, false), [(7, false), (8, false), (9, false), (10, false), (11, false)]⟩, ⟨none, [(12, false)]⟩])
  (.cond (.seq (.reg [⟨none, [(0, false), (1, false)]⟩])
  (.leaf))
  (.leaf)))
  (.seq (.reg [⟨none, [(0, false), (1, false), (2, false), (3, false), (4, false), (5, false), (6, false)]⟩])
  (.seq (.seq (.reg [⟨none, [(0, false), (1, false)]⟩])
  (.cond (.seq (.reg [⟨none, [(0, false), (1, false)]⟩])
  (.leaf))
  (.leaf)))
  (.seq (.seq (.reg [⟨none, [(0, false)]⟩])
  (.block (.loop [(1, .any), (4, .int .i64), (5, .any), (7, .int .i64)] (fun n l h => s31l2_R (s31l2 Ψ n) l h) (fun L2 =>
  .seq (.seq (.reg [⟨none, [(0, false), (1, false), (2, false)]⟩])
  (.cond (.leaf)
  (.leaf)))
  (.seq (.block (.seq (.reg [⟨none, [(0, false), (1, false), (2, false), (3, false), (4, false), (5, false), (6, false)]⟩])
  (.cond (.seq (.reg [⟨none, [(0, false), (1, false)]⟩])
  (.leaf))
  (.leaf))))
  (.reg [⟨none, [(0, false), (1, false), (2, false)]⟩]))))))
  (.seq (.seq (.reg [⟨none, [(0, false)]⟩])
  (.block (.loop [(1, .any), (4, .int .i64), (5, .any), (8, .int .i64)] (fun n l h => s31l3_R (s31l3 Ψ n) l h) (fun L3 =>
  .seq (.seq (.reg [⟨none, [(0, false), (1, false), (2, false)]⟩])
  (.cond (.leaf)
  (.leaf)))
  (.seq (.block (.seq (.reg [⟨none, [(0, false)]⟩])
  (.block (.loop [(1, .any), (4, .int .i64), (5, .any), (8, .int .i64), (9, .int .i64)] (fun n l h => s31l4_R (s31l4 Ψ (fun y0 y1 y2 y3 h => L3 [y0, (.int .i64 y1), y2, (.int .i64 y3)] h) n) l h) (fun L4 =>
  .seq (.seq (.reg [⟨none, [(0, false), (1, false), (2, false)]⟩])
  (.cond (.leaf)
  (.leaf)))
  (.cut [(1, .any), (4, .int .i64), (5, .any), (8, .int .i64), (9, .int .i64)] (fun l h => J.cons l fun x0 l => J.cons l fun v l => J.int .i64 v fun x1 => J.cons l fun x2 l => J.cons l fun v l => J.int .i64 v fun x3 => J.cons l fun v l => J.int .i64 v fun x4 => J.nil l (s31c5 Ψ (fun y0 y1 y2 y3 h => L3 [y0, (.int .i64 y1), y2, (.int .i64 y3)] h) (fun y0 y1 y2 y3 y4 h => L4 [y0, (.int .i64 y1), y2, (.int .i64 y3), (.int .i64 y4)] h) x0 x1 x2 x3 x4 h)) (.block (.seq (.cut [(1, .any), (4, .int .i64), (5, .any), (8, .int .i64), (9, .int .i64), (68, .bool)] (fun l h => J.cons l fun x0 l => J.cons l fun v l => J.int .i64 v fun x1 => J.cons l fun x2 l => J.cons l fun v l => J.int .i64 v fun x3 => J.cons l fun v l => J.int .i64 v fun x4 => J.cons l fun v l => J.bool v fun x5 => J.nil l (s31c6 Ψ (fun y0 y1 y2 y3 h => L3 [y0, (.int .i64 y1), y2, (.int .i64 y3)] h) (fun y0 y1 y2 y3 y4 h => L4 [y0, (.int .i64 y1), y2, (.int .i64 y3), (.int .i64 y4)] h) x0 x1 x2 x3 x4 x5 h)) (.reg [⟨none, [(0, false), (1, false), (2, false), (3, false), (4, false), (5, false), (6, false), (7, false), (8, false)]⟩, ⟨some (64, false), [(9, false), (10, false), (11, false)]⟩, ⟨none, [(12, false)]⟩])
  (.cond (.leaf)
  (.leaf)))
  (.seq (.seq (.reg [⟨none, [(0, false), (1, false), (2, false), (3, false), (4, false), (5, false), (6, false)]⟩])
  (.cond (.seq (.reg [⟨none, [(0, false), (1, false)]⟩])
  (.leaf))
  (.leaf)))
  (.seq (.reg [⟨none, [(0, false)]⟩])
  (.block (.loop [(1, .any), (4, .int .i64), (5, .any), (8, .int .i64), (9, .int .i64), (10, .int .i64)] (fun n l h => s31l7_R (s31l7 Ψ (fun y0 y1 y2 y3 h => L3 [y0, (.int .i64 y1), y2, (.int .i64 y3)] h) (fun y0 y1 y2 y3 y4 h => L4 [y0, (.int .i64 y1), y2, (.int .i64 y3), (.int .i64 y4)] h) n) l h) (fun L7 =>
  .seq (.seq (.reg [⟨none, [(0, false), (1, false), (2, false), (3, false), (4, false), (5, false), (6, false), (7, false)]⟩])
  (.cond (.leaf)
  (.leaf)))
  (.seq (.block (.seq (.draw [(0, false), (1, false), (2, false), (3, false), (4, false), (5, false), (6, false), (7, false), (8, false), (9, false), (10, false), (11, false), (12, false), (13, false), (14, false)] [0, 1, 0, 7, 15, 0, 32, 0, 224, 480, 0, 2016, 4064, 8191, 16383])
  (.cond (.seq (.reg [⟨none, [(0, false), (1, false)]⟩])
  (.leaf))
  (.leaf))))
  (.reg [⟨none, [(0, false), (1, false), (2, false)]⟩])))))))))
  (.reg [⟨none, [(0, false), (1, false), (2, false)]⟩])))))))
  (.reg [⟨none, [(0, false), (1, false), (2, false)]⟩]))))))
  (.seq (.reg [⟨none, [(0, false), (1, false), (2, false)]⟩])
  (.leaf))))))))

theorem s31_ok {Ψ : AVal → Heap → Prop} {m_Up : AVal} {m_Val : AVal} {h : Heap} (H : s31 Ψ m_Up m_Val h) : ACalls prog 31 [(.agg [m_Up, m_Val])] h Ψ :=
  calls_of_evF func31 (by kernel_rfl) (by kernel_rfl) (by kernel_rfl)
    (Eq.mpr (by as_aux_lemma => kernel_rfl : oblF prog f31 (s31_A Ψ) Ψ = (True ∧ True ∧ ((True) ∧ (∀ (h : Heap) (x0 : AVal) (x1 : Int) (x2 : Bool), OI (s31c1 Ψ x0 x1 x2 h)) ∧ ((True ∧ True) ∧ True)) ∧ True ∧ (True ∧ (True ∧ True) ∧ True) ∧ (True ∧ (∀ (h : Heap) (x0 : AVal) (x1 : Int) (x2 : AVal) (x3 : Int), ON (s31l2 Ψ 0 x0 x1 x2 x3 h)) ∧ ∀ n2 : Nat, (∀ (h : Heap) (x0 : AVal) (x1 : Int) (x2 : AVal) (x3 : Int), OI (s31l2 Ψ (n2 + 1) x0 x1 x2 x3 h)) ∧ ((True ∧ True ∧ True) ∧ (True ∧ (True ∧ True) ∧ True) ∧ True)) ∧ (True ∧ (∀ (h : Heap) (x0 : AVal) (x1 : Int) (x2 : AVal) (x3 : Int), ON (s31l3 Ψ 0 x0 x1 x2 x3 h)) ∧ ∀ n3 : Nat, (∀ (h : Heap) (x0 : AVal) (x1 : Int) (x2 : AVal) (x3 : Int), OI (s31l3 Ψ (n3 + 1) x0 x1 x2 x3 h)) ∧ ((True ∧ True ∧ True) ∧ (True ∧ (∀ (h : Heap) (x0 : AVal) (x1 : Int) (x2 : AVal) (x3 x4 : Int), ON (s31l4 Ψ (s31l3_G (s31l3 Ψ n3)) 0 x0 x1 x2 x3 x4 h)) ∧ ∀ n4 : Nat, (∀ (h : Heap) (x0 : AVal) (x1 : Int) (x2 : AVal) (x3 x4 : Int), OI (s31l4 Ψ (s31l3_G (s31l3 Ψ n3)) (n4 + 1) x0 x1 x2 x3 x4 h)) ∧ ((True ∧ True ∧ True) ∧ (((True) ∧ (∀ (h : Heap) (x0 : AVal) (x1 : Int) (x2 : AVal) (x3 x4 : Int) (x5 : Bool), OI (s31c6 Ψ (s31l3_G (s31l3 Ψ n3)) (s31l4_G (s31l4 Ψ (s31l3_G (s31l3 Ψ n3)) n4)) x0 x1 x2 x3 x4 x5 h)) ∧ (True ∧ True)) ∧ (True ∧ (True ∧ True) ∧ True) ∧ True ∧ (∀ (h : Heap) (x0 : AVal) (x1 : Int) (x2 : AVal) (x3 x4 x5 : Int), ON (s31l7 Ψ (s31l3_G (s31l3 Ψ n3)) (s31l4_G (s31l4 Ψ (s31l3_G (s31l3 Ψ n3)) n4)) 0 x0 x1 x2 x3 x4 x5 h)) ∧ ∀ n7 : Nat, (∀ (h : Heap) (x0 : AVal) (x1 : Int) (x2 : AVal) (x3 x4 x5 : Int), OI (s31l7 Ψ (s31l3_G (s31l3 Ψ n3)) (s31l4_G (s31l4 Ψ (s31l3_G (s31l3 Ψ n3)) n4)) (n7 + 1) x0 x1 x2 x3 x4 x5 h)) ∧ ((True ∧ True ∧ True) ∧ (True ∧ (True ∧ True) ∧ True) ∧ True)) ∧ (∀ (h : Heap) (x0 : AVal) (x1 : Int) (x2 : AVal) (x3 x4 : Int), OI (s31c5 Ψ (s31l3_G (s31l3 Ψ n3)) (s31l4_G (s31l4 Ψ (s31l3_G (s31l3 Ψ n3)) n4)) x0 x1 x2 x3 x4 h)) ∧ (True))) ∧ True)) ∧ True ∧ True)) ⟨trivial, ⟨trivial, ⟨⟨trivial, fun _ _ _ _ H => H, ⟨⟨trivial, trivial⟩, trivial⟩⟩, ⟨trivial, ⟨⟨trivial, ⟨⟨trivial, trivial⟩, trivial⟩⟩, ⟨⟨trivial, ⟨fun _ _ _ _ _ H => H, fun _ => ⟨fun _ _ _ _ _ H => H, ⟨⟨trivial, ⟨trivial, trivial⟩⟩, ⟨⟨trivial, ⟨⟨trivial, trivial⟩, trivial⟩⟩, trivial⟩⟩⟩⟩⟩, ⟨⟨trivial, ⟨fun _ _ _ _ _ H => H, fun _ => ⟨fun _ _ _ _ _ H => H, ⟨⟨trivial, ⟨trivial, trivial⟩⟩, ⟨⟨trivial, ⟨fun _ _ _ _ _ _ H => H, fun _ => ⟨fun _ _ _ _ _ _ H => H, ⟨⟨trivial, ⟨trivial, trivial⟩⟩, ⟨⟨⟨trivial, fun _ _ _ _ _ _ _ H => H, ⟨trivial, trivial⟩⟩, ⟨⟨trivial, ⟨⟨trivial, trivial⟩, trivial⟩⟩, ⟨trivial, ⟨fun _ _ _ _ _ _ _ H => H, fun _ => ⟨fun _ _ _ _ _ _ _ H => H, ⟨⟨trivial, ⟨trivial, trivial⟩⟩, ⟨⟨trivial, ⟨⟨trivial, trivial⟩, trivial⟩⟩, trivial⟩⟩⟩⟩⟩⟩⟩, fun _ _ _ _ _ _ H => H, trivial⟩⟩⟩⟩⟩, trivial⟩⟩⟩⟩⟩, ⟨trivial, trivial⟩⟩⟩⟩⟩⟩⟩⟩)
    (Eq.mpr (by as_aux_lemma => kernel_rfl : evF prog f31 (s31_A Ψ) Ψ [(.agg [m_Up, m_Val])] h = s31 Ψ m_Up m_Val h) H)

/- 36 dictum/morph.tidied -/
def s36 (Ψ : AVal → Heap → Prop) (m_Up : AVal) (m_Val : AVal) (h : Heap) : Prop :=
  Sym.newRow 2 [(.agg [m_Up, m_Val])] h fun r h_ =>
  Sym.newRow 2 [(.agg [.nilsl, .nilsl])] h_ fun r1 h_1 =>
  ldN 2 h_1 (.ptr r 0 0) fun l_ =>
  tCons l_ fun v l_1 =>
  tCons l_1 fun v1 l_2 =>
  tNil l_2 (
    callG prog 39 [(.agg [v, v1])] h_1 fun v2 h_2 =>
    tTup v2 fun l_3 =>
    tCons l_3 fun v3 l_4 =>
    tCons l_4 fun v4 l_5 =>
    tInt .i64 v4 fun v5 =>
    tNil l_5 (
      tAgg v3 fun l_6 =>
      tCons l_6 fun v6 l_7 =>
      tCons l_7 fun v7 l_8 =>
      tNil l_8 (
        st false h_2 (.ptr r 0 0) [v6, v7] fun h_3 =>
        ldN 2 h_3 (.ptr r 0 0) fun l_9 =>
        tCons l_9 fun v8 l_10 =>
        tCons l_10 fun v9 l_11 =>
        tNil l_11 (
          st false h_3 (.ptr r1 0 0) [v8, v9] fun h_4 =>
          ldN 2 h_4 (.ptr r1 0 0) fun l_12 =>
          tCons l_12 fun v10 l_13 =>
          tCons l_13 fun v11 l_14 =>
          tNil l_14 (
            retG (.agg [v10, v11]) h_4 Ψ)))))

def s36_A (Ψ : AVal → Heap → Prop) : Ann :=
  .seq (.reg [⟨none, [(0, false), (1, false)]⟩])
  (.seq (.reg [⟨none, [(0, false), (1, false), (2, false), (3, false), (4, false), (5, false)]⟩])
  (.seq (.reg [⟨none, [(0, false), (1, false)]⟩])
  (.leaf)))

theorem s36_ok {Ψ : AVal → Heap → Prop} {m_Up : AVal} {m_Val : AVal} {h : Heap} (H : s36 Ψ m_Up m_Val h) : ACalls prog 36 [(.agg [m_Up, m_Val])] h Ψ :=
  calls_of_evF func36 (by kernel_rfl) (by kernel_rfl) (by kernel_rfl)
    (Eq.mpr (by as_aux_lemma => kernel_rfl : oblF prog f36 (s36_A Ψ) Ψ = (True ∧ True ∧ True ∧ True)) ⟨trivial, ⟨trivial, ⟨trivial, trivial⟩⟩⟩)
    (Eq.mpr (by as_aux_lemma => kernel_rfl : evF prog f36 (s36_A Ψ) Ψ [(.agg [m_Up, m_Val])] h = s36 Ψ m_Up m_Val h) H)

/- 39 dictum/worlds.Tidy -/
def s39l1_R (F : AVal → AVal → AVal → AVal → Int → Int → Heap → Prop) (l : List AVal) (h : Heap) : Prop := J.cons l fun x0 l => J.cons l fun x1 l => J.cons l fun x2 l => J.cons l fun x3 l => J.cons l fun v l => J.int .i64 v fun x4 => J.cons l fun v l => J.int .i64 v fun x5 => J.nil l (F x0 x1 x2 x3 x4 x5 h)
def s39l1_G (F : AVal → AVal → AVal → AVal → Int → Int → Heap → Prop) (x0 : AVal) (x1 : AVal) (x2 : AVal) (x3 : AVal) (x4 : Int) (x5 : Int) (h : Heap) : Prop := gJ [.any, .any, .any, .any, .int .i64, .int .i64] [x0, x1, x2, x3, (.int .i64 x4), (.int .i64 x5)] h (s39l1_R F)
def s39l1_E (F : Nat → AVal → AVal → AVal → AVal → Int → Int → Heap → Prop) (x0 : AVal) (x1 : AVal) (x2 : AVal) (x3 : AVal) (x4 : Int) (x5 : Int) (h : Heap) : Prop := gJ [.any, .any, .any, .any, .int .i64, .int .i64] [x0, x1, x2, x3, (.int .i64 x4), (.int .i64 x5)] h (fun l h => ∃ n, s39l1_R (F n) l h)
theorem s39l1_go {F : AVal → AVal → AVal → AVal → Int → Int → Heap → Prop} {x0 : AVal} {x1 : AVal} {x2 : AVal} {x3 : AVal} {x4 : Int} {x5 : Int} {h : Heap} (H : F x0 x1 x2 x3 x4 x5 h) : s39l1_G F x0 x1 x2 x3 x4 x5 h := gJ_plain rfl H
theorem s39l1_in {F : Nat → AVal → AVal → AVal → AVal → Int → Int → Heap → Prop} {x0 : AVal} {x1 : AVal} {x2 : AVal} {x3 : AVal} {x4 : Int} {x5 : Int} {h : Heap} (n : Nat) (H : F n x0 x1 x2 x3 x4 x5 h) : s39l1_E F x0 x1 x2 x3 x4 x5 h := gJ_plain rfl ⟨n, H⟩

def s39l2_R (F : AVal → AVal → AVal → AVal → AVal → AVal → AVal → Int → Int → AVal → Int → Int → Heap → Prop) (l : List AVal) (h : Heap) : Prop := J.cons l fun x0 l => J.cons l fun x1 l => J.cons l fun x2 l => J.cons l fun x3 l => J.cons l fun x4 l => J.cons l fun x5 l => J.cons l fun x6 l => J.cons l fun v l => J.int .i64 v fun x7 => J.cons l fun v l => J.int .i64 v fun x8 => J.cons l fun x9 l => J.cons l fun v l => J.int .i64 v fun x10 => J.cons l fun v l => J.int .i64 v fun x11 => J.nil l (F x0 x1 x2 x3 x4 x5 x6 x7 x8 x9 x10 x11 h)
def s39l2_G (F : AVal → AVal → AVal → AVal → AVal → AVal → AVal → Int → Int → AVal → Int → Int → Heap → Prop) (x0 : AVal) (x1 : AVal) (x2 : AVal) (x3 : AVal) (x4 : AVal) (x5 : AVal) (x6 : AVal) (x7 : Int) (x8 : Int) (x9 : AVal) (x10 : Int) (x11 : Int) (h : Heap) : Prop := gJ [.any, .any, .any, .any, .any, .any, .any, .int .i64, .int .i64, .any, .int .i64, .int .i64] [x0, x1, x2, x3, x4, x5, x6, (.int .i64 x7), (.int .i64 x8), x9, (.int .i64 x10), (.int .i64 x11)] h (s39l2_R F)
def s39l2_E (F : Nat → AVal → AVal → AVal → AVal → AVal → AVal → AVal → Int → Int → AVal → Int → Int → Heap → Prop) (x0 : AVal) (x1 : AVal) (x2 : AVal) (x3 : AVal) (x4 : AVal) (x5 : AVal) (x6 : AVal) (x7 : Int) (x8 : Int) (x9 : AVal) (x10 : Int) (x11 : Int) (h : Heap) : Prop := gJ [.any, .any, .any, .any, .any, .any, .any, .int .i64, .int .i64, .any, .int .i64, .int .i64] [x0, x1, x2, x3, x4, x5, x6, (.int .i64 x7), (.int .i64 x8), x9, (.int .i64 x10), (.int .i64 x11)] h (fun l h => ∃ n, s39l2_R (F n) l h)
theorem s39l2_go {F : AVal → AVal → AVal → AVal → AVal → AVal → AVal → Int → Int → AVal → Int → Int → Heap → Prop} {x0 : AVal} {x1 : AVal} {x2 : AVal} {x3 : AVal} {x4 : AVal} {x5 : AVal} {x6 : AVal} {x7 : Int} {x8 : Int} {x9 : AVal} {x10 : Int} {x11 : Int} {h : Heap} (H : F x0 x1 x2 x3 x4 x5 x6 x7 x8 x9 x10 x11 h) : s39l2_G F x0 x1 x2 x3 x4 x5 x6 x7 x8 x9 x10 x11 h := gJ_plain rfl H
theorem s39l2_in {F : Nat → AVal → AVal → AVal → AVal → AVal → AVal → AVal → Int → Int → AVal → Int → Int → Heap → Prop} {x0 : AVal} {x1 : AVal} {x2 : AVal} {x3 : AVal} {x4 : AVal} {x5 : AVal} {x6 : AVal} {x7 : Int} {x8 : Int} {x9 : AVal} {x10 : Int} {x11 : Int} {h : Heap} (n : Nat) (H : F n x0 x1 x2 x3 x4 x5 x6 x7 x8 x9 x10 x11 h) : s39l2_E F x0 x1 x2 x3 x4 x5 x6 x7 x8 x9 x10 x11 h := gJ_plain rfl ⟨n, H⟩

def s39c3 (Ψ : AVal → Heap → Prop) (L1 : AVal → AVal → AVal → AVal → Int → Int → Heap → Prop) (L2 : AVal → AVal → AVal → AVal → AVal → AVal → AVal → Int → Int → AVal → Int → Int → Heap → Prop) (m2 : AVal) (t2_2 : AVal) (leq2 : AVal) (out2 : AVal) (a1 : AVal) (next1 : AVal) (row1 : AVal) (t24_2 : Int) (t25_2 : Int) (t32_1 : AVal) (t33_1 : Int) (t34_1 : Int) (h : Heap) : Prop :=
  rg (t34_1 + 1) (
    L2 m2 t2_2 leq2 out2 a1 next1 row1 t24_2 t25_2 t32_1 t33_1 (t34_1 + 1) h)

def s39l2 (Ψ : AVal → Heap → Prop) (L1 : AVal → AVal → AVal → AVal → Int → Int → Heap → Prop) : Nat → AVal → AVal → AVal → AVal → AVal → AVal → AVal → Int → Int → AVal → Int → Int → Heap → Prop
  | 0, _, _, _, _, _, _, _, _, _, _, _, _, _ => False
  | n3 + 1, m1, t2_1, leq1, out1, a, next, row, t24_1, t25_1, t32, t33, t34, h =>
    ifT (decide (t34 < t33)) (
      ixS 1 t32 t34 fun p =>
      ld1 h p fun v10 =>
      tInt .i64 v10 fun v11 =>
      callV prog next [(.int .i64 v11)] h fun v12 h_11 =>
      tBool v12 fun v13 =>
      ifT v13 (
        appC 1 8 h_11 row (.lsl 1 [(.int .i64 v11)]) fun v14 h_12 =>
        s39c3 Ψ L1 (s39l2_G (s39l2 Ψ L1 n3)) m1 t2_1 leq1 out1 a next v14 t24_1 t25_1 t32 t33 t34 h_12) (
        s39c3 Ψ L1 (s39l2_G (s39l2 Ψ L1 n3)) m1 t2_1 leq1 out1 a next row t24_1 t25_1 t32 t33 t34 h_11)) (
      addOff out1 0 fun p1 =>
      ld1 h p1 fun v15 =>
      chk (sc row) (
        appC 1 24 h v15 (.lsl 1 [row]) fun v16 h_13 =>
        addOff out1 0 fun p2 =>
        chk (sc v16) (
          st true h_13 p2 [v16] fun h_14 =>
          addOff out1 1 fun p3 =>
          ld1 h_14 p3 fun v17 =>
          addOff m1 1 fun p4 =>
          ld1 h_14 p4 fun v18 =>
          ld1 h_14 a fun v19 =>
          tInt .i64 v19 fun v20 =>
          ixS 1 v18 v20 fun p5 =>
          ld1 h_14 p5 fun v21 =>
          callG prog 35 [v21] h_14 fun v22 h_15 =>
          (ld1 h_15 p3 fun v23 =>
          v23 = v17) ∧
          chk (sc v22) (
            (ld1 h_15 p3 fun v24 =>
            v24 = v17) ∧
            appC 1 24 h_15 v17 (.lsl 1 [v22]) fun v25 h_16 =>
            addOff out1 1 fun p6 =>
            chk (sc v25) (
              st true h_16 p6 [v25] fun h_17 =>
              rg (t25_1 + 1) (
                L1 m1 t2_1 leq1 out1 t24_1 (t25_1 + 1) h_17))))))

def s39l1 (Ψ : AVal → Heap → Prop) : Nat → AVal → AVal → AVal → AVal → Int → Int → Heap → Prop
  | 0, _, _, _, _, _, _, _ => False
  | n1 + 1, m, t2, leq, out, t24, t25, h =>
    ifT (decide (t25 < t24)) (
      Sym.newRow 1 [(.int .i64 0)] h fun r3 h_6 =>
      st true h_6 (.ptr r3 0 0) [(.int .i64 t25)] fun h_7 =>
      ldN 2 h_7 m fun l_6 =>
      tCons l_6 fun v6 l_7 =>
      tCons l_7 fun v7 l_8 =>
      tNil l_8 (
        callG prog 68 [(.agg [v6, v7]), (.func (.func 69) [] [(.ptr r3 0 0), leq])] h_7 fun v8 h_8 =>
        Sym.newRow 1 [.nilsl] h_8 fun r4 h_9 =>
        chk (sc v8) (
          st true h_9 (.ptr r4 0 0) [v8] fun h_10 =>
          ld1 h_10 (.ptr r4 0 0) fun v9 =>
          lenN v9 fun n2 =>
          s39l2_E (s39l2 Ψ (s39l1_G (s39l1 Ψ n1))) m t2 leq out (.ptr r3 0 0) (.func (.func 70) [] [(.ptr r4 0 0), leq]) .nilsl t24 t25 v9 n2 0 h_10))) (
      ldN 2 h out fun l_9 =>
      tCons l_9 fun v26 l_10 =>
      tCons l_10 fun v27 l_11 =>
      tNil l_11 (
        st false h t2 [v26, v27] fun h_18 =>
        ldN 2 h_18 t2 fun l_12 =>
        tCons l_12 fun v28 l_13 =>
        tCons l_13 fun v29 l_14 =>
        tNil l_14 (
          retG (.tuple [(.agg [v28, v29]), (.int .i64 0)]) h_18 Ψ)))

def s39 (Ψ : AVal → Heap → Prop) (m_Up : AVal) (m_Val : AVal) (h : Heap) : Prop :=
  Sym.newRow 2 [(.agg [.nilsl, .nilsl])] h fun r h_ =>
  callG prog 67 [(.agg [m_Up, m_Val]), .nilsl] h_ fun v h_1 =>
  tTup v fun l_ =>
  tCons l_ fun v1 l_1 =>
  tCons l_1 fun v2 l_2 =>
  tInt .i64 v2 fun v3 =>
  tNil l_2 (
    Sym.newRow 1 [.nilfunc] h_1 fun r1 h_2 =>
    chk (sc v1) (
      st true h_2 (.ptr r1 0 0) [v1] fun h_3 =>
      ifT (v3 != 0) (
        st false h_3 (.ptr r 0 0) [.nilsl, .nilsl] fun h_4 =>
        ldN 2 h_4 (.ptr r 0 0) fun l_3 =>
        tCons l_3 fun v4 l_4 =>
        tCons l_4 fun v5 l_5 =>
        tNil l_5 (
          retG (.tuple [(.agg [v4, v5]), (.int .i64 v3)]) h_4 Ψ)) (
        Sym.newRow 2 [(.agg [.nilsl, .nilsl])] h_3 fun r2 h_5 =>
        lenN m_Up fun n =>
        s39l1_E (s39l1 Ψ) (.lptr [m_Up, m_Val]) (.ptr r 0 0) (.ptr r1 0 0) (.ptr r2 0 0) n 0 h_5)))

def s39_A (Ψ : AVal → Heap → Prop) : Ann :=
  .seq (.reg [⟨none, [(0, true), (1, false), (2, false)]⟩])
  (.seq (.reg [⟨none, [(0, false), (1, false), (2, false), (3, false), (4, false), (5, false), (6, false), (7, false)]⟩])
  (.seq (.seq (.reg [⟨none, [(0, false), (1, false)]⟩])
  (.cond (.seq (.reg [⟨none, [(0, false), (1, false), (2, false), (3, false)]⟩])
  (.leaf))
  (.leaf)))
  (.seq (.reg [⟨none, [(0, false)]⟩])
  (.seq (.seq (.reg [⟨none, [(0, false), (1, false), (2, false), (3, false)]⟩])
  (.block (.loop [(1, .any), (2, .any), (4, .any), (6, .any), (24, .int .i64), (25, .int .i64)] (fun n l h => s39l1_R (s39l1 Ψ n) l h) (fun L1 =>
  .seq (.reg [⟨none, [(0, false)]⟩])
  (.seq (.cond (.leaf)
  (.leaf))
  (.seq (.block (.seq (.reg [⟨none, [(0, false), (1, false), (2, false)]⟩])
  (.seq (.reg [⟨none, [(0, false), (1, false), (2, false), (3, false), (4, false)]⟩])
  (.seq (.reg [⟨none, [(0, false), (1, false)]⟩])
  (.seq (.reg [⟨none, [(0, false)]⟩])
  (.seq (.seq (.reg [⟨none, [(0, false), (1, false), (2, false)]⟩])
  (.block (.loop [(1, .any), (2, .any), (4, .any), (6, .any), (7, .any), (9, .any), (10, .any), (24, .int .i64), (25, .int .i64), (32, .any), (33, .int .i64), (34, .int .i64)] (fun n l h => s39l2_R (s39l2 Ψ (fun y0 y1 y2 y3 y4 y5 h => L1 [y0, y1, y2, y3, (.int .i64 y4), (.int .i64 y5)] h) n) l h) (fun L2 =>
  .seq (.reg [⟨none, [(0, false)]⟩])
  (.seq (.cond (.leaf)
  (.leaf))
  (.cut [(1, .any), (2, .any), (4, .any), (6, .any), (7, .any), (9, .any), (10, .any), (24, .int .i64), (25, .int .i64), (32, .any), (33, .int .i64), (34, .int .i64)] (fun l h => J.cons l fun x0 l => J.cons l fun x1 l => J.cons l fun x2 l => J.cons l fun x3 l => J.cons l fun x4 l => J.cons l fun x5 l => J.cons l fun x6 l => J.cons l fun v l => J.int .i64 v fun x7 => J.cons l fun v l => J.int .i64 v fun x8 => J.cons l fun x9 l => J.cons l fun v l => J.int .i64 v fun x10 => J.cons l fun v l => J.int .i64 v fun x11 => J.nil l (s39c3 Ψ (fun y0 y1 y2 y3 y4 y5 h => L1 [y0, y1, y2, y3, (.int .i64 y4), (.int .i64 y5)] h) (fun y0 y1 y2 y3 y4 y5 y6 y7 y8 y9 y10 y11 h => L2 [y0, y1, y2, y3, y4, y5, y6, (.int .i64 y7), (.int .i64 y8), y9, (.int .i64 y10), (.int .i64 y11)] h) x0 x1 x2 x3 x4 x5 x6 x7 x8 x9 x10 x11 h)) (.block (.seq (.reg [⟨none, [(0, false), (1, false), (2, false)]⟩])
  (.seq (.reg [⟨none, [(0, false), (1, false), (2, false)]⟩])
  (.cond (.reg [⟨none, [(0, false), (1, false), (2, true), (3, false), (4, false)]⟩])
  (.leaf)))))
  (.reg [⟨none, [(0, false), (1, false)]⟩])))))))
  (.seq (.reg [⟨none, [(0, false), (1, false), (2, false), (3, true), (4, false), (5, false), (6, false)]⟩])
  (.draw [(0, false), (1, false), (2, false), (3, false), (4, false), (5, false), (6, false), (7, false), (8, true), (9, false), (10, false), (11, false)] [0, 1, 0, 4, 0, 28, 60, 124, 252, 511, 1023, 2047]))))))))
  (.reg [⟨none, [(0, false), (1, false)]⟩])))))))
  (.seq (.reg [⟨none, [(0, false), (1, false), (2, false)]⟩])
  (.leaf))))))

theorem s39_ok {Ψ : AVal → Heap → Prop} {m_Up : AVal} {m_Val : AVal} {h : Heap} (H : s39 Ψ m_Up m_Val h) : ACalls prog 39 [(.agg [m_Up, m_Val])] h Ψ :=
  calls_of_evF func39 (by kernel_rfl) (by kernel_rfl) (by kernel_rfl)
    (Eq.mpr (by as_aux_lemma => kernel_rfl : oblF prog f39 (s39_A Ψ) Ψ = (True ∧ True ∧ (True ∧ (True ∧ True) ∧ True) ∧ True ∧ (True ∧ (∀ (h : Heap) (x0 x1 x2 x3 : AVal) (x4 x5 : Int), ON (s39l1 Ψ 0 x0 x1 x2 x3 x4 x5 h)) ∧ ∀ n1 : Nat, (∀ (h : Heap) (x0 x1 x2 x3 : AVal) (x4 x5 : Int), OI (s39l1 Ψ (n1 + 1) x0 x1 x2 x3 x4 x5 h)) ∧ (True ∧ (True ∧ True) ∧ (True ∧ True ∧ True ∧ True ∧ (True ∧ (∀ (h : Heap) (x0 x1 x2 x3 x4 x5 x6 : AVal) (x7 x8 : Int) (x9 : AVal) (x10 x11 : Int), ON (s39l2 Ψ (s39l1_G (s39l1 Ψ n1)) 0 x0 x1 x2 x3 x4 x5 x6 x7 x8 x9 x10 x11 h)) ∧ ∀ n2 : Nat, (∀ (h : Heap) (x0 x1 x2 x3 x4 x5 x6 : AVal) (x7 x8 : Int) (x9 : AVal) (x10 x11 : Int), OI (s39l2 Ψ (s39l1_G (s39l1 Ψ n1)) (n2 + 1) x0 x1 x2 x3 x4 x5 x6 x7 x8 x9 x10 x11 h)) ∧ (True ∧ (True ∧ True) ∧ (True ∧ True ∧ True ∧ True) ∧ (∀ (h : Heap) (x0 x1 x2 x3 x4 x5 x6 : AVal) (x7 x8 : Int) (x9 : AVal) (x10 x11 : Int), OI (s39c3 Ψ (s39l1_G (s39l1 Ψ n1)) (s39l2_G (s39l2 Ψ (s39l1_G (s39l1 Ψ n1)) n2)) x0 x1 x2 x3 x4 x5 x6 x7 x8 x9 x10 x11 h)) ∧ (True))) ∧ True ∧ True) ∧ True)) ∧ True ∧ True)) ⟨trivial, ⟨trivial, ⟨⟨trivial, ⟨⟨trivial, trivial⟩, trivial⟩⟩, ⟨trivial, ⟨⟨trivial, ⟨fun _ _ _ _ _ _ _ H => H, fun _ => ⟨fun _ _ _ _ _ _ _ H => H, ⟨trivial, ⟨⟨trivial, trivial⟩, ⟨⟨trivial, ⟨trivial, ⟨trivial, ⟨trivial, ⟨⟨trivial, ⟨fun _ _ _ _ _ _ _ _ _ _ _ _ _ H => H, fun _ => ⟨fun _ _ _ _ _ _ _ _ _ _ _ _ _ H => H, ⟨trivial, ⟨⟨trivial, trivial⟩, ⟨⟨trivial, ⟨trivial, ⟨trivial, trivial⟩⟩⟩, fun _ _ _ _ _ _ _ _ _ _ _ _ _ H => H, trivial⟩⟩⟩⟩⟩⟩, ⟨trivial, trivial⟩⟩⟩⟩⟩⟩, trivial⟩⟩⟩⟩⟩⟩, ⟨trivial, trivial⟩⟩⟩⟩⟩⟩)
    (Eq.mpr (by as_aux_lemma => kernel_rfl : evF prog f39 (s39_A Ψ) Ψ [(.agg [m_Up, m_Val])] h = s39 Ψ m_Up m_Val h) H)

/- 42 dictum/formula.Word -/
def s42l1_R (F : ByteArray → Int → Int → Heap → Prop) (l : List AVal) (h : Heap) : Prop := J.cons l fun v l => J.str v fun x0 => J.cons l fun v l => J.int .i64 v fun x1 => J.cons l fun v l => J.int .i64 v fun x2 => J.nil l (F x0 x1 x2 h)
def s42l1_G (F : ByteArray → Int → Int → Heap → Prop) (x0 : ByteArray) (x1 : Int) (x2 : Int) (h : Heap) : Prop := gJ [.str, .int .i64, .int .i64] [(.str x0), (.int .i64 x1), (.int .i64 x2)] h (s42l1_R F)
def s42l1_E (F : Nat → ByteArray → Int → Int → Heap → Prop) (x0 : ByteArray) (x1 : Int) (x2 : Int) (h : Heap) : Prop := gJ [.str, .int .i64, .int .i64] [(.str x0), (.int .i64 x1), (.int .i64 x2)] h (fun l h => ∃ n, s42l1_R (F n) l h)
theorem s42l1_go {F : ByteArray → Int → Int → Heap → Prop} {x0 : ByteArray} {x1 : Int} {x2 : Int} {h : Heap} (H : F x0 x1 x2 h) : s42l1_G F x0 x1 x2 h := gJ_plain rfl H
theorem s42l1_in {F : Nat → ByteArray → Int → Int → Heap → Prop} {x0 : ByteArray} {x1 : Int} {x2 : Int} {h : Heap} (n : Nat) (H : F n x0 x1 x2 h) : s42l1_E F x0 x1 x2 h := gJ_plain rfl ⟨n, H⟩

def s42c3 (Ψ : AVal → Heap → Prop) (L1 : ByteArray → Int → Int → Heap → Prop) (name3 : ByteArray) (t8_2 : Int) (t9_2 : Int) (t44 : Bool) (h : Heap) : Prop :=
  ifT t44 (
    retG (.bool false) h Ψ) (
    rg (t9_2 + 1) (
      L1 name3 t8_2 (t9_2 + 1) h))

def s42c2 (Ψ : AVal → Heap → Prop) (L1 : ByteArray → Int → Int → Heap → Prop) (name2 : ByteArray) (i : Int) (c : Int) (letter : Bool) (t8_1 : Int) (t9_1 : Int) (h : Heap) : Prop :=
  ifT (!letter) (
    ifT (i == 0) (
      s42c3 Ψ L1 name2 t8_1 t9_1 true h) (
      ifT (c != 95) (
        ifT (c != 39) (
          ifT (decide (c < 48)) (
            s42c3 Ψ L1 name2 t8_1 t9_1 true h) (
            s42c3 Ψ L1 name2 t8_1 t9_1 (decide (57 < c)) h)) (
          s42c3 Ψ L1 name2 t8_1 t9_1 false h)) (
        s42c3 Ψ L1 name2 t8_1 t9_1 false h))) (
    s42c3 Ψ L1 name2 t8_1 t9_1 false h)

def s42l1 (Ψ : AVal → Heap → Prop) : Nat → ByteArray → Int → Int → Heap → Prop
  | 0, _, _, _, _ => False
  | n + 1, name1, t8, t9, h =>
    ifT (decide (t9 < t8)) (
      ((0 : Int) ≤ t9 ∧ t9 < (name1.size : Int)) ∧
      ifT (decide (97 ≤ (bitsI .or .u8 (btA name1 t9) 32))) (
        s42c2 Ψ (s42l1_G (s42l1 Ψ n)) name1 t9 (btA name1 t9) (decide ((bitsI .or .u8 (btA name1 t9) 32) ≤ 122)) t8 t9 h) (
        s42c2 Ψ (s42l1_G (s42l1 Ψ n)) name1 t9 (btA name1 t9) false t8 t9 h)) (
      ifT (!strEq name1 (ByteArray.mk #[])) (
        ifT (decide ((name1.size : Int) ≤ 31)) (
          callG prog 72 [(.str name1)] h fun v h_ =>
          tBool v fun v1 =>
          retG (.bool (!v1)) h_ Ψ) (
          retG (.bool false) h Ψ)) (
        retG (.bool false) h Ψ))

def s42 (Ψ : AVal → Heap → Prop) (name : ByteArray) (h : Heap) : Prop :=
  s42l1_E (s42l1 Ψ) name (name.size : Int) 0 h

def s42_A (Ψ : AVal → Heap → Prop) : Ann :=
  .seq (.reg [⟨none, [(0, false)]⟩])
  (.seq (.seq (.reg [⟨none, [(0, false), (1, false), (2, false)]⟩])
  (.block (.loop [(0, .str), (8, .int .i64), (9, .int .i64)] (fun n l h => s42l1_R (s42l1 Ψ n) l h) (fun L1 =>
  .seq (.reg [⟨none, [(0, false)]⟩])
  (.seq (.cond (.leaf)
  (.leaf))
  (.seq (.block (.seq (.reg [⟨none, [(0, false), (1, false)]⟩])
  (.seq (.reg [⟨none, [(0, false), (1, false), (2, false), (3, false)]⟩])
  (.seq (.reg [⟨none, [(0, false), (1, false), (2, false)]⟩])
  (.cut [(0, .str), (3, .int .i64), (4, .int .u8), (6, .bool), (8, .int .i64), (9, .int .i64)] (fun l h => J.cons l fun v l => J.str v fun x0 => J.cons l fun v l => J.int .i64 v fun x1 => J.cons l fun v l => J.int .u8 v fun x2 => J.cons l fun v l => J.bool v fun x3 => J.cons l fun v l => J.int .i64 v fun x4 => J.cons l fun v l => J.int .i64 v fun x5 => J.nil l (s42c2 Ψ (fun y0 y1 y2 h => L1 [(.str y0), (.int .i64 y1), (.int .i64 y2)] h) x0 x1 x2 x3 x4 x5 h)) (.reg [⟨none, [(0, false), (1, false), (2, false)]⟩, ⟨some (19, true), [(3, false), (4, false)]⟩, ⟨none, [(5, false), (6, false)]⟩])
  (.cut [(0, .str), (8, .int .i64), (9, .int .i64), (44, .bool)] (fun l h => J.cons l fun v l => J.str v fun x0 => J.cons l fun v l => J.int .i64 v fun x1 => J.cons l fun v l => J.int .i64 v fun x2 => J.cons l fun v l => J.bool v fun x3 => J.nil l (s42c3 Ψ (fun y0 y1 y2 h => L1 [(.str y0), (.int .i64 y1), (.int .i64 y2)] h) x0 x1 x2 x3 h)) (.reg [⟨none, [(0, false), (1, false), (2, false)]⟩, ⟨some (25, true), [(3, false), (4, false), (5, false)]⟩, ⟨some (28, false), [(6, false), (7, false), (8, false)]⟩, ⟨some (31, true), [(9, false), (10, false)]⟩, ⟨some (28, false), [(11, false), (12, false)]⟩, ⟨some (35, true), [(13, false), (14, false), (15, false)]⟩, ⟨some (38, false), [(16, false), (17, false)]⟩, ⟨some (35, true), [(18, false)]⟩, ⟨some (28, false), [(19, false)]⟩, ⟨some (25, true), [(20, false)]⟩, ⟨none, [(21, false)]⟩])
  (.cond (.seq (.reg [⟨none, [(0, false)]⟩])
  (.leaf))
  (.leaf))))))))
  (.reg [⟨none, [(0, false), (1, false)]⟩])))))))
  (.seq (.reg [⟨none, [(0, false), (1, false), (2, false)]⟩, ⟨some (48, true), [(3, false), (4, false), (5, false)]⟩, ⟨none, [(6, false), (7, false)]⟩, ⟨some (53, true), [(8, false), (9, false), (10, false)]⟩, ⟨none, [(11, false), (12, false)]⟩])
  (.leaf)))

theorem s42_ok {Ψ : AVal → Heap → Prop} {name : ByteArray} {h : Heap} (H : s42 Ψ name h) : ACalls prog 42 [(.str name)] h Ψ :=
  calls_of_evF func42 (by kernel_rfl) (by kernel_rfl) (by kernel_rfl)
    (Eq.mpr (by as_aux_lemma => kernel_rfl : oblF prog f42 (s42_A Ψ) Ψ = (True ∧ (True ∧ (∀ (h : Heap) (x0 : ByteArray) (x1 x2 : Int), ON (s42l1 Ψ 0 x0 x1 x2 h)) ∧ ∀ n1 : Nat, (∀ (h : Heap) (x0 : ByteArray) (x1 x2 : Int), OI (s42l1 Ψ (n1 + 1) x0 x1 x2 h)) ∧ (True ∧ (True ∧ True) ∧ (True ∧ True ∧ True ∧ (True) ∧ (∀ (h : Heap) (x0 : ByteArray) (x1 x2 : Int) (x3 : Bool) (x4 x5 : Int), OI (s42c2 Ψ (s42l1_G (s42l1 Ψ n1)) x0 x1 x2 x3 x4 x5 h)) ∧ ((True) ∧ (∀ (h : Heap) (x0 : ByteArray) (x1 x2 : Int) (x3 : Bool), OI (s42c3 Ψ (s42l1_G (s42l1 Ψ n1)) x0 x1 x2 x3 h)) ∧ ((True ∧ True) ∧ True))) ∧ True)) ∧ True ∧ True)) ⟨trivial, ⟨⟨trivial, ⟨fun _ _ _ _ H => H, fun _ => ⟨fun _ _ _ _ H => H, ⟨trivial, ⟨⟨trivial, trivial⟩, ⟨⟨trivial, ⟨trivial, ⟨trivial, ⟨trivial, fun _ _ _ _ _ _ _ H => H, ⟨trivial, fun _ _ _ _ _ H => H, ⟨⟨trivial, trivial⟩, trivial⟩⟩⟩⟩⟩⟩, trivial⟩⟩⟩⟩⟩⟩, ⟨trivial, trivial⟩⟩⟩)
    (Eq.mpr (by as_aux_lemma => kernel_rfl : evF prog f42 (s42_A Ψ) Ψ [(.str name)] h = s42 Ψ name h) H)

/- 44 slices.ContainsFunc[[]string,string] -/
def s44 (Ψ : AVal → Heap → Prop) (s : AVal) (f : AVal) (h : Heap) : Prop :=
  callG prog 74 [s, f] h fun v h_ =>
  tInt .i64 v fun v1 =>
  retG (.bool (decide (0 ≤ v1))) h_ Ψ

def s44_A (Ψ : AVal → Heap → Prop) : Ann :=
  .seq (.reg [⟨none, [(0, false)]⟩])
  (.seq (.reg [⟨none, [(0, false), (1, false), (2, false), (3, false), (4, false)]⟩])
  (.leaf))

theorem s44_ok {Ψ : AVal → Heap → Prop} {s : AVal} {f : AVal} {h : Heap} (H : s44 Ψ s f h) : ACalls prog 44 [s, f] h Ψ :=
  calls_of_evF func44 (by kernel_rfl) (by kernel_rfl) (by kernel_rfl)
    (Eq.mpr (by as_aux_lemma => kernel_rfl : oblF prog f44 (s44_A Ψ) Ψ = (True ∧ True ∧ True)) ⟨trivial, ⟨trivial, trivial⟩⟩)
    (Eq.mpr (by as_aux_lemma => kernel_rfl : evF prog f44 (s44_A Ψ) Ψ [s, f] h = s44 Ψ s f h) H)

/- 46 slices.Contains[[]string,string] -/
def s46 (Ψ : AVal → Heap → Prop) (s : AVal) (v : ByteArray) (h : Heap) : Prop :=
  callG prog 75 [s, (.str v)] h fun v1 h_ =>
  tInt .i64 v1 fun v2 =>
  retG (.bool (decide (0 ≤ v2))) h_ Ψ

def s46_A (Ψ : AVal → Heap → Prop) : Ann :=
  .seq (.reg [⟨none, [(0, false)]⟩])
  (.seq (.reg [⟨none, [(0, false), (1, false), (2, false), (3, false), (4, false)]⟩])
  (.leaf))

theorem s46_ok {Ψ : AVal → Heap → Prop} {s : AVal} {v : ByteArray} {h : Heap} (H : s46 Ψ s v h) : ACalls prog 46 [s, (.str v)] h Ψ :=
  calls_of_evF func46 (by kernel_rfl) (by kernel_rfl) (by kernel_rfl)
    (Eq.mpr (by as_aux_lemma => kernel_rfl : oblF prog f46 (s46_A Ψ) Ψ = (True ∧ True ∧ True)) ⟨trivial, ⟨trivial, trivial⟩⟩)
    (Eq.mpr (by as_aux_lemma => kernel_rfl : evF prog f46 (s46_A Ψ) Ψ [s, (.str v)] h = s46 Ψ s v h) H)

/- 48 dictum/dictumref03.Word -/
def s48l2_R (F : ByteArray → Int → Heap → Prop) (l : List AVal) (h : Heap) : Prop := J.cons l fun v l => J.str v fun x0 => J.cons l fun v l => J.int .i64 v fun x1 => J.nil l (F x0 x1 h)
def s48l2_G (F : ByteArray → Int → Heap → Prop) (x0 : ByteArray) (x1 : Int) (h : Heap) : Prop := gJ [.str, .int .i64] [(.str x0), (.int .i64 x1)] h (s48l2_R F)
def s48l2_E (F : Nat → ByteArray → Int → Heap → Prop) (x0 : ByteArray) (x1 : Int) (h : Heap) : Prop := gJ [.str, .int .i64] [(.str x0), (.int .i64 x1)] h (fun l h => ∃ n, s48l2_R (F n) l h)
theorem s48l2_go {F : ByteArray → Int → Heap → Prop} {x0 : ByteArray} {x1 : Int} {h : Heap} (H : F x0 x1 h) : s48l2_G F x0 x1 h := gJ_plain rfl H
theorem s48l2_in {F : Nat → ByteArray → Int → Heap → Prop} {x0 : ByteArray} {x1 : Int} {h : Heap} (n : Nat) (H : F n x0 x1 h) : s48l2_E F x0 x1 h := gJ_plain rfl ⟨n, H⟩

def s48c3 (Ψ : AVal → Heap → Prop) (L2 : ByteArray → Int → Heap → Prop) (s3 : ByteArray) (i1 : Int) (t55 : Bool) (h : Heap) : Prop :=
  ifT t55 (
    retG (.bool false) h Ψ) (
    rg (i1 + 1) (
      L2 s3 (i1 + 1) h))

def s48l4_R (F : ByteArray → AVal → Int → Heap → Prop) (l : List AVal) (h : Heap) : Prop := J.cons l fun v l => J.str v fun x0 => J.cons l fun x1 l => J.cons l fun v l => J.int .i64 v fun x2 => J.nil l (F x0 x1 x2 h)
def s48l4_G (F : ByteArray → AVal → Int → Heap → Prop) (x0 : ByteArray) (x1 : AVal) (x2 : Int) (h : Heap) : Prop := gJ [.str, .any, .int .i64] [(.str x0), x1, (.int .i64 x2)] h (s48l4_R F)
def s48l4_E (F : Nat → ByteArray → AVal → Int → Heap → Prop) (x0 : ByteArray) (x1 : AVal) (x2 : Int) (h : Heap) : Prop := gJ [.str, .any, .int .i64] [(.str x0), x1, (.int .i64 x2)] h (fun l h => ∃ n, s48l4_R (F n) l h)
theorem s48l4_go {F : ByteArray → AVal → Int → Heap → Prop} {x0 : ByteArray} {x1 : AVal} {x2 : Int} {h : Heap} (H : F x0 x1 x2 h) : s48l4_G F x0 x1 x2 h := gJ_plain rfl H
theorem s48l4_in {F : Nat → ByteArray → AVal → Int → Heap → Prop} {x0 : ByteArray} {x1 : AVal} {x2 : Int} {h : Heap} (n : Nat) (H : F n x0 x1 x2 h) : s48l4_E F x0 x1 x2 h := gJ_plain rfl ⟨n, H⟩

def s48l4 (Ψ : AVal → Heap → Prop) : Nat → ByteArray → AVal → Int → Heap → Prop
  | 0, _, _, _, _ => False
  | n1 + 1, s4, l_, i2, h =>
    lenN l_ fun n2 =>
    ifT (decide (i2 < n2)) (
      ixS 1 l_ i2 fun p =>
      ld1 h p fun v3 =>
      tStr v3 fun v4 =>
      ifT (strEq v4 s4) (
        retG (.bool false) h Ψ) (
        rg (i2 + 1) (
          s48l4_G (s48l4 Ψ n1) s4 l_ (i2 + 1) h))) (
      retG (.bool true) h Ψ)

def s48l2 (Ψ : AVal → Heap → Prop) : Nat → ByteArray → Int → Heap → Prop
  | 0, _, _, _ => False
  | n + 1, s2, i, h =>
    ifT (decide (i < (s2.size : Int))) (
      ((0 : Int) ≤ i ∧ i < (s2.size : Int)) ∧
      callG prog 76 [(.int .u8 (btA s2 i))] h fun v h_ =>
      tBool v fun v1 =>
      ifT (!v1) (
        ((0 : Int) ≤ i ∧ i < (s2.size : Int)) ∧
        ifT (decide (48 ≤ (btA s2 i))) (
          ((0 : Int) ≤ i ∧ i < (s2.size : Int)) ∧
          ifT (!(decide ((btA s2 i) ≤ 57))) (
            ((0 : Int) ≤ i ∧ i < (s2.size : Int)) ∧
            ifT ((btA s2 i) != 95) (
              ((0 : Int) ≤ i ∧ i < (s2.size : Int)) ∧
              s48c3 Ψ (s48l2_G (s48l2 Ψ n)) s2 i ((btA s2 i) != 39) h_) (
              s48c3 Ψ (s48l2_G (s48l2 Ψ n)) s2 i false h_)) (
            s48c3 Ψ (s48l2_G (s48l2 Ψ n)) s2 i false h_)) (
          ((0 : Int) ≤ i ∧ i < (s2.size : Int)) ∧
          ifT ((btA s2 i) != 95) (
            ((0 : Int) ≤ i ∧ i < (s2.size : Int)) ∧
            s48c3 Ψ (s48l2_G (s48l2 Ψ n)) s2 i ((btA s2 i) != 39) h_) (
            s48c3 Ψ (s48l2_G (s48l2 Ψ n)) s2 i false h_))) (
        s48c3 Ψ (s48l2_G (s48l2 Ψ n)) s2 i false h_)) (
      callG prog 77 [] h fun v2 h_1 =>
      s48l4_E (s48l4 Ψ) s2 v2 0 h_1)

def s48c1 (Ψ : AVal → Heap → Prop) (s1 : ByteArray) (t19 : Bool) (h : Heap) : Prop :=
  ifT t19 (
    retG (.bool false) h Ψ) (
    s48l2_E (s48l2 Ψ) s1 1 h)

def s48 (Ψ : AVal → Heap → Prop) (s : ByteArray) (h : Heap) : Prop :=
  ifT (decide ((s.size : Int) < 1)) (
    s48c1 Ψ s true h) (
    ifT (decide (31 < (s.size : Int))) (
      s48c1 Ψ s true h) (
      ((0 : Int) ≤ 0 ∧ 0 < (s.size : Int)) ∧
      callG prog 76 [(.int .u8 (btA s 0))] h fun v5 h_2 =>
      tBool v5 fun v6 =>
      s48c1 Ψ s (!v6) h_2))

def s48_A (Ψ : AVal → Heap → Prop) : Ann :=
  .seq (.reg [⟨none, [(0, false)]⟩])
  (.seq (.cut [(0, .str), (19, .bool)] (fun l h => J.cons l fun v l => J.str v fun x0 => J.cons l fun v l => J.bool v fun x1 => J.nil l (s48c1 Ψ x0 x1 h)) (.reg [⟨none, [(0, false), (1, false), (2, false), (3, false)]⟩, ⟨some (9, false), [(4, false), (5, false), (6, false)]⟩, ⟨none, [(7, false), (8, false)]⟩, ⟨some (14, false), [(9, false), (10, false), (11, false), (12, false)]⟩, ⟨none, [(13, false)]⟩])
  (.cond (.seq (.reg [⟨none, [(0, false)]⟩])
  (.leaf))
  (.leaf)))
  (.seq (.seq (.reg [⟨none, [(0, false)]⟩])
  (.block (.loop [(0, .str), (3, .int .i64)] (fun n l h => s48l2_R (s48l2 Ψ n) l h) (fun L2 =>
  .seq (.seq (.reg [⟨none, [(0, false), (1, false), (2, false), (3, false)]⟩])
  (.cond (.leaf)
  (.leaf)))
  (.seq (.block (.cut [(0, .str), (3, .int .i64), (55, .bool)] (fun l h => J.cons l fun v l => J.str v fun x0 => J.cons l fun v l => J.int .i64 v fun x1 => J.cons l fun v l => J.bool v fun x2 => J.nil l (s48c3 Ψ (fun y0 y1 h => L2 [(.str y0), (.int .i64 y1)] h) x0 x1 x2 h)) (.reg [⟨none, [(0, false), (1, false), (2, false), (3, false), (4, false), (5, false)]⟩, ⟨some (31, true), [(6, false), (7, false), (8, false), (9, false), (10, false)]⟩, ⟨some (36, true), [(11, false), (12, false), (13, false), (14, false)]⟩, ⟨some (31, true), [(15, false), (16, false)]⟩, ⟨none, [(17, false), (18, false)]⟩, ⟨some (44, true), [(19, false), (20, false), (21, false), (22, false)]⟩, ⟨none, [(23, false), (24, false)]⟩, ⟨some (50, true), [(25, false), (26, false), (27, false), (28, false)]⟩, ⟨none, [(29, false)]⟩])
  (.cond (.seq (.reg [⟨none, [(0, false)]⟩])
  (.leaf))
  (.leaf))))
  (.reg [⟨none, [(0, false), (1, false), (2, false)]⟩]))))))
  (.seq (.reg [⟨none, [(0, false), (1, false)]⟩])
  (.seq (.seq (.reg [⟨none, [(0, false)]⟩])
  (.block (.loop [(0, .str), (4, .any), (5, .int .i64)] (fun n l h => s48l4_R (s48l4 Ψ n) l h) (fun L4 =>
  .seq (.seq (.reg [⟨none, [(0, false), (1, false), (2, false), (3, false)]⟩])
  (.cond (.leaf)
  (.leaf)))
  (.seq (.block (.seq (.reg [⟨none, [(0, false), (1, false), (2, false), (3, false), (4, false), (5, false)]⟩])
  (.cond (.seq (.reg [⟨none, [(0, false)]⟩])
  (.leaf))
  (.leaf))))
  (.reg [⟨none, [(0, false), (1, false), (2, false)]⟩]))))))
  (.seq (.reg [⟨none, [(0, false)]⟩])
  (.leaf))))))

theorem s48_ok {Ψ : AVal → Heap → Prop} {s : ByteArray} {h : Heap} (H : s48 Ψ s h) : ACalls prog 48 [(.str s)] h Ψ :=
  calls_of_evF func48 (by kernel_rfl) (by kernel_rfl) (by kernel_rfl)
    (Eq.mpr (by as_aux_lemma => kernel_rfl : oblF prog f48 (s48_A Ψ) Ψ = (True ∧ ((True) ∧ (∀ (h : Heap) (x0 : ByteArray) (x1 : Bool), OI (s48c1 Ψ x0 x1 h)) ∧ ((True ∧ True) ∧ True)) ∧ (True ∧ (∀ (h : Heap) (x0 : ByteArray) (x1 : Int), ON (s48l2 Ψ 0 x0 x1 h)) ∧ ∀ n2 : Nat, (∀ (h : Heap) (x0 : ByteArray) (x1 : Int), OI (s48l2 Ψ (n2 + 1) x0 x1 h)) ∧ ((True ∧ True ∧ True) ∧ ((True) ∧ (∀ (h : Heap) (x0 : ByteArray) (x1 : Int) (x2 : Bool), OI (s48c3 Ψ (s48l2_G (s48l2 Ψ n2)) x0 x1 x2 h)) ∧ ((True ∧ True) ∧ True)) ∧ True)) ∧ True ∧ (True ∧ (∀ (h : Heap) (x0 : ByteArray) (x1 : AVal) (x2 : Int), ON (s48l4 Ψ 0 x0 x1 x2 h)) ∧ ∀ n4 : Nat, (∀ (h : Heap) (x0 : ByteArray) (x1 : AVal) (x2 : Int), OI (s48l4 Ψ (n4 + 1) x0 x1 x2 h)) ∧ ((True ∧ True ∧ True) ∧ (True ∧ (True ∧ True) ∧ True) ∧ True)) ∧ True ∧ True)) ⟨trivial, ⟨⟨trivial, fun _ _ _ H => H, ⟨⟨trivial, trivial⟩, trivial⟩⟩, ⟨⟨trivial, ⟨fun _ _ _ H => H, fun _ => ⟨fun _ _ _ H => H, ⟨⟨trivial, ⟨trivial, trivial⟩⟩, ⟨⟨trivial, fun _ _ _ _ H => H, ⟨⟨trivial, trivial⟩, trivial⟩⟩, trivial⟩⟩⟩⟩⟩, ⟨trivial, ⟨⟨trivial, ⟨fun _ _ _ _ H => H, fun _ => ⟨fun _ _ _ _ H => H, ⟨⟨trivial, ⟨trivial, trivial⟩⟩, ⟨⟨trivial, ⟨⟨trivial, trivial⟩, trivial⟩⟩, trivial⟩⟩⟩⟩⟩, ⟨trivial, trivial⟩⟩⟩⟩⟩⟩)
    (Eq.mpr (by as_aux_lemma => kernel_rfl : evF prog f48 (s48_A Ψ) Ψ [(.str s)] h = s48 Ψ s h) H)

/- 50 dictum/dictumref03.From -/
def s50l1_R (F : AVal → AVal → Int → Heap → Prop) (l : List AVal) (h : Heap) : Prop := J.cons l fun x0 l => J.cons l fun x1 l => J.cons l fun v l => J.int .i64 v fun x2 => J.nil l (F x0 x1 x2 h)
def s50l1_G (F : AVal → AVal → Int → Heap → Prop) (x0 : AVal) (x1 : AVal) (x2 : Int) (h : Heap) : Prop := gJ [.any, .any, .int .i64] [x0, x1, (.int .i64 x2)] h (s50l1_R F)
def s50l1_E (F : Nat → AVal → AVal → Int → Heap → Prop) (x0 : AVal) (x1 : AVal) (x2 : Int) (h : Heap) : Prop := gJ [.any, .any, .int .i64] [x0, x1, (.int .i64 x2)] h (fun l h => ∃ n, s50l1_R (F n) l h)
theorem s50l1_go {F : AVal → AVal → Int → Heap → Prop} {x0 : AVal} {x1 : AVal} {x2 : Int} {h : Heap} (H : F x0 x1 x2 h) : s50l1_G F x0 x1 x2 h := gJ_plain rfl H
theorem s50l1_in {F : Nat → AVal → AVal → Int → Heap → Prop} {x0 : AVal} {x1 : AVal} {x2 : Int} {h : Heap} (n : Nat) (H : F n x0 x1 x2 h) : s50l1_E F x0 x1 x2 h := gJ_plain rfl ⟨n, H⟩

def s50l1 (Ψ : AVal → Heap → Prop) : Nat → AVal → AVal → Int → Heap → Prop
  | 0, _, _, _, _ => False
  | n + 1, rows1, t, i, h =>
    lenN rows1 fun n1 =>
    ifT (decide (i < n1)) (
      ixS 4 rows1 i fun p =>
      ldN 4 h p fun l_ =>
      tCons l_ fun v l_1 =>
      tInt .i64 v fun v1 =>
      tCons l_1 fun v2 l_2 =>
      tStr v2 fun v3 =>
      tCons l_2 fun v4 l_3 =>
      tInt .i64 v4 fun v5 =>
      tCons l_3 fun v6 l_4 =>
      tInt .i64 v6 fun v7 =>
      tNil l_4 (
        callG prog 78 [t, (.agg [(.int .i64 v1), (.str v3), (.int .i64 v5), (.int .i64 v7)])] h fun v8 h_1 =>
        tTup v8 fun l_5 =>
        tCons l_5 fun v9 l_6 =>
        tInt .i64 v9 fun v10 =>
        tCons l_6 fun v11 l_7 =>
        tInt .i64 v11 fun v12 =>
        tNil l_7 (
          ifT (v12 != 0) (
            retG (.tuple [.nilptr, (.int .i64 v12)]) h_1 Ψ) (
            ifT (v10 != i) (
              retG (.tuple [.nilptr, (.int .i64 31)]) h_1 Ψ) (
              rg (i + 1) (
                s50l1_G (s50l1 Ψ n) rows1 t (i + 1) h_1)))))) (
      retG (.tuple [t, (.int .i64 0)]) h Ψ)

def s50 (Ψ : AVal → Heap → Prop) (rows : AVal) (h : Heap) : Prop :=
  Sym.newRow 1 [(.agg [.nilsl])] h fun r h_ =>
  s50l1_E (s50l1 Ψ) rows (.ptr r 0 0) 0 h_

def s50_A (Ψ : AVal → Heap → Prop) : Ann :=
  .seq (.reg [⟨none, [(0, false), (1, false)]⟩])
  (.seq (.reg [⟨none, [(0, false), (1, false), (2, false)]⟩])
  (.seq (.seq (.reg [⟨none, [(0, false)]⟩])
  (.block (.loop [(0, .any), (4, .any), (5, .int .i64)] (fun n l h => s50l1_R (s50l1 Ψ n) l h) (fun L1 =>
  .seq (.seq (.reg [⟨none, [(0, false), (1, false), (2, false), (3, false)]⟩])
  (.cond (.leaf)
  (.leaf)))
  (.seq (.block (.seq (.reg [⟨none, [(0, false), (1, false), (2, false), (3, false), (4, false), (5, false), (6, false), (7, false), (8, false), (9, false), (10, false)]⟩])
  (.seq (.seq (.reg [⟨none, [(0, false), (1, false)]⟩])
  (.cond (.seq (.reg [⟨none, [(0, false), (1, false), (2, false)]⟩])
  (.leaf))
  (.leaf)))
  (.seq (.reg [⟨none, [(0, false), (1, false), (2, false)]⟩])
  (.cond (.seq (.reg [⟨none, [(0, false), (1, false)]⟩])
  (.leaf))
  (.leaf))))))
  (.reg [⟨none, [(0, false), (1, false), (2, false)]⟩]))))))
  (.seq (.reg [⟨none, [(0, false), (1, false), (2, false)]⟩])
  (.leaf))))

theorem s50_ok {Ψ : AVal → Heap → Prop} {rows : AVal} {h : Heap} (H : s50 Ψ rows h) : ACalls prog 50 [rows] h Ψ :=
  calls_of_evF func50 (by kernel_rfl) (by kernel_rfl) (by kernel_rfl)
    (Eq.mpr (by as_aux_lemma => kernel_rfl : oblF prog f50 (s50_A Ψ) Ψ = (True ∧ True ∧ (True ∧ (∀ (h : Heap) (x0 x1 : AVal) (x2 : Int), ON (s50l1 Ψ 0 x0 x1 x2 h)) ∧ ∀ n1 : Nat, (∀ (h : Heap) (x0 x1 : AVal) (x2 : Int), OI (s50l1 Ψ (n1 + 1) x0 x1 x2 h)) ∧ ((True ∧ True ∧ True) ∧ (True ∧ (True ∧ (True ∧ True) ∧ True) ∧ True ∧ (True ∧ True) ∧ True) ∧ True)) ∧ True ∧ True)) ⟨trivial, ⟨trivial, ⟨⟨trivial, ⟨fun _ _ _ _ H => H, fun _ => ⟨fun _ _ _ _ H => H, ⟨⟨trivial, ⟨trivial, trivial⟩⟩, ⟨⟨trivial, ⟨⟨trivial, ⟨⟨trivial, trivial⟩, trivial⟩⟩, ⟨trivial, ⟨⟨trivial, trivial⟩, trivial⟩⟩⟩⟩, trivial⟩⟩⟩⟩⟩, ⟨trivial, trivial⟩⟩⟩⟩)
    (Eq.mpr (by as_aux_lemma => kernel_rfl : evF prog f50 (s50_A Ψ) Ψ [rows] h = s50 Ψ rows h) H)

/- 52 dictum/morph.Bounded$1 -/
def s52 (Ψ : AVal → Heap → Prop) (w : Int) (c0 : AVal) (h : Heap) : Prop :=
  ifT (decide (w < 0)) (
    retG (.bool true) h Ψ) (
    ld1 h c0 fun v =>
    lenN v fun n =>
    retG (.bool (decide (n ≤ w))) h Ψ)

def s52_A (Ψ : AVal → Heap → Prop) : Ann :=
  .seq (.reg [⟨none, [(0, false)]⟩])
  (.seq (.reg [⟨none, [(0, false), (1, false), (2, false)]⟩, ⟨some (6, false), [(3, false), (4, false), (5, false), (6, false)]⟩, ⟨none, [(7, false), (8, false)]⟩])
  (.leaf))

theorem s52_ok {Ψ : AVal → Heap → Prop} {w : Int} {c0 : AVal} {h : Heap} (H : s52 Ψ w c0 h) : ACalls prog 52 [(.int .i64 w), c0] h Ψ :=
  calls_of_evF func52 (by kernel_rfl) (by kernel_rfl) (by kernel_rfl)
    (Eq.mpr (by as_aux_lemma => kernel_rfl : oblF prog f52 (s52_A Ψ) Ψ = (True ∧ True ∧ True)) ⟨trivial, ⟨trivial, trivial⟩⟩)
    (Eq.mpr (by as_aux_lemma => kernel_rfl : evF prog f52 (s52_A Ψ) Ψ [(.int .i64 w), c0] h = s52 Ψ w c0 h) H)

/- 54 slices.Contains[[]int,int] -/
def s54 (Ψ : AVal → Heap → Prop) (s : AVal) (v : Int) (h : Heap) : Prop :=
  callG prog 80 [s, (.int .i64 v)] h fun v1 h_ =>
  tInt .i64 v1 fun v2 =>
  retG (.bool (decide (0 ≤ v2))) h_ Ψ

def s54_A (Ψ : AVal → Heap → Prop) : Ann :=
  .seq (.reg [⟨none, [(0, false)]⟩])
  (.seq (.reg [⟨none, [(0, false), (1, false), (2, false), (3, false), (4, false)]⟩])
  (.leaf))

theorem s54_ok {Ψ : AVal → Heap → Prop} {s : AVal} {v : Int} {h : Heap} (H : s54 Ψ s v h) : ACalls prog 54 [s, (.int .i64 v)] h Ψ :=
  calls_of_evF func54 (by kernel_rfl) (by kernel_rfl) (by kernel_rfl)
    (Eq.mpr (by as_aux_lemma => kernel_rfl : oblF prog f54 (s54_A Ψ) Ψ = (True ∧ True ∧ True)) ⟨trivial, ⟨trivial, trivial⟩⟩)
    (Eq.mpr (by as_aux_lemma => kernel_rfl : evF prog f54 (s54_A Ψ) Ψ [s, (.int .i64 v)] h = s54 Ψ s v h) H)

/- 56 dictum/dictumlaw19.Forced -/
def s56l1_R (F : AVal → AVal → AVal → AVal → Int → Heap → Prop) (l : List AVal) (h : Heap) : Prop := J.cons l fun x0 l => J.cons l fun x1 l => J.cons l fun x2 l => J.cons l fun x3 l => J.cons l fun v l => J.int .i64 v fun x4 => J.nil l (F x0 x1 x2 x3 x4 h)
def s56l1_G (F : AVal → AVal → AVal → AVal → Int → Heap → Prop) (x0 : AVal) (x1 : AVal) (x2 : AVal) (x3 : AVal) (x4 : Int) (h : Heap) : Prop := gJ [.any, .any, .any, .any, .int .i64] [x0, x1, x2, x3, (.int .i64 x4)] h (s56l1_R F)
def s56l1_E (F : Nat → AVal → AVal → AVal → AVal → Int → Heap → Prop) (x0 : AVal) (x1 : AVal) (x2 : AVal) (x3 : AVal) (x4 : Int) (h : Heap) : Prop := gJ [.any, .any, .any, .any, .int .i64] [x0, x1, x2, x3, (.int .i64 x4)] h (fun l h => ∃ n, s56l1_R (F n) l h)
theorem s56l1_go {F : AVal → AVal → AVal → AVal → Int → Heap → Prop} {x0 : AVal} {x1 : AVal} {x2 : AVal} {x3 : AVal} {x4 : Int} {h : Heap} (H : F x0 x1 x2 x3 x4 h) : s56l1_G F x0 x1 x2 x3 x4 h := gJ_plain rfl H
theorem s56l1_in {F : Nat → AVal → AVal → AVal → AVal → Int → Heap → Prop} {x0 : AVal} {x1 : AVal} {x2 : AVal} {x3 : AVal} {x4 : Int} {h : Heap} (n : Nat) (H : F n x0 x1 x2 x3 x4 h) : s56l1_E F x0 x1 x2 x3 x4 h := gJ_plain rfl ⟨n, H⟩

def s56l2_R (F : AVal → AVal → AVal → AVal → Int → AVal → Int → Heap → Prop) (l : List AVal) (h : Heap) : Prop := J.cons l fun x0 l => J.cons l fun x1 l => J.cons l fun x2 l => J.cons l fun x3 l => J.cons l fun v l => J.int .i64 v fun x4 => J.cons l fun x5 l => J.cons l fun v l => J.int .i64 v fun x6 => J.nil l (F x0 x1 x2 x3 x4 x5 x6 h)
def s56l2_G (F : AVal → AVal → AVal → AVal → Int → AVal → Int → Heap → Prop) (x0 : AVal) (x1 : AVal) (x2 : AVal) (x3 : AVal) (x4 : Int) (x5 : AVal) (x6 : Int) (h : Heap) : Prop := gJ [.any, .any, .any, .any, .int .i64, .any, .int .i64] [x0, x1, x2, x3, (.int .i64 x4), x5, (.int .i64 x6)] h (s56l2_R F)
def s56l2_E (F : Nat → AVal → AVal → AVal → AVal → Int → AVal → Int → Heap → Prop) (x0 : AVal) (x1 : AVal) (x2 : AVal) (x3 : AVal) (x4 : Int) (x5 : AVal) (x6 : Int) (h : Heap) : Prop := gJ [.any, .any, .any, .any, .int .i64, .any, .int .i64] [x0, x1, x2, x3, (.int .i64 x4), x5, (.int .i64 x6)] h (fun l h => ∃ n, s56l2_R (F n) l h)
theorem s56l2_go {F : AVal → AVal → AVal → AVal → Int → AVal → Int → Heap → Prop} {x0 : AVal} {x1 : AVal} {x2 : AVal} {x3 : AVal} {x4 : Int} {x5 : AVal} {x6 : Int} {h : Heap} (H : F x0 x1 x2 x3 x4 x5 x6 h) : s56l2_G F x0 x1 x2 x3 x4 x5 x6 h := gJ_plain rfl H
theorem s56l2_in {F : Nat → AVal → AVal → AVal → AVal → Int → AVal → Int → Heap → Prop} {x0 : AVal} {x1 : AVal} {x2 : AVal} {x3 : AVal} {x4 : Int} {x5 : AVal} {x6 : Int} {h : Heap} (n : Nat) (H : F n x0 x1 x2 x3 x4 x5 x6 h) : s56l2_E F x0 x1 x2 x3 x4 x5 x6 h := gJ_plain rfl ⟨n, H⟩

def s56c3 (Ψ : AVal → Heap → Prop) (L1 : AVal → AVal → AVal → AVal → Int → Heap → Prop) (L2 : AVal → AVal → AVal → AVal → Int → AVal → Int → Heap → Prop) (o3 : AVal) (rows3 : AVal) (m2 : AVal) (out2 : AVal) (i2 : Int) (x1 : AVal) (a1 : Int) (h : Heap) : Prop :=
  rg (a1 + 1) (
    L2 o3 rows3 m2 out2 i2 x1 (a1 + 1) h)

def s56l4_R (F : AVal → AVal → AVal → AVal → Int → AVal → Int → Int → Heap → Prop) (l : List AVal) (h : Heap) : Prop := J.cons l fun x0 l => J.cons l fun x1 l => J.cons l fun x2 l => J.cons l fun x3 l => J.cons l fun v l => J.int .i64 v fun x4 => J.cons l fun x5 l => J.cons l fun v l => J.int .i64 v fun x6 => J.cons l fun v l => J.int .i64 v fun x7 => J.nil l (F x0 x1 x2 x3 x4 x5 x6 x7 h)
def s56l4_G (F : AVal → AVal → AVal → AVal → Int → AVal → Int → Int → Heap → Prop) (x0 : AVal) (x1 : AVal) (x2 : AVal) (x3 : AVal) (x4 : Int) (x5 : AVal) (x6 : Int) (x7 : Int) (h : Heap) : Prop := gJ [.any, .any, .any, .any, .int .i64, .any, .int .i64, .int .i64] [x0, x1, x2, x3, (.int .i64 x4), x5, (.int .i64 x6), (.int .i64 x7)] h (s56l4_R F)
def s56l4_E (F : Nat → AVal → AVal → AVal → AVal → Int → AVal → Int → Int → Heap → Prop) (x0 : AVal) (x1 : AVal) (x2 : AVal) (x3 : AVal) (x4 : Int) (x5 : AVal) (x6 : Int) (x7 : Int) (h : Heap) : Prop := gJ [.any, .any, .any, .any, .int .i64, .any, .int .i64, .int .i64] [x0, x1, x2, x3, (.int .i64 x4), x5, (.int .i64 x6), (.int .i64 x7)] h (fun l h => ∃ n, s56l4_R (F n) l h)
theorem s56l4_go {F : AVal → AVal → AVal → AVal → Int → AVal → Int → Int → Heap → Prop} {x0 : AVal} {x1 : AVal} {x2 : AVal} {x3 : AVal} {x4 : Int} {x5 : AVal} {x6 : Int} {x7 : Int} {h : Heap} (H : F x0 x1 x2 x3 x4 x5 x6 x7 h) : s56l4_G F x0 x1 x2 x3 x4 x5 x6 x7 h := gJ_plain rfl H
theorem s56l4_in {F : Nat → AVal → AVal → AVal → AVal → Int → AVal → Int → Int → Heap → Prop} {x0 : AVal} {x1 : AVal} {x2 : AVal} {x3 : AVal} {x4 : Int} {x5 : AVal} {x6 : Int} {x7 : Int} {h : Heap} (n : Nat) (H : F n x0 x1 x2 x3 x4 x5 x6 x7 h) : s56l4_E F x0 x1 x2 x3 x4 x5 x6 x7 h := gJ_plain rfl ⟨n, H⟩

def s56c5 (Ψ : AVal → Heap → Prop) (L1 : AVal → AVal → AVal → AVal → Int → Heap → Prop) (L2 : AVal → AVal → AVal → AVal → Int → AVal → Int → Heap → Prop) (L4 : AVal → AVal → AVal → AVal → Int → AVal → Int → Int → Heap → Prop) (o5 : AVal) (rows5 : AVal) (m4 : AVal) (out4 : AVal) (i4 : Int) (x3 : AVal) (a3 : Int) (k1 : Int) (h : Heap) : Prop :=
  rg (k1 + 1) (
    L4 o5 rows5 m4 out4 i4 x3 a3 (k1 + 1) h)

def s56l4 (Ψ : AVal → Heap → Prop) (L1 : AVal → AVal → AVal → AVal → Int → Heap → Prop) (L2 : AVal → AVal → AVal → AVal → Int → AVal → Int → Heap → Prop) : Nat → AVal → AVal → AVal → AVal → Int → AVal → Int → Int → Heap → Prop
  | 0, _, _, _, _, _, _, _, _, _ => False
  | n6 + 1, o4, rows4, m3, out3, i3, x2, a2, k, h =>
    addOff m3 1 fun p3 =>
    ld1 h p3 fun v12 =>
    ixS 1 v12 a2 fun p4 =>
    ld1 h p4 fun v13 =>
    lenN v13 fun n7 =>
    ifT (decide (k < n7)) (
      ixS 1 out3 i3 fun p5 =>
      ld1 h p5 fun v14 =>
      ixS 1 out3 i3 fun p6 =>
      ld1 h p6 fun v15 =>
      ixS 1 v15 a2 fun p7 =>
      ld1 h p7 fun v16 =>
      tBool v16 fun v17 =>
      ifT v17 (
        ixS 1 v14 a2 fun p13 =>
        st true h p13 [(.bool true)] fun h_6 =>
        s56c5 Ψ L1 L2 (s56l4_G (s56l4 Ψ L1 L2 n6)) o4 rows4 m3 out3 i3 x2 a2 k h_6) (
        addOff m3 1 fun p8 =>
        ld1 h p8 fun v18 =>
        ixS 1 v18 a2 fun p9 =>
        ld1 h p9 fun v19 =>
        ixS 1 v19 k fun p10 =>
        ld1 h p10 fun v20 =>
        tStr v20 fun v21 =>
        addOff x2 1 fun p11 =>
        ld1 h p11 fun v22 =>
        tStr v22 fun v23 =>
        ixS 1 v14 a2 fun p12 =>
        st true h p12 [(.bool (strEq v21 v23))] fun h_5 =>
        s56c5 Ψ L1 L2 (s56l4_G (s56l4 Ψ L1 L2 n6)) o4 rows4 m3 out3 i3 x2 a2 k h_5)) (
      s56c3 Ψ L1 L2 o4 rows4 m3 out3 i3 x2 a2 h)

def s56l6_R (F : AVal → AVal → AVal → AVal → Int → AVal → Int → Int → Heap → Prop) (l : List AVal) (h : Heap) : Prop := J.cons l fun x0 l => J.cons l fun x1 l => J.cons l fun x2 l => J.cons l fun x3 l => J.cons l fun v l => J.int .i64 v fun x4 => J.cons l fun x5 l => J.cons l fun v l => J.int .i64 v fun x6 => J.cons l fun v l => J.int .i64 v fun x7 => J.nil l (F x0 x1 x2 x3 x4 x5 x6 x7 h)
def s56l6_G (F : AVal → AVal → AVal → AVal → Int → AVal → Int → Int → Heap → Prop) (x0 : AVal) (x1 : AVal) (x2 : AVal) (x3 : AVal) (x4 : Int) (x5 : AVal) (x6 : Int) (x7 : Int) (h : Heap) : Prop := gJ [.any, .any, .any, .any, .int .i64, .any, .int .i64, .int .i64] [x0, x1, x2, x3, (.int .i64 x4), x5, (.int .i64 x6), (.int .i64 x7)] h (s56l6_R F)
def s56l6_E (F : Nat → AVal → AVal → AVal → AVal → Int → AVal → Int → Int → Heap → Prop) (x0 : AVal) (x1 : AVal) (x2 : AVal) (x3 : AVal) (x4 : Int) (x5 : AVal) (x6 : Int) (x7 : Int) (h : Heap) : Prop := gJ [.any, .any, .any, .any, .int .i64, .any, .int .i64, .int .i64] [x0, x1, x2, x3, (.int .i64 x4), x5, (.int .i64 x6), (.int .i64 x7)] h (fun l h => ∃ n, s56l6_R (F n) l h)
theorem s56l6_go {F : AVal → AVal → AVal → AVal → Int → AVal → Int → Int → Heap → Prop} {x0 : AVal} {x1 : AVal} {x2 : AVal} {x3 : AVal} {x4 : Int} {x5 : AVal} {x6 : Int} {x7 : Int} {h : Heap} (H : F x0 x1 x2 x3 x4 x5 x6 x7 h) : s56l6_G F x0 x1 x2 x3 x4 x5 x6 x7 h := gJ_plain rfl H
theorem s56l6_in {F : Nat → AVal → AVal → AVal → AVal → Int → AVal → Int → Int → Heap → Prop} {x0 : AVal} {x1 : AVal} {x2 : AVal} {x3 : AVal} {x4 : Int} {x5 : AVal} {x6 : Int} {x7 : Int} {h : Heap} (n : Nat) (H : F n x0 x1 x2 x3 x4 x5 x6 x7 h) : s56l6_E F x0 x1 x2 x3 x4 x5 x6 x7 h := gJ_plain rfl ⟨n, H⟩

def s56c7 (Ψ : AVal → Heap → Prop) (L1 : AVal → AVal → AVal → AVal → Int → Heap → Prop) (L2 : AVal → AVal → AVal → AVal → Int → AVal → Int → Heap → Prop) (L6 : AVal → AVal → AVal → AVal → Int → AVal → Int → Int → Heap → Prop) (o7 : AVal) (rows7 : AVal) (m6 : AVal) (out6 : AVal) (i6 : Int) (x5 : AVal) (a5 : Int) (b1 : Int) (h : Heap) : Prop :=
  rg (b1 + 1) (
    L6 o7 rows7 m6 out6 i6 x5 a5 (b1 + 1) h)

def s56c8 (Ψ : AVal → Heap → Prop) (L1 : AVal → AVal → AVal → AVal → Int → Heap → Prop) (L2 : AVal → AVal → AVal → AVal → Int → AVal → Int → Heap → Prop) (L6 : AVal → AVal → AVal → AVal → Int → AVal → Int → Int → Heap → Prop) (o8 : AVal) (rows8 : AVal) (m7 : AVal) (out7 : AVal) (i7 : Int) (x6 : AVal) (a6 : Int) (b2 : Int) (t171 : Bool) (h : Heap) : Prop :=
  ifT t171 (
    ixS 1 out7 i7 fun p34 =>
    ld1 h p34 fun v47 =>
    ixS 1 v47 a6 fun p35 =>
    st true h p35 [(.bool false)] fun h_12 =>
    s56c7 Ψ L1 L2 L6 o8 rows8 m7 out7 i7 x6 a6 b2 h_12) (
    s56c7 Ψ L1 L2 L6 o8 rows8 m7 out7 i7 x6 a6 b2 h)

def s56l6 (Ψ : AVal → Heap → Prop) (L1 : AVal → AVal → AVal → AVal → Int → Heap → Prop) (L2 : AVal → AVal → AVal → AVal → Int → AVal → Int → Heap → Prop) : Nat → AVal → AVal → AVal → AVal → Int → AVal → Int → Int → Heap → Prop
  | 0, _, _, _, _, _, _, _, _, _ => False
  | n9 + 1, o6, rows6, m5, out5, i5, x4, a4, b, h =>
    lenN o6 fun n10 =>
    ifT (decide (b < n10)) (
      ixS 1 o6 a4 fun p36 =>
      ld1 h p36 fun v48 =>
      ixS 1 v48 b fun p37 =>
      ld1 h p37 fun v49 =>
      tBool v49 fun v50 =>
      ifT v50 (
        addOff x4 2 fun p38 =>
        ld1 h p38 fun v51 =>
        tInt .i64 v51 fun v52 =>
        ixS 1 out5 v52 fun p39 =>
        ld1 h p39 fun v53 =>
        ixS 1 v53 b fun p40 =>
        ld1 h p40 fun v54 =>
        tBool v54 fun v55 =>
        ifT v55 (
          addOff x4 3 fun p41 =>
          ld1 h p41 fun v56 =>
          tInt .i64 v56 fun v57 =>
          ixS 1 out5 v57 fun p42 =>
          ld1 h p42 fun v58 =>
          ixS 1 v58 b fun p43 =>
          ld1 h p43 fun v59 =>
          tBool v59 fun v60 =>
          s56c8 Ψ L1 L2 (s56l6_G (s56l6 Ψ L1 L2 n9)) o6 rows6 m5 out5 i5 x4 a4 b (!v60) h) (
          s56c8 Ψ L1 L2 (s56l6_G (s56l6 Ψ L1 L2 n9)) o6 rows6 m5 out5 i5 x4 a4 b false h)) (
        s56c8 Ψ L1 L2 (s56l6_G (s56l6 Ψ L1 L2 n9)) o6 rows6 m5 out5 i5 x4 a4 b false h)) (
      s56c3 Ψ L1 L2 o6 rows6 m5 out5 i5 x4 a4 h)

def s56l2 (Ψ : AVal → Heap → Prop) (L1 : AVal → AVal → AVal → AVal → Int → Heap → Prop) : Nat → AVal → AVal → AVal → AVal → Int → AVal → Int → Heap → Prop
  | 0, _, _, _, _, _, _, _, _ => False
  | n4 + 1, o2, rows2, m1, out1, i1, x, a, h =>
    lenN o2 fun n5 =>
    ifT (decide (a < n5)) (
      addOff x 0 fun p2 =>
      ld1 h p2 fun v10 =>
      tInt .i64 v10 fun v11 =>
      ifT (v11 == 1) (
        s56l4_E (s56l4 Ψ L1 (s56l2_G (s56l2 Ψ L1 n4))) o2 rows2 m1 out1 i1 x a 0 h) (
        ifT (v11 == 3) (
          ixS 1 out1 i1 fun p14 =>
          ld1 h p14 fun v24 =>
          addOff x 2 fun p15 =>
          ld1 h p15 fun v25 =>
          tInt .i64 v25 fun v26 =>
          ixS 1 out1 v26 fun p16 =>
          ld1 h p16 fun v27 =>
          ixS 1 v27 a fun p17 =>
          ld1 h p17 fun v28 =>
          tBool v28 fun v29 =>
          ifT v29 (
            addOff x 3 fun p18 =>
            ld1 h p18 fun v30 =>
            tInt .i64 v30 fun v31 =>
            ixS 1 out1 v31 fun p19 =>
            ld1 h p19 fun v32 =>
            ixS 1 v32 a fun p20 =>
            ld1 h p20 fun v33 =>
            tBool v33 fun v34 =>
            ixS 1 v24 a fun p21 =>
            st true h p21 [(.bool v34)] fun h_7 =>
            s56c3 Ψ L1 (s56l2_G (s56l2 Ψ L1 n4)) o2 rows2 m1 out1 i1 x a h_7) (
            ixS 1 v24 a fun p22 =>
            st true h p22 [(.bool false)] fun h_8 =>
            s56c3 Ψ L1 (s56l2_G (s56l2 Ψ L1 n4)) o2 rows2 m1 out1 i1 x a h_8)) (
          ifT (v11 == 4) (
            ixS 1 out1 i1 fun p23 =>
            ld1 h p23 fun v35 =>
            addOff x 2 fun p24 =>
            ld1 h p24 fun v36 =>
            tInt .i64 v36 fun v37 =>
            ixS 1 out1 v37 fun p25 =>
            ld1 h p25 fun v38 =>
            ixS 1 v38 a fun p26 =>
            ld1 h p26 fun v39 =>
            tBool v39 fun v40 =>
            ifT v40 (
              ixS 1 v35 a fun p31 =>
              st true h p31 [(.bool true)] fun h_10 =>
              s56c3 Ψ L1 (s56l2_G (s56l2 Ψ L1 n4)) o2 rows2 m1 out1 i1 x a h_10) (
              addOff x 3 fun p27 =>
              ld1 h p27 fun v41 =>
              tInt .i64 v41 fun v42 =>
              ixS 1 out1 v42 fun p28 =>
              ld1 h p28 fun v43 =>
              ixS 1 v43 a fun p29 =>
              ld1 h p29 fun v44 =>
              tBool v44 fun v45 =>
              ixS 1 v35 a fun p30 =>
              st true h p30 [(.bool v45)] fun h_9 =>
              s56c3 Ψ L1 (s56l2_G (s56l2 Ψ L1 n4)) o2 rows2 m1 out1 i1 x a h_9)) (
            ifT (v11 == 5) (
              ixS 1 out1 i1 fun p32 =>
              ld1 h p32 fun v46 =>
              ixS 1 v46 a fun p33 =>
              st true h p33 [(.bool true)] fun h_11 =>
              s56l6_E (s56l6 Ψ L1 (s56l2_G (s56l2 Ψ L1 n4))) o2 rows2 m1 out1 i1 x a 0 h_11) (
              s56c3 Ψ L1 (s56l2_G (s56l2 Ψ L1 n4)) o2 rows2 m1 out1 i1 x a h))))) (
      rg (i1 + 1) (
        L1 o2 rows2 m1 out1 (i1 + 1) h))

def s56l1 (Ψ : AVal → Heap → Prop) : Nat → AVal → AVal → AVal → AVal → Int → Heap → Prop
  | 0, _, _, _, _, _, _ => False
  | n1 + 1, o1, rows1, m, out, i, h =>
    lenN rows1 fun n2 =>
    ifT (decide (i < n2)) (
      ixS 4 rows1 i fun p =>
      ldN 4 h p fun l_ =>
      tCons l_ fun v1 l_1 =>
      tInt .i64 v1 fun v2 =>
      tCons l_1 fun v3 l_2 =>
      tStr v3 fun v4 =>
      tCons l_2 fun v5 l_3 =>
      tInt .i64 v5 fun v6 =>
      tCons l_3 fun v7 l_4 =>
      tInt .i64 v7 fun v8 =>
      tNil l_4 (
        Sym.newRow 4 [(.agg [(.int .i64 0), (.str (ByteArray.mk #[])), (.int .i64 0), (.int .i64 0)])] h fun r h_1 =>
        st false h_1 (.ptr r 0 0) [(.int .i64 v2), (.str v4), (.int .i64 v6), (.int .i64 v8)] fun h_2 =>
        lenN o1 fun n3 =>
        mkS false 1 1 (.bool false) h_2 n3 n3 fun v9 h_3 =>
        ixS 1 out i fun p1 =>
        chk (sc v9) (
          st true h_3 p1 [v9] fun h_4 =>
          s56l2_E (s56l2 Ψ (s56l1_G (s56l1 Ψ n1))) o1 rows1 m out i (.ptr r 0 0) 0 h_4))) (
      retG out h Ψ)

def s56 (Ψ : AVal → Heap → Prop) (m_Up : AVal) (m_Val : AVal) (o : AVal) (rows : AVal) (h : Heap) : Prop :=
  lenN rows fun n =>
  mkS false 1 24 .nilsl h n n fun v h_ =>
  s56l1_E (s56l1 Ψ) o rows (.lptr [m_Up, m_Val]) v 0 h_

def s56_A (Ψ : AVal → Heap → Prop) : Ann :=
  .seq (.reg [⟨none, [(0, true), (1, false)]⟩])
  (.seq (.reg [⟨none, [(0, false), (1, false), (2, false), (3, false)]⟩])
  (.seq (.seq (.reg [⟨none, [(0, false)]⟩])
  (.block (.loop [(1, .any), (2, .any), (3, .any), (7, .any), (8, .int .i64)] (fun n l h => s56l1_R (s56l1 Ψ n) l h) (fun L1 =>
  .seq (.seq (.reg [⟨none, [(0, false), (1, false), (2, false), (3, false)]⟩])
  (.cond (.leaf)
  (.leaf)))
  (.seq (.block (.seq (.reg [⟨none, [(0, false), (1, false), (2, false), (3, false), (4, false), (5, false)]⟩])
  (.seq (.reg [⟨none, [(0, false), (1, false), (2, false), (3, false), (4, false), (5, false), (6, false)]⟩])
  (.seq (.reg [⟨none, [(0, false)]⟩])
  (.block (.loop [(1, .any), (2, .any), (3, .any), (7, .any), (8, .int .i64), (9, .any), (10, .int .i64)] (fun n l h => s56l2_R (s56l2 Ψ (fun y0 y1 y2 y3 y4 h => L1 [y0, y1, y2, y3, (.int .i64 y4)] h) n) l h) (fun L2 =>
  .seq (.seq (.reg [⟨none, [(0, false), (1, false), (2, false), (3, false)]⟩])
  (.cond (.leaf)
  (.leaf)))
  (.cut [(1, .any), (2, .any), (3, .any), (7, .any), (8, .int .i64), (9, .any), (10, .int .i64)] (fun l h => J.cons l fun x0 l => J.cons l fun x1 l => J.cons l fun x2 l => J.cons l fun x3 l => J.cons l fun v l => J.int .i64 v fun x4 => J.cons l fun x5 l => J.cons l fun v l => J.int .i64 v fun x6 => J.nil l (s56c3 Ψ (fun y0 y1 y2 y3 y4 h => L1 [y0, y1, y2, y3, (.int .i64 y4)] h) (fun y0 y1 y2 y3 y4 y5 y6 h => L2 [y0, y1, y2, y3, (.int .i64 y4), y5, (.int .i64 y6)] h) x0 x1 x2 x3 x4 x5 x6 h)) (.block (.seq (.reg [⟨none, [(0, false), (1, false)]⟩])
  (.block (.seq (.reg [⟨none, [(0, false), (1, false)]⟩])
  (.cond (.seq (.reg [⟨none, [(0, false)]⟩])
  (.block (.loop [(1, .any), (2, .any), (3, .any), (7, .any), (8, .int .i64), (9, .any), (10, .int .i64), (11, .int .i64)] (fun n l h => s56l4_R (s56l4 Ψ (fun y0 y1 y2 y3 y4 h => L1 [y0, y1, y2, y3, (.int .i64 y4)] h) (fun y0 y1 y2 y3 y4 y5 y6 h => L2 [y0, y1, y2, y3, (.int .i64 y4), y5, (.int .i64 y6)] h) n) l h) (fun L4 =>
  .seq (.seq (.reg [⟨none, [(0, false), (1, false), (2, false), (3, false), (4, false), (5, false), (6, false), (7, false)]⟩])
  (.cond (.leaf)
  (.leaf)))
  (.cut [(1, .any), (2, .any), (3, .any), (7, .any), (8, .int .i64), (9, .any), (10, .int .i64), (11, .int .i64)] (fun l h => J.cons l fun x0 l => J.cons l fun x1 l => J.cons l fun x2 l => J.cons l fun x3 l => J.cons l fun v l => J.int .i64 v fun x4 => J.cons l fun x5 l => J.cons l fun v l => J.int .i64 v fun x6 => J.cons l fun v l => J.int .i64 v fun x7 => J.nil l (s56c5 Ψ (fun y0 y1 y2 y3 y4 h => L1 [y0, y1, y2, y3, (.int .i64 y4)] h) (fun y0 y1 y2 y3 y4 y5 y6 h => L2 [y0, y1, y2, y3, (.int .i64 y4), y5, (.int .i64 y6)] h) (fun y0 y1 y2 y3 y4 y5 y6 y7 h => L4 [y0, y1, y2, y3, (.int .i64 y4), y5, (.int .i64 y6), (.int .i64 y7)] h) x0 x1 x2 x3 x4 x5 x6 x7 h)) (.block (.draw [(0, false), (1, false), (2, false), (3, false), (4, false), (5, false), (6, false), (7, false), (8, false), (9, false), (10, false), (11, false), (12, false), (13, false), (14, false), (15, false), (16, false), (17, false), (18, false), (19, false), (20, false), (21, false), (22, false), (23, false), (24, false), (25, false), (26, false)] [0, 0, 3, 7, 0, 0, 0, 96, 224, 0, 992, 2016, 4064, 8160, 16352, 8160, 65504, 131040, 8160, 524256, 1048544, 8160, 2105312, 8388576, 16777184, 33554431, 67108863]))
  (.reg [⟨none, [(0, false), (1, false), (2, false)]⟩]))))))
  (.seq (.reg [⟨none, [(0, false), (1, false)]⟩])
  (.cond (.draw [(0, false), (1, false), (2, false), (3, false), (4, false), (5, false), (6, false), (7, false), (8, false), (9, false), (10, false), (11, false), (12, false), (13, false), (14, false), (15, false), (16, false), (17, false), (18, false), (19, false), (20, false), (21, false), (22, false), (23, false), (24, false)] [0, 0, 3, 7, 0, 0, 0, 64, 224, 480, 0, 2016, 4064, 8160, 16352, 16352, 49120, 131040, 262112, 16352, 1048544, 2097120, 4194272, 8388607, 16777215])
  (.seq (.reg [⟨none, [(0, false), (1, false)]⟩])
  (.cond (.draw [(0, false), (1, false), (2, false), (3, false), (4, false), (5, false), (6, false), (7, false), (8, false), (9, false), (10, false), (11, false), (12, false), (13, false), (14, false), (15, false), (16, false), (17, false), (18, false), (19, false), (20, false), (21, false), (22, false), (23, false), (24, false)] [0, 0, 3, 7, 0, 0, 0, 64, 224, 480, 0, 2016, 4064, 8160, 16352, 16352, 49120, 131040, 262112, 16352, 1048544, 2097120, 4194272, 8388607, 16777215])
  (.seq (.reg [⟨none, [(0, false), (1, false)]⟩])
  (.cond (.seq (.reg [⟨none, [(0, false), (1, false), (2, false), (3, false), (4, false), (5, false), (6, false)]⟩])
  (.seq (.reg [⟨none, [(0, false)]⟩])
  (.block (.loop [(1, .any), (2, .any), (3, .any), (7, .any), (8, .int .i64), (9, .any), (10, .int .i64), (12, .int .i64)] (fun n l h => s56l6_R (s56l6 Ψ (fun y0 y1 y2 y3 y4 h => L1 [y0, y1, y2, y3, (.int .i64 y4)] h) (fun y0 y1 y2 y3 y4 y5 y6 h => L2 [y0, y1, y2, y3, (.int .i64 y4), y5, (.int .i64 y6)] h) n) l h) (fun L6 =>
  .seq (.seq (.reg [⟨none, [(0, false), (1, false), (2, false), (3, false)]⟩])
  (.cond (.leaf)
  (.leaf)))
  (.cut [(1, .any), (2, .any), (3, .any), (7, .any), (8, .int .i64), (9, .any), (10, .int .i64), (12, .int .i64)] (fun l h => J.cons l fun x0 l => J.cons l fun x1 l => J.cons l fun x2 l => J.cons l fun x3 l => J.cons l fun v l => J.int .i64 v fun x4 => J.cons l fun x5 l => J.cons l fun v l => J.int .i64 v fun x6 => J.cons l fun v l => J.int .i64 v fun x7 => J.nil l (s56c7 Ψ (fun y0 y1 y2 y3 y4 h => L1 [y0, y1, y2, y3, (.int .i64 y4)] h) (fun y0 y1 y2 y3 y4 y5 y6 h => L2 [y0, y1, y2, y3, (.int .i64 y4), y5, (.int .i64 y6)] h) (fun y0 y1 y2 y3 y4 y5 y6 y7 h => L6 [y0, y1, y2, y3, (.int .i64 y4), y5, (.int .i64 y6), (.int .i64 y7)] h) x0 x1 x2 x3 x4 x5 x6 x7 h)) (.block (.cut [(1, .any), (2, .any), (3, .any), (7, .any), (8, .int .i64), (9, .any), (10, .int .i64), (12, .int .i64), (171, .bool)] (fun l h => J.cons l fun x0 l => J.cons l fun x1 l => J.cons l fun x2 l => J.cons l fun x3 l => J.cons l fun v l => J.int .i64 v fun x4 => J.cons l fun x5 l => J.cons l fun v l => J.int .i64 v fun x6 => J.cons l fun v l => J.int .i64 v fun x7 => J.cons l fun v l => J.bool v fun x8 => J.nil l (s56c8 Ψ (fun y0 y1 y2 y3 y4 h => L1 [y0, y1, y2, y3, (.int .i64 y4)] h) (fun y0 y1 y2 y3 y4 y5 y6 h => L2 [y0, y1, y2, y3, (.int .i64 y4), y5, (.int .i64 y6)] h) (fun y0 y1 y2 y3 y4 y5 y6 y7 h => L6 [y0, y1, y2, y3, (.int .i64 y4), y5, (.int .i64 y6), (.int .i64 y7)] h) x0 x1 x2 x3 x4 x5 x6 x7 x8 h)) (.reg [⟨none, [(0, false), (1, false), (2, false), (3, false), (4, false), (5, false), (6, false), (7, false)]⟩, ⟨some (151, true), [(8, false), (9, false), (10, false), (11, false), (12, false), (13, false), (14, false), (15, false)]⟩, ⟨none, [(16, false), (17, false)]⟩, ⟨some (161, true), [(18, false), (19, false), (20, false), (21, false), (22, false), (23, false), (24, false), (25, false), (26, false)]⟩, ⟨none, [(27, false)]⟩])
  (.cond (.reg [⟨none, [(0, false), (1, false), (2, false), (3, false), (4, false), (5, false), (6, false)]⟩])
  (.leaf))))
  (.reg [⟨none, [(0, false), (1, false), (2, false)]⟩])))))))
  (.leaf))))))))))))
  (.reg [⟨none, [(0, false), (1, false), (2, false)]⟩])))))))))
  (.reg [⟨none, [(0, false), (1, false), (2, false)]⟩]))))))
  (.seq (.reg [⟨none, [(0, false), (1, false)]⟩])
  (.leaf))))

theorem s56_ok {Ψ : AVal → Heap → Prop} {m_Up : AVal} {m_Val : AVal} {o : AVal} {rows : AVal} {h : Heap} (H : s56 Ψ m_Up m_Val o rows h) : ACalls prog 56 [(.agg [m_Up, m_Val]), o, rows] h Ψ :=
  calls_of_evF func56 (by kernel_rfl) (by kernel_rfl) (by kernel_rfl)
    (Eq.mpr (by as_aux_lemma => kernel_rfl : oblF prog f56 (s56_A Ψ) Ψ = (True ∧ True ∧ (True ∧ (∀ (h : Heap) (x0 x1 x2 x3 : AVal) (x4 : Int), ON (s56l1 Ψ 0 x0 x1 x2 x3 x4 h)) ∧ ∀ n1 : Nat, (∀ (h : Heap) (x0 x1 x2 x3 : AVal) (x4 : Int), OI (s56l1 Ψ (n1 + 1) x0 x1 x2 x3 x4 h)) ∧ ((True ∧ True ∧ True) ∧ (True ∧ True ∧ True ∧ (∀ (h : Heap) (x0 x1 x2 x3 : AVal) (x4 : Int) (x5 : AVal) (x6 : Int), ON (s56l2 Ψ (s56l1_G (s56l1 Ψ n1)) 0 x0 x1 x2 x3 x4 x5 x6 h)) ∧ ∀ n2 : Nat, (∀ (h : Heap) (x0 x1 x2 x3 : AVal) (x4 : Int) (x5 : AVal) (x6 : Int), OI (s56l2 Ψ (s56l1_G (s56l1 Ψ n1)) (n2 + 1) x0 x1 x2 x3 x4 x5 x6 h)) ∧ ((True ∧ True ∧ True) ∧ (True ∧ True ∧ (True ∧ (∀ (h : Heap) (x0 x1 x2 x3 : AVal) (x4 : Int) (x5 : AVal) (x6 x7 : Int), ON (s56l4 Ψ (s56l1_G (s56l1 Ψ n1)) (s56l2_G (s56l2 Ψ (s56l1_G (s56l1 Ψ n1)) n2)) 0 x0 x1 x2 x3 x4 x5 x6 x7 h)) ∧ ∀ n4 : Nat, (∀ (h : Heap) (x0 x1 x2 x3 : AVal) (x4 : Int) (x5 : AVal) (x6 x7 : Int), OI (s56l4 Ψ (s56l1_G (s56l1 Ψ n1)) (s56l2_G (s56l2 Ψ (s56l1_G (s56l1 Ψ n1)) n2)) (n4 + 1) x0 x1 x2 x3 x4 x5 x6 x7 h)) ∧ ((True ∧ True ∧ True) ∧ (True) ∧ (∀ (h : Heap) (x0 x1 x2 x3 : AVal) (x4 : Int) (x5 : AVal) (x6 x7 : Int), OI (s56c5 Ψ (s56l1_G (s56l1 Ψ n1)) (s56l2_G (s56l2 Ψ (s56l1_G (s56l1 Ψ n1)) n2)) (s56l4_G (s56l4 Ψ (s56l1_G (s56l1 Ψ n1)) (s56l2_G (s56l2 Ψ (s56l1_G (s56l1 Ψ n1)) n2)) n4)) x0 x1 x2 x3 x4 x5 x6 x7 h)) ∧ (True))) ∧ True ∧ True ∧ True ∧ True ∧ True ∧ (True ∧ True ∧ (∀ (h : Heap) (x0 x1 x2 x3 : AVal) (x4 : Int) (x5 : AVal) (x6 x7 : Int), ON (s56l6 Ψ (s56l1_G (s56l1 Ψ n1)) (s56l2_G (s56l2 Ψ (s56l1_G (s56l1 Ψ n1)) n2)) 0 x0 x1 x2 x3 x4 x5 x6 x7 h)) ∧ ∀ n6 : Nat, (∀ (h : Heap) (x0 x1 x2 x3 : AVal) (x4 : Int) (x5 : AVal) (x6 x7 : Int), OI (s56l6 Ψ (s56l1_G (s56l1 Ψ n1)) (s56l2_G (s56l2 Ψ (s56l1_G (s56l1 Ψ n1)) n2)) (n6 + 1) x0 x1 x2 x3 x4 x5 x6 x7 h)) ∧ ((True ∧ True ∧ True) ∧ ((True) ∧ (∀ (h : Heap) (x0 x1 x2 x3 : AVal) (x4 : Int) (x5 : AVal) (x6 x7 : Int) (x8 : Bool), OI (s56c8 Ψ (s56l1_G (s56l1 Ψ n1)) (s56l2_G (s56l2 Ψ (s56l1_G (s56l1 Ψ n1)) n2)) (s56l6_G (s56l6 Ψ (s56l1_G (s56l1 Ψ n1)) (s56l2_G (s56l2 Ψ (s56l1_G (s56l1 Ψ n1)) n2)) n6)) x0 x1 x2 x3 x4 x5 x6 x7 x8 h)) ∧ (True ∧ True)) ∧ (∀ (h : Heap) (x0 x1 x2 x3 : AVal) (x4 : Int) (x5 : AVal) (x6 x7 : Int), OI (s56c7 Ψ (s56l1_G (s56l1 Ψ n1)) (s56l2_G (s56l2 Ψ (s56l1_G (s56l1 Ψ n1)) n2)) (s56l6_G (s56l6 Ψ (s56l1_G (s56l1 Ψ n1)) (s56l2_G (s56l2 Ψ (s56l1_G (s56l1 Ψ n1)) n2)) n6)) x0 x1 x2 x3 x4 x5 x6 x7 h)) ∧ (True))) ∧ True) ∧ (∀ (h : Heap) (x0 x1 x2 x3 : AVal) (x4 : Int) (x5 : AVal) (x6 : Int), OI (s56c3 Ψ (s56l1_G (s56l1 Ψ n1)) (s56l2_G (s56l2 Ψ (s56l1_G (s56l1 Ψ n1)) n2)) x0 x1 x2 x3 x4 x5 x6 h)) ∧ (True))) ∧ True)) ∧ True ∧ True)) ⟨trivial, ⟨trivial, ⟨⟨trivial, ⟨fun _ _ _ _ _ _ H => H, fun _ => ⟨fun _ _ _ _ _ _ H => H, ⟨⟨trivial, ⟨trivial, trivial⟩⟩, ⟨⟨trivial, ⟨trivial, ⟨trivial, ⟨fun _ _ _ _ _ _ _ _ H => H, fun _ => ⟨fun _ _ _ _ _ _ _ _ H => H, ⟨⟨trivial, ⟨trivial, trivial⟩⟩, ⟨⟨trivial, ⟨trivial, ⟨⟨trivial, ⟨fun _ _ _ _ _ _ _ _ _ H => H, fun _ => ⟨fun _ _ _ _ _ _ _ _ _ H => H, ⟨⟨trivial, ⟨trivial, trivial⟩⟩, ⟨trivial, fun _ _ _ _ _ _ _ _ _ H => H, trivial⟩⟩⟩⟩⟩, ⟨trivial, ⟨trivial, ⟨trivial, ⟨trivial, ⟨trivial, ⟨⟨trivial, ⟨trivial, ⟨fun _ _ _ _ _ _ _ _ _ H => H, fun _ => ⟨fun _ _ _ _ _ _ _ _ _ H => H, ⟨⟨trivial, ⟨trivial, trivial⟩⟩, ⟨⟨trivial, fun _ _ _ _ _ _ _ _ _ _ H => H, ⟨trivial, trivial⟩⟩, fun _ _ _ _ _ _ _ _ _ H => H, trivial⟩⟩⟩⟩⟩⟩, trivial⟩⟩⟩⟩⟩⟩⟩⟩⟩, fun _ _ _ _ _ _ _ _ H => H, trivial⟩⟩⟩⟩⟩⟩⟩, trivial⟩⟩⟩⟩⟩, ⟨trivial, trivial⟩⟩⟩⟩)
    (Eq.mpr (by as_aux_lemma => kernel_rfl : evF prog f56 (s56_A Ψ) Ψ [(.agg [m_Up, m_Val]), o, rows] h = s56 Ψ m_Up m_Val o rows h) H)

/- 59 dictum/dictumref17.Order -/
def s59l1_R (F : AVal → Int → AVal → Int → Heap → Prop) (l : List AVal) (h : Heap) : Prop := J.cons l fun x0 l => J.cons l fun v l => J.int .i64 v fun x1 => J.cons l fun x2 l => J.cons l fun v l => J.int .i64 v fun x3 => J.nil l (F x0 x1 x2 x3 h)
def s59l1_G (F : AVal → Int → AVal → Int → Heap → Prop) (x0 : AVal) (x1 : Int) (x2 : AVal) (x3 : Int) (h : Heap) : Prop := gJ [.any, .int .i64, .any, .int .i64] [x0, (.int .i64 x1), x2, (.int .i64 x3)] h (s59l1_R F)
def s59l1_E (F : Nat → AVal → Int → AVal → Int → Heap → Prop) (x0 : AVal) (x1 : Int) (x2 : AVal) (x3 : Int) (h : Heap) : Prop := gJ [.any, .int .i64, .any, .int .i64] [x0, (.int .i64 x1), x2, (.int .i64 x3)] h (fun l h => ∃ n, s59l1_R (F n) l h)
theorem s59l1_go {F : AVal → Int → AVal → Int → Heap → Prop} {x0 : AVal} {x1 : Int} {x2 : AVal} {x3 : Int} {h : Heap} (H : F x0 x1 x2 x3 h) : s59l1_G F x0 x1 x2 x3 h := gJ_plain rfl H
theorem s59l1_in {F : Nat → AVal → Int → AVal → Int → Heap → Prop} {x0 : AVal} {x1 : Int} {x2 : AVal} {x3 : Int} {h : Heap} (n : Nat) (H : F n x0 x1 x2 x3 h) : s59l1_E F x0 x1 x2 x3 h := gJ_plain rfl ⟨n, H⟩

def s59l2_R (F : AVal → Int → AVal → Int → AVal → Int → Heap → Prop) (l : List AVal) (h : Heap) : Prop := J.cons l fun x0 l => J.cons l fun v l => J.int .i64 v fun x1 => J.cons l fun x2 l => J.cons l fun v l => J.int .i64 v fun x3 => J.cons l fun x4 l => J.cons l fun v l => J.int .i64 v fun x5 => J.nil l (F x0 x1 x2 x3 x4 x5 h)
def s59l2_G (F : AVal → Int → AVal → Int → AVal → Int → Heap → Prop) (x0 : AVal) (x1 : Int) (x2 : AVal) (x3 : Int) (x4 : AVal) (x5 : Int) (h : Heap) : Prop := gJ [.any, .int .i64, .any, .int .i64, .any, .int .i64] [x0, (.int .i64 x1), x2, (.int .i64 x3), x4, (.int .i64 x5)] h (s59l2_R F)
def s59l2_E (F : Nat → AVal → Int → AVal → Int → AVal → Int → Heap → Prop) (x0 : AVal) (x1 : Int) (x2 : AVal) (x3 : Int) (x4 : AVal) (x5 : Int) (h : Heap) : Prop := gJ [.any, .int .i64, .any, .int .i64, .any, .int .i64] [x0, (.int .i64 x1), x2, (.int .i64 x3), x4, (.int .i64 x5)] h (fun l h => ∃ n, s59l2_R (F n) l h)
theorem s59l2_go {F : AVal → Int → AVal → Int → AVal → Int → Heap → Prop} {x0 : AVal} {x1 : Int} {x2 : AVal} {x3 : Int} {x4 : AVal} {x5 : Int} {h : Heap} (H : F x0 x1 x2 x3 x4 x5 h) : s59l2_G F x0 x1 x2 x3 x4 x5 h := gJ_plain rfl H
theorem s59l2_in {F : Nat → AVal → Int → AVal → Int → AVal → Int → Heap → Prop} {x0 : AVal} {x1 : Int} {x2 : AVal} {x3 : Int} {x4 : AVal} {x5 : Int} {h : Heap} (n : Nat) (H : F n x0 x1 x2 x3 x4 x5 h) : s59l2_E F x0 x1 x2 x3 x4 x5 h := gJ_plain rfl ⟨n, H⟩

def s59l3_R (F : AVal → Int → AVal → Int → AVal → Int → AVal → Int → Heap → Prop) (l : List AVal) (h : Heap) : Prop := J.cons l fun x0 l => J.cons l fun v l => J.int .i64 v fun x1 => J.cons l fun x2 l => J.cons l fun v l => J.int .i64 v fun x3 => J.cons l fun x4 l => J.cons l fun v l => J.int .i64 v fun x5 => J.cons l fun x6 l => J.cons l fun v l => J.int .i64 v fun x7 => J.nil l (F x0 x1 x2 x3 x4 x5 x6 x7 h)
def s59l3_G (F : AVal → Int → AVal → Int → AVal → Int → AVal → Int → Heap → Prop) (x0 : AVal) (x1 : Int) (x2 : AVal) (x3 : Int) (x4 : AVal) (x5 : Int) (x6 : AVal) (x7 : Int) (h : Heap) : Prop := gJ [.any, .int .i64, .any, .int .i64, .any, .int .i64, .any, .int .i64] [x0, (.int .i64 x1), x2, (.int .i64 x3), x4, (.int .i64 x5), x6, (.int .i64 x7)] h (s59l3_R F)
def s59l3_E (F : Nat → AVal → Int → AVal → Int → AVal → Int → AVal → Int → Heap → Prop) (x0 : AVal) (x1 : Int) (x2 : AVal) (x3 : Int) (x4 : AVal) (x5 : Int) (x6 : AVal) (x7 : Int) (h : Heap) : Prop := gJ [.any, .int .i64, .any, .int .i64, .any, .int .i64, .any, .int .i64] [x0, (.int .i64 x1), x2, (.int .i64 x3), x4, (.int .i64 x5), x6, (.int .i64 x7)] h (fun l h => ∃ n, s59l3_R (F n) l h)
theorem s59l3_go {F : AVal → Int → AVal → Int → AVal → Int → AVal → Int → Heap → Prop} {x0 : AVal} {x1 : Int} {x2 : AVal} {x3 : Int} {x4 : AVal} {x5 : Int} {x6 : AVal} {x7 : Int} {h : Heap} (H : F x0 x1 x2 x3 x4 x5 x6 x7 h) : s59l3_G F x0 x1 x2 x3 x4 x5 x6 x7 h := gJ_plain rfl H
theorem s59l3_in {F : Nat → AVal → Int → AVal → Int → AVal → Int → AVal → Int → Heap → Prop} {x0 : AVal} {x1 : Int} {x2 : AVal} {x3 : Int} {x4 : AVal} {x5 : Int} {x6 : AVal} {x7 : Int} {h : Heap} (n : Nat) (H : F n x0 x1 x2 x3 x4 x5 x6 x7 h) : s59l3_E F x0 x1 x2 x3 x4 x5 x6 x7 h := gJ_plain rfl ⟨n, H⟩

def s59c4 (Ψ : AVal → Heap → Prop) (L1 : AVal → Int → AVal → Int → Heap → Prop) (L2 : AVal → Int → AVal → Int → AVal → Int → Heap → Prop) (L3 : AVal → Int → AVal → Int → AVal → Int → AVal → Int → Heap → Prop) (m3 : AVal) (n9 : Int) (out3 : AVal) (a3 : Int) (wait2 : AVal) (i2 : Int) (row1 : AVal) (k1 : Int) (h : Heap) : Prop :=
  rg (k1 + 1) (
    L3 m3 n9 out3 a3 wait2 i2 row1 (k1 + 1) h)

def s59c5 (Ψ : AVal → Heap → Prop) (L1 : AVal → Int → AVal → Int → Heap → Prop) (L2 : AVal → Int → AVal → Int → AVal → Int → Heap → Prop) (L3 : AVal → Int → AVal → Int → AVal → Int → AVal → Int → Heap → Prop) (m4 : AVal) (n10 : Int) (out4 : AVal) (a4 : Int) (wait3 : AVal) (i3 : Int) (row2 : AVal) (k2 : Int) (b : Int) (t65 : Bool) (h : Heap) : Prop :=
  ifT t65 (
    retG (.tuple [.nilsl, (.bool false)]) h Ψ) (
    ixS 1 out4 a4 fun p7 =>
    ld1 h p7 fun v9 =>
    ixS 1 v9 b fun p8 =>
    ld1 h p8 fun v10 =>
    tBool v10 fun v11 =>
    ifT (!v11) (
      ixS 1 out4 a4 fun p9 =>
      ld1 h p9 fun v12 =>
      ixS 1 v12 b fun p10 =>
      st true h p10 [(.bool true)] fun h_5 =>
      appC 1 8 h_5 wait3 (.lsl 1 [(.int .i64 b)]) fun v13 h_6 =>
      s59c4 Ψ L1 L2 L3 m4 n10 out4 a4 v13 i3 row2 k2 h_6) (
      s59c4 Ψ L1 L2 L3 m4 n10 out4 a4 wait3 i3 row2 k2 h))

def s59l3 (Ψ : AVal → Heap → Prop) (L1 : AVal → Int → AVal → Int → Heap → Prop) (L2 : AVal → Int → AVal → Int → AVal → Int → Heap → Prop) : Nat → AVal → Int → AVal → Int → AVal → Int → AVal → Int → Heap → Prop
  | 0, _, _, _, _, _, _, _, _, _ => False
  | n7 + 1, m2, n6, out2, a2, wait1, i1, row, k, h =>
    lenN row fun n8 =>
    ifT (decide (k < n8)) (
      ixS 1 row k fun p6 =>
      ld1 h p6 fun v7 =>
      tInt .i64 v7 fun v8 =>
      ifT (decide (v8 < 0)) (
        s59c5 Ψ L1 L2 (s59l3_G (s59l3 Ψ L1 L2 n7)) m2 n6 out2 a2 wait1 i1 row k v8 true h) (
        s59c5 Ψ L1 L2 (s59l3_G (s59l3 Ψ L1 L2 n7)) m2 n6 out2 a2 wait1 i1 row k v8 (decide (n6 ≤ v8)) h)) (
      rg (i1 + 1) (
        L2 m2 n6 out2 a2 wait1 (i1 + 1) h))

def s59l2 (Ψ : AVal → Heap → Prop) (L1 : AVal → Int → AVal → Int → Heap → Prop) : Nat → AVal → Int → AVal → Int → AVal → Int → Heap → Prop
  | 0, _, _, _, _, _, _, _ => False
  | n4 + 1, m1, n3, out1, a1, wait, i, h =>
    lenN wait fun n5 =>
    ifT (decide (i < n5)) (
      addOff m1 0 fun p3 =>
      ld1 h p3 fun v3 =>
      ixS 1 wait i fun p4 =>
      ld1 h p4 fun v4 =>
      tInt .i64 v4 fun v5 =>
      ixS 1 v3 v5 fun p5 =>
      ld1 h p5 fun v6 =>
      s59l3_E (s59l3 Ψ L1 (s59l2_G (s59l2 Ψ L1 n4))) m1 n3 out1 a1 wait i v6 0 h) (
      rg (a1 + 1) (
        L1 m1 n3 out1 (a1 + 1) h))

def s59l1 (Ψ : AVal → Heap → Prop) : Nat → AVal → Int → AVal → Int → Heap → Prop
  | 0, _, _, _, _, _ => False
  | n2 + 1, m, n1, out, a, h =>
    ifT (decide (a < n1)) (
      mkS false 1 1 (.bool false) h n1 n1 fun v1 h_1 =>
      ixS 1 out a fun p =>
      chk (sc v1) (
        st true h_1 p [v1] fun h_2 =>
        ixS 1 out a fun p1 =>
        ld1 h_2 p1 fun v2 =>
        ixS 1 v2 a fun p2 =>
        st true h_2 p2 [(.bool true)] fun h_3 =>
        Sym.newRow 1 [(.int .i64 a)] h_3 fun r h_4 =>
        s59l2_E (s59l2 Ψ (s59l1_G (s59l1 Ψ n2))) m n1 out a (.sl r 1 0 1) 0 h_4)) (
      retG (.tuple [out, (.bool true)]) h Ψ)

def s59 (Ψ : AVal → Heap → Prop) (m_Up : AVal) (m_Val : AVal) (h : Heap) : Prop :=
  lenN m_Up fun n =>
  mkS false 1 24 .nilsl h n n fun v h_ =>
  s59l1_E (s59l1 Ψ) (.lptr [m_Up, m_Val]) n v 0 h_

def s59_A (Ψ : AVal → Heap → Prop) : Ann :=
  .seq (.reg [⟨none, [(0, true), (1, false), (2, false)]⟩])
  (.seq (.reg [⟨none, [(0, false), (1, false), (2, false), (3, false)]⟩])
  (.seq (.reg [⟨none, [(0, false), (1, false), (2, false)]⟩])
  (.seq (.seq (.reg [⟨none, [(0, false)]⟩])
  (.block (.loop [(1, .any), (4, .int .i64), (5, .any), (6, .int .i64)] (fun n l h => s59l1_R (s59l1 Ψ n) l h) (fun L1 =>
  .seq (.seq (.reg [⟨none, [(0, false), (1, false), (2, false)]⟩])
  (.cond (.leaf)
  (.leaf)))
  (.seq (.block (.seq (.reg [⟨none, [(0, false), (1, false), (2, false), (3, false), (4, false), (5, false)]⟩])
  (.seq (.reg [⟨none, [(0, false), (1, false), (2, false), (3, false), (4, false), (5, false), (6, false)]⟩])
  (.seq (.reg [⟨none, [(0, false), (1, false), (2, false)]⟩])
  (.seq (.reg [⟨none, [(0, false)]⟩])
  (.block (.loop [(1, .any), (4, .int .i64), (5, .any), (6, .int .i64), (7, .any), (8, .int .i64)] (fun n l h => s59l2_R (s59l2 Ψ (fun y0 y1 y2 y3 h => L1 [y0, (.int .i64 y1), y2, (.int .i64 y3)] h) n) l h) (fun L2 =>
  .seq (.seq (.reg [⟨none, [(0, false), (1, false), (2, false), (3, false)]⟩])
  (.cond (.leaf)
  (.leaf)))
  (.seq (.block (.seq (.draw [(0, false), (1, false), (2, false), (3, false), (4, false), (5, false), (6, false), (7, false), (8, false)] [0, 1, 0, 0, 12, 28, 63, 127, 255])
  (.seq (.reg [⟨none, [(0, false)]⟩])
  (.block (.loop [(1, .any), (4, .int .i64), (5, .any), (6, .int .i64), (7, .any), (8, .int .i64), (9, .any), (10, .int .i64)] (fun n l h => s59l3_R (s59l3 Ψ (fun y0 y1 y2 y3 h => L1 [y0, (.int .i64 y1), y2, (.int .i64 y3)] h) (fun y0 y1 y2 y3 y4 y5 h => L2 [y0, (.int .i64 y1), y2, (.int .i64 y3), y4, (.int .i64 y5)] h) n) l h) (fun L3 =>
  .seq (.seq (.reg [⟨none, [(0, false), (1, false), (2, false), (3, false)]⟩])
  (.cond (.leaf)
  (.leaf)))
  (.cut [(1, .any), (4, .int .i64), (5, .any), (6, .int .i64), (7, .any), (8, .int .i64), (9, .any), (10, .int .i64)] (fun l h => J.cons l fun x0 l => J.cons l fun v l => J.int .i64 v fun x1 => J.cons l fun x2 l => J.cons l fun v l => J.int .i64 v fun x3 => J.cons l fun x4 l => J.cons l fun v l => J.int .i64 v fun x5 => J.cons l fun x6 l => J.cons l fun v l => J.int .i64 v fun x7 => J.nil l (s59c4 Ψ (fun y0 y1 y2 y3 h => L1 [y0, (.int .i64 y1), y2, (.int .i64 y3)] h) (fun y0 y1 y2 y3 y4 y5 h => L2 [y0, (.int .i64 y1), y2, (.int .i64 y3), y4, (.int .i64 y5)] h) (fun y0 y1 y2 y3 y4 y5 y6 y7 h => L3 [y0, (.int .i64 y1), y2, (.int .i64 y3), y4, (.int .i64 y5), y6, (.int .i64 y7)] h) x0 x1 x2 x3 x4 x5 x6 x7 h)) (.block (.seq (.reg [⟨none, [(0, false), (1, false), (2, false), (3, false), (4, false)]⟩])
  (.seq (.cut [(1, .any), (4, .int .i64), (5, .any), (6, .int .i64), (7, .any), (8, .int .i64), (9, .any), (10, .int .i64), (11, .int .i64), (65, .bool)] (fun l h => J.cons l fun x0 l => J.cons l fun v l => J.int .i64 v fun x1 => J.cons l fun x2 l => J.cons l fun v l => J.int .i64 v fun x3 => J.cons l fun x4 l => J.cons l fun v l => J.int .i64 v fun x5 => J.cons l fun x6 l => J.cons l fun v l => J.int .i64 v fun x7 => J.cons l fun v l => J.int .i64 v fun x8 => J.cons l fun v l => J.bool v fun x9 => J.nil l (s59c5 Ψ (fun y0 y1 y2 y3 h => L1 [y0, (.int .i64 y1), y2, (.int .i64 y3)] h) (fun y0 y1 y2 y3 y4 y5 h => L2 [y0, (.int .i64 y1), y2, (.int .i64 y3), y4, (.int .i64 y5)] h) (fun y0 y1 y2 y3 y4 y5 y6 y7 h => L3 [y0, (.int .i64 y1), y2, (.int .i64 y3), y4, (.int .i64 y5), y6, (.int .i64 y7)] h) x0 x1 x2 x3 x4 x5 x6 x7 x8 x9 h)) (.reg [⟨none, [(0, false), (1, false), (2, false)]⟩, ⟨some (61, false), [(3, false), (4, false), (5, false)]⟩, ⟨none, [(6, false)]⟩])
  (.cond (.seq (.reg [⟨none, [(0, false), (1, false)]⟩])
  (.leaf))
  (.leaf)))
  (.seq (.reg [⟨none, [(0, false), (1, false), (2, false), (3, false), (4, false), (5, false), (6, false), (7, false)]⟩])
  (.cond (.seq (.reg [⟨none, [(0, false), (1, false), (2, false), (3, false), (4, false), (5, false), (6, false)]⟩])
  (.reg [⟨none, [(0, false), (1, false), (2, true), (3, false), (4, false)]⟩]))
  (.leaf))))))
  (.reg [⟨none, [(0, false), (1, false), (2, false)]⟩]))))))))
  (.reg [⟨none, [(0, false), (1, false), (2, false)]⟩]))))))))))
  (.reg [⟨none, [(0, false), (1, false), (2, false)]⟩]))))))
  (.seq (.reg [⟨none, [(0, false), (1, false), (2, false)]⟩])
  (.leaf)))))

theorem s59_ok {Ψ : AVal → Heap → Prop} {m_Up : AVal} {m_Val : AVal} {h : Heap} (H : s59 Ψ m_Up m_Val h) : ACalls prog 59 [(.agg [m_Up, m_Val])] h Ψ :=
  calls_of_evF func59 (by kernel_rfl) (by kernel_rfl) (by kernel_rfl)
    (Eq.mpr (by as_aux_lemma => kernel_rfl : oblF prog f59 (s59_A Ψ) Ψ = (True ∧ True ∧ True ∧ (True ∧ (∀ (h : Heap) (x0 : AVal) (x1 : Int) (x2 : AVal) (x3 : Int), ON (s59l1 Ψ 0 x0 x1 x2 x3 h)) ∧ ∀ n1 : Nat, (∀ (h : Heap) (x0 : AVal) (x1 : Int) (x2 : AVal) (x3 : Int), OI (s59l1 Ψ (n1 + 1) x0 x1 x2 x3 h)) ∧ ((True ∧ True ∧ True) ∧ (True ∧ True ∧ True ∧ True ∧ (∀ (h : Heap) (x0 : AVal) (x1 : Int) (x2 : AVal) (x3 : Int) (x4 : AVal) (x5 : Int), ON (s59l2 Ψ (s59l1_G (s59l1 Ψ n1)) 0 x0 x1 x2 x3 x4 x5 h)) ∧ ∀ n2 : Nat, (∀ (h : Heap) (x0 : AVal) (x1 : Int) (x2 : AVal) (x3 : Int) (x4 : AVal) (x5 : Int), OI (s59l2 Ψ (s59l1_G (s59l1 Ψ n1)) (n2 + 1) x0 x1 x2 x3 x4 x5 h)) ∧ ((True ∧ True ∧ True) ∧ (True ∧ True ∧ (∀ (h : Heap) (x0 : AVal) (x1 : Int) (x2 : AVal) (x3 : Int) (x4 : AVal) (x5 : Int) (x6 : AVal) (x7 : Int), ON (s59l3 Ψ (s59l1_G (s59l1 Ψ n1)) (s59l2_G (s59l2 Ψ (s59l1_G (s59l1 Ψ n1)) n2)) 0 x0 x1 x2 x3 x4 x5 x6 x7 h)) ∧ ∀ n3 : Nat, (∀ (h : Heap) (x0 : AVal) (x1 : Int) (x2 : AVal) (x3 : Int) (x4 : AVal) (x5 : Int) (x6 : AVal) (x7 : Int), OI (s59l3 Ψ (s59l1_G (s59l1 Ψ n1)) (s59l2_G (s59l2 Ψ (s59l1_G (s59l1 Ψ n1)) n2)) (n3 + 1) x0 x1 x2 x3 x4 x5 x6 x7 h)) ∧ ((True ∧ True ∧ True) ∧ (True ∧ ((True) ∧ (∀ (h : Heap) (x0 : AVal) (x1 : Int) (x2 : AVal) (x3 : Int) (x4 : AVal) (x5 : Int) (x6 : AVal) (x7 x8 : Int) (x9 : Bool), OI (s59c5 Ψ (s59l1_G (s59l1 Ψ n1)) (s59l2_G (s59l2 Ψ (s59l1_G (s59l1 Ψ n1)) n2)) (s59l3_G (s59l3 Ψ (s59l1_G (s59l1 Ψ n1)) (s59l2_G (s59l2 Ψ (s59l1_G (s59l1 Ψ n1)) n2)) n3)) x0 x1 x2 x3 x4 x5 x6 x7 x8 x9 h)) ∧ ((True ∧ True) ∧ True)) ∧ True ∧ (True ∧ True) ∧ True) ∧ (∀ (h : Heap) (x0 : AVal) (x1 : Int) (x2 : AVal) (x3 : Int) (x4 : AVal) (x5 : Int) (x6 : AVal) (x7 : Int), OI (s59c4 Ψ (s59l1_G (s59l1 Ψ n1)) (s59l2_G (s59l2 Ψ (s59l1_G (s59l1 Ψ n1)) n2)) (s59l3_G (s59l3 Ψ (s59l1_G (s59l1 Ψ n1)) (s59l2_G (s59l2 Ψ (s59l1_G (s59l1 Ψ n1)) n2)) n3)) x0 x1 x2 x3 x4 x5 x6 x7 h)) ∧ (True))) ∧ True)) ∧ True)) ∧ True ∧ True)) ⟨trivial, ⟨trivial, ⟨trivial, ⟨⟨trivial, ⟨fun _ _ _ _ _ H => H, fun _ => ⟨fun _ _ _ _ _ H => H, ⟨⟨trivial, ⟨trivial, trivial⟩⟩, ⟨⟨trivial, ⟨trivial, ⟨trivial, ⟨trivial, ⟨fun _ _ _ _ _ _ _ H => H, fun _ => ⟨fun _ _ _ _ _ _ _ H => H, ⟨⟨trivial, ⟨trivial, trivial⟩⟩, ⟨⟨trivial, ⟨trivial, ⟨fun _ _ _ _ _ _ _ _ _ H => H, fun _ => ⟨fun _ _ _ _ _ _ _ _ _ H => H, ⟨⟨trivial, ⟨trivial, trivial⟩⟩, ⟨⟨trivial, ⟨⟨trivial, fun _ _ _ _ _ _ _ _ _ _ _ H => H, ⟨⟨trivial, trivial⟩, trivial⟩⟩, ⟨trivial, ⟨⟨trivial, trivial⟩, trivial⟩⟩⟩⟩, fun _ _ _ _ _ _ _ _ _ H => H, trivial⟩⟩⟩⟩⟩⟩, trivial⟩⟩⟩⟩⟩⟩⟩⟩, trivial⟩⟩⟩⟩⟩, ⟨trivial, trivial⟩⟩⟩⟩⟩)
    (Eq.mpr (by as_aux_lemma => kernel_rfl : evF prog f59 (s59_A Ψ) Ψ [(.agg [m_Up, m_Val])] h = s59 Ψ m_Up m_Val h) H)

/- 61 dictum/dictumref17.has -/
def s61l1_R (F : AVal → ByteArray → Int → Heap → Prop) (l : List AVal) (h : Heap) : Prop := J.cons l fun x0 l => J.cons l fun v l => J.str v fun x1 => J.cons l fun v l => J.int .i64 v fun x2 => J.nil l (F x0 x1 x2 h)
def s61l1_G (F : AVal → ByteArray → Int → Heap → Prop) (x0 : AVal) (x1 : ByteArray) (x2 : Int) (h : Heap) : Prop := gJ [.any, .str, .int .i64] [x0, (.str x1), (.int .i64 x2)] h (s61l1_R F)
def s61l1_E (F : Nat → AVal → ByteArray → Int → Heap → Prop) (x0 : AVal) (x1 : ByteArray) (x2 : Int) (h : Heap) : Prop := gJ [.any, .str, .int .i64] [x0, (.str x1), (.int .i64 x2)] h (fun l h => ∃ n, s61l1_R (F n) l h)
theorem s61l1_go {F : AVal → ByteArray → Int → Heap → Prop} {x0 : AVal} {x1 : ByteArray} {x2 : Int} {h : Heap} (H : F x0 x1 x2 h) : s61l1_G F x0 x1 x2 h := gJ_plain rfl H
theorem s61l1_in {F : Nat → AVal → ByteArray → Int → Heap → Prop} {x0 : AVal} {x1 : ByteArray} {x2 : Int} {h : Heap} (n : Nat) (H : F n x0 x1 x2 h) : s61l1_E F x0 x1 x2 h := gJ_plain rfl ⟨n, H⟩

def s61l1 (Ψ : AVal → Heap → Prop) : Nat → AVal → ByteArray → Int → Heap → Prop
  | 0, _, _, _, _ => False
  | n + 1, l_1, s1, i, h =>
    lenN l_1 fun n1 =>
    ifT (decide (i < n1)) (
      ixS 1 l_1 i fun p =>
      ld1 h p fun v =>
      tStr v fun v1 =>
      ifT (strEq v1 s1) (
        retG (.bool true) h Ψ) (
        rg (i + 1) (
          s61l1_G (s61l1 Ψ n) l_1 s1 (i + 1) h))) (
      retG (.bool false) h Ψ)

def s61 (Ψ : AVal → Heap → Prop) (l_ : AVal) (s : ByteArray) (h : Heap) : Prop :=
  s61l1_E (s61l1 Ψ) l_ s 0 h

def s61_A (Ψ : AVal → Heap → Prop) : Ann :=
  .seq (.reg [⟨none, [(0, false)]⟩])
  (.seq (.seq (.reg [⟨none, [(0, false)]⟩])
  (.block (.loop [(0, .any), (1, .str), (5, .int .i64)] (fun n l h => s61l1_R (s61l1 Ψ n) l h) (fun L1 =>
  .seq (.seq (.reg [⟨none, [(0, false), (1, false), (2, false), (3, false)]⟩])
  (.cond (.leaf)
  (.leaf)))
  (.seq (.block (.seq (.reg [⟨none, [(0, false), (1, false), (2, false), (3, false), (4, false), (5, false)]⟩])
  (.cond (.seq (.reg [⟨none, [(0, false)]⟩])
  (.leaf))
  (.leaf))))
  (.reg [⟨none, [(0, false), (1, false), (2, false)]⟩]))))))
  (.seq (.reg [⟨none, [(0, false)]⟩])
  (.leaf)))

theorem s61_ok {Ψ : AVal → Heap → Prop} {l_ : AVal} {s : ByteArray} {h : Heap} (H : s61 Ψ l_ s h) : ACalls prog 61 [l_, (.str s)] h Ψ :=
  calls_of_evF func61 (by kernel_rfl) (by kernel_rfl) (by kernel_rfl)
    (Eq.mpr (by as_aux_lemma => kernel_rfl : oblF prog f61 (s61_A Ψ) Ψ = (True ∧ (True ∧ (∀ (h : Heap) (x0 : AVal) (x1 : ByteArray) (x2 : Int), ON (s61l1 Ψ 0 x0 x1 x2 h)) ∧ ∀ n1 : Nat, (∀ (h : Heap) (x0 : AVal) (x1 : ByteArray) (x2 : Int), OI (s61l1 Ψ (n1 + 1) x0 x1 x2 h)) ∧ ((True ∧ True ∧ True) ∧ (True ∧ (True ∧ True) ∧ True) ∧ True)) ∧ True ∧ True)) ⟨trivial, ⟨⟨trivial, ⟨fun _ _ _ _ H => H, fun _ => ⟨fun _ _ _ _ H => H, ⟨⟨trivial, ⟨trivial, trivial⟩⟩, ⟨⟨trivial, ⟨⟨trivial, trivial⟩, trivial⟩⟩, trivial⟩⟩⟩⟩⟩, ⟨trivial, trivial⟩⟩⟩)
    (Eq.mpr (by as_aux_lemma => kernel_rfl : evF prog f61 (s61_A Ψ) Ψ [l_, (.str s)] h = s61 Ψ l_ s h) H)

/- 67 dictum/worlds.asked -/
def s67l1_R (F : AVal → AVal → AVal → Int → Int → Heap → Prop) (l : List AVal) (h : Heap) : Prop := J.cons l fun x0 l => J.cons l fun x1 l => J.cons l fun x2 l => J.cons l fun v l => J.int .i64 v fun x3 => J.cons l fun v l => J.int .i64 v fun x4 => J.nil l (F x0 x1 x2 x3 x4 h)
def s67l1_G (F : AVal → AVal → AVal → Int → Int → Heap → Prop) (x0 : AVal) (x1 : AVal) (x2 : AVal) (x3 : Int) (x4 : Int) (h : Heap) : Prop := gJ [.any, .any, .any, .int .i64, .int .i64] [x0, x1, x2, (.int .i64 x3), (.int .i64 x4)] h (s67l1_R F)
def s67l1_E (F : Nat → AVal → AVal → AVal → Int → Int → Heap → Prop) (x0 : AVal) (x1 : AVal) (x2 : AVal) (x3 : Int) (x4 : Int) (h : Heap) : Prop := gJ [.any, .any, .any, .int .i64, .int .i64] [x0, x1, x2, (.int .i64 x3), (.int .i64 x4)] h (fun l h => ∃ n, s67l1_R (F n) l h)
theorem s67l1_go {F : AVal → AVal → AVal → Int → Int → Heap → Prop} {x0 : AVal} {x1 : AVal} {x2 : AVal} {x3 : Int} {x4 : Int} {h : Heap} (H : F x0 x1 x2 x3 x4 h) : s67l1_G F x0 x1 x2 x3 x4 h := gJ_plain rfl H
theorem s67l1_in {F : Nat → AVal → AVal → AVal → Int → Int → Heap → Prop} {x0 : AVal} {x1 : AVal} {x2 : AVal} {x3 : Int} {x4 : Int} {h : Heap} (n : Nat) (H : F n x0 x1 x2 x3 x4 h) : s67l1_E F x0 x1 x2 x3 x4 h := gJ_plain rfl ⟨n, H⟩

def s67c2 (Ψ : AVal → Heap → Prop) (L1 : AVal → AVal → AVal → Int → Int → Heap → Prop) (m1 : AVal) (leq1 : AVal) (t17_1 : AVal) (t18_1 : Int) (t19_1 : Int) (t31 : Bool) (h : Heap) : Prop :=
  ifT t31 (
    retG (.tuple [.nilfunc, (.int .i64 2)]) h Ψ) (
    rg (t19_1 + 1) (
      L1 m1 leq1 t17_1 t18_1 (t19_1 + 1) h))

def s67l1 (Ψ : AVal → Heap → Prop) : Nat → AVal → AVal → AVal → Int → Int → Heap → Prop
  | 0, _, _, _, _, _, _ => False
  | n1 + 1, m, leq, t17, t18, t19, h =>
    ifT (decide (t19 < t18)) (
      ixS 1 t17 t19 fun p =>
      ld1 h p fun v4 =>
      tInt .i64 v4 fun v5 =>
      ifT (decide (v5 < 0)) (
        s67c2 Ψ (s67l1_G (s67l1 Ψ n1)) m leq t17 t18 t19 true h) (
        addOff m 0 fun p1 =>
        ld1 h p1 fun v6 =>
        lenN v6 fun n2 =>
        s67c2 Ψ (s67l1_G (s67l1 Ψ n1)) m leq t17 t18 t19 (decide (n2 ≤ v5)) h)) (
      retG (.tuple [leq, (.int .i64 0)]) h Ψ)

def s67 (Ψ : AVal → Heap → Prop) (m_Up : AVal) (m_Val : AVal) (worlds : AVal) (h : Heap) : Prop :=
  callG prog 83 [(.agg [m_Up, m_Val])] h fun v h_ =>
  tTup v fun l_ =>
  tCons l_ fun v1 l_1 =>
  tCons l_1 fun v2 l_2 =>
  tBool v2 fun v3 =>
  tNil l_2 (
    ifT (!v3) (
      retG (.tuple [.nilfunc, (.int .i64 170)]) h_ Ψ) (
      lenN worlds fun n =>
      s67l1_E (s67l1 Ψ) (.lptr [m_Up, m_Val]) v1 worlds n 0 h_))

def s67_A (Ψ : AVal → Heap → Prop) : Ann :=
  .seq (.reg [⟨none, [(0, true), (1, false), (2, false)]⟩])
  (.seq (.reg [⟨none, [(0, false), (1, false), (2, false), (3, false), (4, false), (5, false), (6, false)]⟩])
  (.seq (.seq (.reg [⟨none, [(0, false), (1, false)]⟩])
  (.cond (.seq (.reg [⟨none, [(0, false), (1, false)]⟩])
  (.leaf))
  (.leaf)))
  (.seq (.seq (.reg [⟨none, [(0, false), (1, false), (2, false)]⟩])
  (.block (.loop [(2, .any), (6, .any), (17, .any), (18, .int .i64), (19, .int .i64)] (fun n l h => s67l1_R (s67l1 Ψ n) l h) (fun L1 =>
  .seq (.reg [⟨none, [(0, false)]⟩])
  (.seq (.cond (.leaf)
  (.leaf))
  (.seq (.block (.seq (.reg [⟨none, [(0, false), (1, false), (2, false)]⟩])
  (.cut [(2, .any), (6, .any), (17, .any), (18, .int .i64), (19, .int .i64), (31, .bool)] (fun l h => J.cons l fun x0 l => J.cons l fun x1 l => J.cons l fun x2 l => J.cons l fun v l => J.int .i64 v fun x3 => J.cons l fun v l => J.int .i64 v fun x4 => J.cons l fun v l => J.bool v fun x5 => J.nil l (s67c2 Ψ (fun y0 y1 y2 y3 y4 h => L1 [y0, y1, y2, (.int .i64 y3), (.int .i64 y4)] h) x0 x1 x2 x3 x4 x5 h)) (.reg [⟨none, [(0, false), (1, false), (2, false)]⟩, ⟨some (25, false), [(3, false), (4, false), (5, false), (6, false), (7, false)]⟩, ⟨none, [(8, false)]⟩])
  (.cond (.seq (.reg [⟨none, [(0, false), (1, false)]⟩])
  (.leaf))
  (.leaf)))))
  (.reg [⟨none, [(0, false), (1, false)]⟩])))))))
  (.seq (.reg [⟨none, [(0, false), (1, false), (2, false)]⟩])
  (.leaf)))))

theorem s67_ok {Ψ : AVal → Heap → Prop} {m_Up : AVal} {m_Val : AVal} {worlds : AVal} {h : Heap} (H : s67 Ψ m_Up m_Val worlds h) : ACalls prog 67 [(.agg [m_Up, m_Val]), worlds] h Ψ :=
  calls_of_evF func67 (by kernel_rfl) (by kernel_rfl) (by kernel_rfl)
    (Eq.mpr (by as_aux_lemma => kernel_rfl : oblF prog f67 (s67_A Ψ) Ψ = (True ∧ True ∧ (True ∧ (True ∧ True) ∧ True) ∧ (True ∧ (∀ (h : Heap) (x0 x1 x2 : AVal) (x3 x4 : Int), ON (s67l1 Ψ 0 x0 x1 x2 x3 x4 h)) ∧ ∀ n1 : Nat, (∀ (h : Heap) (x0 x1 x2 : AVal) (x3 x4 : Int), OI (s67l1 Ψ (n1 + 1) x0 x1 x2 x3 x4 h)) ∧ (True ∧ (True ∧ True) ∧ (True ∧ (True) ∧ (∀ (h : Heap) (x0 x1 x2 : AVal) (x3 x4 : Int) (x5 : Bool), OI (s67c2 Ψ (s67l1_G (s67l1 Ψ n1)) x0 x1 x2 x3 x4 x5 h)) ∧ ((True ∧ True) ∧ True)) ∧ True)) ∧ True ∧ True)) ⟨trivial, ⟨trivial, ⟨⟨trivial, ⟨⟨trivial, trivial⟩, trivial⟩⟩, ⟨⟨trivial, ⟨fun _ _ _ _ _ _ H => H, fun _ => ⟨fun _ _ _ _ _ _ H => H, ⟨trivial, ⟨⟨trivial, trivial⟩, ⟨⟨trivial, ⟨trivial, fun _ _ _ _ _ _ _ H => H, ⟨⟨trivial, trivial⟩, trivial⟩⟩⟩, trivial⟩⟩⟩⟩⟩⟩, ⟨trivial, trivial⟩⟩⟩⟩⟩)
    (Eq.mpr (by as_aux_lemma => kernel_rfl : evF prog f67 (s67_A Ψ) Ψ [(.agg [m_Up, m_Val]), worlds] h = s67 Ψ m_Up m_Val worlds h) H)

/- 69 dictum/worlds.Tidy$1 -/
def s69 (Ψ : AVal → Heap → Prop) (b : Int) (c0 : AVal) (c1 : AVal) (h : Heap) : Prop :=
  ld1 h c0 fun v =>
  tInt .i64 v fun v1 =>
  ifT (v1 != b) (
    ld1 h c1 fun v2 =>
    ld1 h c0 fun v3 =>
    tInt .i64 v3 fun v4 =>
    callV prog v2 [(.int .i64 v4), (.int .i64 b)] h fun v5 h_ =>
    tBool v5 fun v6 =>
    retG (.bool v6) h_ Ψ) (
    retG (.bool false) h Ψ)

def s69_A (Ψ : AVal → Heap → Prop) : Ann :=
  .seq (.reg [⟨none, [(0, false)]⟩])
  (.seq (.reg [⟨none, [(0, false), (1, false), (2, false), (3, false)]⟩, ⟨some (8, true), [(4, false), (5, false), (6, false), (7, false)]⟩, ⟨none, [(8, false), (9, false)]⟩])
  (.leaf))

theorem s69_ok {Ψ : AVal → Heap → Prop} {b : Int} {c0 : AVal} {c1 : AVal} {h : Heap} (H : s69 Ψ b c0 c1 h) : ACalls prog 69 [(.int .i64 b), c0, c1] h Ψ :=
  calls_of_evF func69 (by kernel_rfl) (by kernel_rfl) (by kernel_rfl)
    (Eq.mpr (by as_aux_lemma => kernel_rfl : oblF prog f69 (s69_A Ψ) Ψ = (True ∧ True ∧ True)) ⟨trivial, ⟨trivial, trivial⟩⟩)
    (Eq.mpr (by as_aux_lemma => kernel_rfl : evF prog f69 (s69_A Ψ) Ψ [(.int .i64 b), c0, c1] h = s69 Ψ b c0 c1 h) H)

/- 71 dictum/worlds.Tidy$2$1 -/
def s71 (Ψ : AVal → Heap → Prop) (c : Int) (c0 : AVal) (c1 : AVal) (h : Heap) : Prop :=
  ld1 h c0 fun v =>
  tInt .i64 v fun v1 =>
  ifT (c != v1) (
    ld1 h c1 fun v2 =>
    ld1 h c0 fun v3 =>
    tInt .i64 v3 fun v4 =>
    callV prog v2 [(.int .i64 c), (.int .i64 v4)] h fun v5 h_ =>
    tBool v5 fun v6 =>
    retG (.bool v6) h_ Ψ) (
    retG (.bool false) h Ψ)

def s71_A (Ψ : AVal → Heap → Prop) : Ann :=
  .seq (.reg [⟨none, [(0, false)]⟩])
  (.seq (.reg [⟨none, [(0, false), (1, false), (2, false), (3, false)]⟩, ⟨some (8, true), [(4, false), (5, false), (6, false), (7, false)]⟩, ⟨none, [(8, false), (9, false)]⟩])
  (.leaf))

theorem s71_ok {Ψ : AVal → Heap → Prop} {c : Int} {c0 : AVal} {c1 : AVal} {h : Heap} (H : s71 Ψ c c0 c1 h) : ACalls prog 71 [(.int .i64 c), c0, c1] h Ψ :=
  calls_of_evF func71 (by kernel_rfl) (by kernel_rfl) (by kernel_rfl)
    (Eq.mpr (by as_aux_lemma => kernel_rfl : oblF prog f71 (s71_A Ψ) Ψ = (True ∧ True ∧ True)) ⟨trivial, ⟨trivial, trivial⟩⟩)
    (Eq.mpr (by as_aux_lemma => kernel_rfl : evF prog f71 (s71_A Ψ) Ψ [(.int .i64 c), c0, c1] h = s71 Ψ c c0 c1 h) H)

/- 73 dictum/worlds.Root$1 -/
def s73 (Ψ : AVal → Heap → Prop) (b : Int) (c0 : AVal) (c1 : AVal) (h : Heap) : Prop :=
  ld1 h c0 fun v =>
  ld1 h c1 fun v1 =>
  tInt .i64 v1 fun v2 =>
  callV prog v [(.int .i64 v2), (.int .i64 b)] h fun v3 h_ =>
  tBool v3 fun v4 =>
  retG (.bool v4) h_ Ψ

def s73_A (Ψ : AVal → Heap → Prop) : Ann :=
  .seq (.reg [⟨none, [(0, false)]⟩])
  (.seq (.reg [⟨none, [(0, false), (1, false), (2, false), (3, false), (4, false)]⟩])
  (.leaf))

theorem s73_ok {Ψ : AVal → Heap → Prop} {b : Int} {c0 : AVal} {c1 : AVal} {h : Heap} (H : s73 Ψ b c0 c1 h) : ACalls prog 73 [(.int .i64 b), c0, c1] h Ψ :=
  calls_of_evF func73 (by kernel_rfl) (by kernel_rfl) (by kernel_rfl)
    (Eq.mpr (by as_aux_lemma => kernel_rfl : oblF prog f73 (s73_A Ψ) Ψ = (True ∧ True ∧ True)) ⟨trivial, ⟨trivial, trivial⟩⟩)
    (Eq.mpr (by as_aux_lemma => kernel_rfl : evF prog f73 (s73_A Ψ) Ψ [(.int .i64 b), c0, c1] h = s73 Ψ b c0 c1 h) H)

/- 75 slices.Index[[]string,string] -/
def s75l1_R (F : AVal → ByteArray → Int → Int → Heap → Prop) (l : List AVal) (h : Heap) : Prop := J.cons l fun x0 l => J.cons l fun v l => J.str v fun x1 => J.cons l fun v l => J.int .i64 v fun x2 => J.cons l fun v l => J.int .i64 v fun x3 => J.nil l (F x0 x1 x2 x3 h)
def s75l1_G (F : AVal → ByteArray → Int → Int → Heap → Prop) (x0 : AVal) (x1 : ByteArray) (x2 : Int) (x3 : Int) (h : Heap) : Prop := gJ [.any, .str, .int .i64, .int .i64] [x0, (.str x1), (.int .i64 x2), (.int .i64 x3)] h (s75l1_R F)
def s75l1_E (F : Nat → AVal → ByteArray → Int → Int → Heap → Prop) (x0 : AVal) (x1 : ByteArray) (x2 : Int) (x3 : Int) (h : Heap) : Prop := gJ [.any, .str, .int .i64, .int .i64] [x0, (.str x1), (.int .i64 x2), (.int .i64 x3)] h (fun l h => ∃ n, s75l1_R (F n) l h)
theorem s75l1_go {F : AVal → ByteArray → Int → Int → Heap → Prop} {x0 : AVal} {x1 : ByteArray} {x2 : Int} {x3 : Int} {h : Heap} (H : F x0 x1 x2 x3 h) : s75l1_G F x0 x1 x2 x3 h := gJ_plain rfl H
theorem s75l1_in {F : Nat → AVal → ByteArray → Int → Int → Heap → Prop} {x0 : AVal} {x1 : ByteArray} {x2 : Int} {x3 : Int} {h : Heap} (n : Nat) (H : F n x0 x1 x2 x3 h) : s75l1_E F x0 x1 x2 x3 h := gJ_plain rfl ⟨n, H⟩

def s75l1 (Ψ : AVal → Heap → Prop) : Nat → AVal → ByteArray → Int → Int → Heap → Prop
  | 0, _, _, _, _, _ => False
  | n1 + 1, s1, v1, t7, t8, h =>
    ifT (decide (t8 < t7)) (
      ixS 1 s1 t8 fun p =>
      ld1 h p fun v2 =>
      tStr v2 fun v3 =>
      ifT (strEq v1 v3) (
        retG (.int .i64 t8) h Ψ) (
        rg (t8 + 1) (
          s75l1_G (s75l1 Ψ n1) s1 v1 t7 (t8 + 1) h))) (
      retG (.int .i64 (-1)) h Ψ)

def s75 (Ψ : AVal → Heap → Prop) (s : AVal) (v : ByteArray) (h : Heap) : Prop :=
  lenN s fun n =>
  s75l1_E (s75l1 Ψ) s v n 0 h

def s75_A (Ψ : AVal → Heap → Prop) : Ann :=
  .seq (.reg [⟨none, [(0, false)]⟩])
  (.seq (.seq (.reg [⟨none, [(0, false), (1, false), (2, false)]⟩])
  (.block (.loop [(0, .any), (1, .str), (7, .int .i64), (8, .int .i64)] (fun n l h => s75l1_R (s75l1 Ψ n) l h) (fun L1 =>
  .seq (.reg [⟨none, [(0, false)]⟩])
  (.seq (.cond (.leaf)
  (.leaf))
  (.seq (.block (.seq (.reg [⟨none, [(0, false), (1, false)]⟩])
  (.seq (.reg [⟨none, [(0, false), (1, false), (2, false), (3, false), (4, false), (5, false)]⟩])
  (.cond (.seq (.reg [⟨none, [(0, false), (1, false)]⟩])
  (.leaf))
  (.leaf)))))
  (.reg [⟨none, [(0, false), (1, false)]⟩])))))))
  (.seq (.reg [⟨none, [(0, false)]⟩])
  (.leaf)))

theorem s75_ok {Ψ : AVal → Heap → Prop} {s : AVal} {v : ByteArray} {h : Heap} (H : s75 Ψ s v h) : ACalls prog 75 [s, (.str v)] h Ψ :=
  calls_of_evF func75 (by kernel_rfl) (by kernel_rfl) (by kernel_rfl)
    (Eq.mpr (by as_aux_lemma => kernel_rfl : oblF prog f75 (s75_A Ψ) Ψ = (True ∧ (True ∧ (∀ (h : Heap) (x0 : AVal) (x1 : ByteArray) (x2 x3 : Int), ON (s75l1 Ψ 0 x0 x1 x2 x3 h)) ∧ ∀ n1 : Nat, (∀ (h : Heap) (x0 : AVal) (x1 : ByteArray) (x2 x3 : Int), OI (s75l1 Ψ (n1 + 1) x0 x1 x2 x3 h)) ∧ (True ∧ (True ∧ True) ∧ (True ∧ True ∧ (True ∧ True) ∧ True) ∧ True)) ∧ True ∧ True)) ⟨trivial, ⟨⟨trivial, ⟨fun _ _ _ _ _ H => H, fun _ => ⟨fun _ _ _ _ _ H => H, ⟨trivial, ⟨⟨trivial, trivial⟩, ⟨⟨trivial, ⟨trivial, ⟨⟨trivial, trivial⟩, trivial⟩⟩⟩, trivial⟩⟩⟩⟩⟩⟩, ⟨trivial, trivial⟩⟩⟩)
    (Eq.mpr (by as_aux_lemma => kernel_rfl : evF prog f75 (s75_A Ψ) Ψ [s, (.str v)] h = s75 Ψ s v h) H)

/- 77 dictum/dictumref03.Reserved -/
def s77 (Ψ : AVal → Heap → Prop) (h : Heap) : Prop :=
  retG (.lsl 1 [(.str (ByteArray.mk #[97, 98, 111, 114, 116])), (.str (ByteArray.mk #[99, 97, 115, 101])), (.str (ByteArray.mk #[102, 97, 108, 115, 101])), (.str (ByteArray.mk #[102, 115, 116])), (.str (ByteArray.mk #[102, 117, 110])), (.str (ByteArray.mk #[105, 110])), (.str (ByteArray.mk #[105, 110, 108])), (.str (ByteArray.mk #[105, 110, 114])), (.str (ByteArray.mk #[108, 101, 116])), (.str (ByteArray.mk #[111, 102])), (.str (ByteArray.mk #[115, 110, 100])), (.str (ByteArray.mk #[116, 114, 117, 101]))]) h Ψ

def s77_A (Ψ : AVal → Heap → Prop) : Ann :=
  .seq (.reg [⟨none, [(0, false)]⟩])
  (.seq (.reg [⟨none, [(0, true), (1, false)]⟩])
  (.leaf))

theorem s77_ok {Ψ : AVal → Heap → Prop} {h : Heap} (H : s77 Ψ  h) : ACalls prog 77 [] h Ψ :=
  calls_of_evF func77 (by kernel_rfl) (by kernel_rfl) (by kernel_rfl)
    (Eq.mpr (by as_aux_lemma => kernel_rfl : oblF prog f77 (s77_A Ψ) Ψ = (True ∧ True ∧ True)) ⟨trivial, ⟨trivial, trivial⟩⟩)
    (Eq.mpr (by as_aux_lemma => kernel_rfl : evF prog f77 (s77_A Ψ) Ψ [] h = s77 Ψ  h) H)

/- 79 slices.IndexFunc[[]int,int] -/
def s79l1_R (F : AVal → AVal → Int → Int → Heap → Prop) (l : List AVal) (h : Heap) : Prop := J.cons l fun x0 l => J.cons l fun x1 l => J.cons l fun v l => J.int .i64 v fun x2 => J.cons l fun v l => J.int .i64 v fun x3 => J.nil l (F x0 x1 x2 x3 h)
def s79l1_G (F : AVal → AVal → Int → Int → Heap → Prop) (x0 : AVal) (x1 : AVal) (x2 : Int) (x3 : Int) (h : Heap) : Prop := gJ [.any, .any, .int .i64, .int .i64] [x0, x1, (.int .i64 x2), (.int .i64 x3)] h (s79l1_R F)
def s79l1_E (F : Nat → AVal → AVal → Int → Int → Heap → Prop) (x0 : AVal) (x1 : AVal) (x2 : Int) (x3 : Int) (h : Heap) : Prop := gJ [.any, .any, .int .i64, .int .i64] [x0, x1, (.int .i64 x2), (.int .i64 x3)] h (fun l h => ∃ n, s79l1_R (F n) l h)
theorem s79l1_go {F : AVal → AVal → Int → Int → Heap → Prop} {x0 : AVal} {x1 : AVal} {x2 : Int} {x3 : Int} {h : Heap} (H : F x0 x1 x2 x3 h) : s79l1_G F x0 x1 x2 x3 h := gJ_plain rfl H
theorem s79l1_in {F : Nat → AVal → AVal → Int → Int → Heap → Prop} {x0 : AVal} {x1 : AVal} {x2 : Int} {x3 : Int} {h : Heap} (n : Nat) (H : F n x0 x1 x2 x3 h) : s79l1_E F x0 x1 x2 x3 h := gJ_plain rfl ⟨n, H⟩

def s79l1 (Ψ : AVal → Heap → Prop) : Nat → AVal → AVal → Int → Int → Heap → Prop
  | 0, _, _, _, _, _ => False
  | n1 + 1, s1, f1, t7, t8, h =>
    ifT (decide (t8 < t7)) (
      ixS 1 s1 t8 fun p =>
      ld1 h p fun v =>
      tInt .i64 v fun v1 =>
      callV prog f1 [(.int .i64 v1)] h fun v2 h_ =>
      tBool v2 fun v3 =>
      ifT v3 (
        retG (.int .i64 t8) h_ Ψ) (
        rg (t8 + 1) (
          s79l1_G (s79l1 Ψ n1) s1 f1 t7 (t8 + 1) h_))) (
      retG (.int .i64 (-1)) h Ψ)

def s79 (Ψ : AVal → Heap → Prop) (s : AVal) (f : AVal) (h : Heap) : Prop :=
  lenN s fun n =>
  s79l1_E (s79l1 Ψ) s f n 0 h

def s79_A (Ψ : AVal → Heap → Prop) : Ann :=
  .seq (.reg [⟨none, [(0, false)]⟩])
  (.seq (.seq (.reg [⟨none, [(0, false), (1, false), (2, false)]⟩])
  (.block (.loop [(0, .any), (1, .any), (7, .int .i64), (8, .int .i64)] (fun n l h => s79l1_R (s79l1 Ψ n) l h) (fun L1 =>
  .seq (.reg [⟨none, [(0, false)]⟩])
  (.seq (.cond (.leaf)
  (.leaf))
  (.seq (.block (.seq (.reg [⟨none, [(0, false), (1, false)]⟩])
  (.seq (.reg [⟨none, [(0, false), (1, false), (2, false), (3, false), (4, false), (5, false)]⟩])
  (.cond (.seq (.reg [⟨none, [(0, false), (1, false)]⟩])
  (.leaf))
  (.leaf)))))
  (.reg [⟨none, [(0, false), (1, false)]⟩])))))))
  (.seq (.reg [⟨none, [(0, false)]⟩])
  (.leaf)))

theorem s79_ok {Ψ : AVal → Heap → Prop} {s : AVal} {f : AVal} {h : Heap} (H : s79 Ψ s f h) : ACalls prog 79 [s, f] h Ψ :=
  calls_of_evF func79 (by kernel_rfl) (by kernel_rfl) (by kernel_rfl)
    (Eq.mpr (by as_aux_lemma => kernel_rfl : oblF prog f79 (s79_A Ψ) Ψ = (True ∧ (True ∧ (∀ (h : Heap) (x0 x1 : AVal) (x2 x3 : Int), ON (s79l1 Ψ 0 x0 x1 x2 x3 h)) ∧ ∀ n1 : Nat, (∀ (h : Heap) (x0 x1 : AVal) (x2 x3 : Int), OI (s79l1 Ψ (n1 + 1) x0 x1 x2 x3 h)) ∧ (True ∧ (True ∧ True) ∧ (True ∧ True ∧ (True ∧ True) ∧ True) ∧ True)) ∧ True ∧ True)) ⟨trivial, ⟨⟨trivial, ⟨fun _ _ _ _ _ H => H, fun _ => ⟨fun _ _ _ _ _ H => H, ⟨trivial, ⟨⟨trivial, trivial⟩, ⟨⟨trivial, ⟨trivial, ⟨⟨trivial, trivial⟩, trivial⟩⟩⟩, trivial⟩⟩⟩⟩⟩⟩, ⟨trivial, trivial⟩⟩⟩)
    (Eq.mpr (by as_aux_lemma => kernel_rfl : evF prog f79 (s79_A Ψ) Ψ [s, f] h = s79 Ψ s f h) H)

/- 83 dictum/worlds.looked -/
def s83l2_R (F : AVal → Int → AVal → AVal → Int → Int → Heap → Prop) (l : List AVal) (h : Heap) : Prop := J.cons l fun x0 l => J.cons l fun v l => J.int .i64 v fun x1 => J.cons l fun x2 l => J.cons l fun x3 l => J.cons l fun v l => J.int .i64 v fun x4 => J.cons l fun v l => J.int .i64 v fun x5 => J.nil l (F x0 x1 x2 x3 x4 x5 h)
def s83l2_G (F : AVal → Int → AVal → AVal → Int → Int → Heap → Prop) (x0 : AVal) (x1 : Int) (x2 : AVal) (x3 : AVal) (x4 : Int) (x5 : Int) (h : Heap) : Prop := gJ [.any, .int .i64, .any, .any, .int .i64, .int .i64] [x0, (.int .i64 x1), x2, x3, (.int .i64 x4), (.int .i64 x5)] h (s83l2_R F)
def s83l2_E (F : Nat → AVal → Int → AVal → AVal → Int → Int → Heap → Prop) (x0 : AVal) (x1 : Int) (x2 : AVal) (x3 : AVal) (x4 : Int) (x5 : Int) (h : Heap) : Prop := gJ [.any, .int .i64, .any, .any, .int .i64, .int .i64] [x0, (.int .i64 x1), x2, x3, (.int .i64 x4), (.int .i64 x5)] h (fun l h => ∃ n, s83l2_R (F n) l h)
theorem s83l2_go {F : AVal → Int → AVal → AVal → Int → Int → Heap → Prop} {x0 : AVal} {x1 : Int} {x2 : AVal} {x3 : AVal} {x4 : Int} {x5 : Int} {h : Heap} (H : F x0 x1 x2 x3 x4 x5 h) : s83l2_G F x0 x1 x2 x3 x4 x5 h := gJ_plain rfl H
theorem s83l2_in {F : Nat → AVal → Int → AVal → AVal → Int → Int → Heap → Prop} {x0 : AVal} {x1 : Int} {x2 : AVal} {x3 : AVal} {x4 : Int} {x5 : Int} {h : Heap} (n : Nat) (H : F n x0 x1 x2 x3 x4 x5 h) : s83l2_E F x0 x1 x2 x3 x4 x5 h := gJ_plain rfl ⟨n, H⟩

def s83l3_R (F : AVal → Int → AVal → Int → AVal → AVal → Int → Int → Int → Int → Heap → Prop) (l : List AVal) (h : Heap) : Prop := J.cons l fun x0 l => J.cons l fun v l => J.int .i64 v fun x1 => J.cons l fun x2 l => J.cons l fun v l => J.int .i64 v fun x3 => J.cons l fun x4 l => J.cons l fun x5 l => J.cons l fun v l => J.int .i64 v fun x6 => J.cons l fun v l => J.int .i64 v fun x7 => J.cons l fun v l => J.int .i64 v fun x8 => J.cons l fun v l => J.int .i64 v fun x9 => J.nil l (F x0 x1 x2 x3 x4 x5 x6 x7 x8 x9 h)
def s83l3_G (F : AVal → Int → AVal → Int → AVal → AVal → Int → Int → Int → Int → Heap → Prop) (x0 : AVal) (x1 : Int) (x2 : AVal) (x3 : Int) (x4 : AVal) (x5 : AVal) (x6 : Int) (x7 : Int) (x8 : Int) (x9 : Int) (h : Heap) : Prop := gJ [.any, .int .i64, .any, .int .i64, .any, .any, .int .i64, .int .i64, .int .i64, .int .i64] [x0, (.int .i64 x1), x2, (.int .i64 x3), x4, x5, (.int .i64 x6), (.int .i64 x7), (.int .i64 x8), (.int .i64 x9)] h (s83l3_R F)
def s83l3_E (F : Nat → AVal → Int → AVal → Int → AVal → AVal → Int → Int → Int → Int → Heap → Prop) (x0 : AVal) (x1 : Int) (x2 : AVal) (x3 : Int) (x4 : AVal) (x5 : AVal) (x6 : Int) (x7 : Int) (x8 : Int) (x9 : Int) (h : Heap) : Prop := gJ [.any, .int .i64, .any, .int .i64, .any, .any, .int .i64, .int .i64, .int .i64, .int .i64] [x0, (.int .i64 x1), x2, (.int .i64 x3), x4, x5, (.int .i64 x6), (.int .i64 x7), (.int .i64 x8), (.int .i64 x9)] h (fun l h => ∃ n, s83l3_R (F n) l h)
theorem s83l3_go {F : AVal → Int → AVal → Int → AVal → AVal → Int → Int → Int → Int → Heap → Prop} {x0 : AVal} {x1 : Int} {x2 : AVal} {x3 : Int} {x4 : AVal} {x5 : AVal} {x6 : Int} {x7 : Int} {x8 : Int} {x9 : Int} {h : Heap} (H : F x0 x1 x2 x3 x4 x5 x6 x7 x8 x9 h) : s83l3_G F x0 x1 x2 x3 x4 x5 x6 x7 x8 x9 h := gJ_plain rfl H
theorem s83l3_in {F : Nat → AVal → Int → AVal → Int → AVal → AVal → Int → Int → Int → Int → Heap → Prop} {x0 : AVal} {x1 : Int} {x2 : AVal} {x3 : Int} {x4 : AVal} {x5 : AVal} {x6 : Int} {x7 : Int} {x8 : Int} {x9 : Int} {h : Heap} (n : Nat) (H : F n x0 x1 x2 x3 x4 x5 x6 x7 x8 x9 h) : s83l3_E F x0 x1 x2 x3 x4 x5 x6 x7 x8 x9 h := gJ_plain rfl ⟨n, H⟩

def s83c4 (Ψ : AVal → Heap → Prop) (L2 : AVal → Int → AVal → AVal → Int → Int → Heap → Prop) (L3 : AVal → Int → AVal → Int → AVal → AVal → Int → Int → Int → Int → Heap → Prop) (m3 : AVal) (n7 : Int) (leq2 : AVal) (a1 : Int) (l_7 : AVal) (t34_2 : AVal) (t35_2 : Int) (t36_2 : Int) (t44_1 : Int) (t45_1 : Int) (h : Heap) : Prop :=
  rg (t45_1 + 1) (
    L3 m3 n7 leq2 a1 l_7 t34_2 t35_2 t36_2 t44_1 (t45_1 + 1) h)

def s83c6 (Ψ : AVal → Heap → Prop) (L2 : AVal → Int → AVal → AVal → Int → Int → Heap → Prop) (L3 : AVal → Int → AVal → Int → AVal → AVal → Int → Int → Int → Int → Heap → Prop) (m5 : AVal) (n9 : Int) (leq4 : AVal) (a3 : Int) (l_9 : AVal) (t34_4 : AVal) (t35_4 : Int) (t36_4 : Int) (t44_3 : Int) (t45_3 : Int) (t66 : Bool) (h : Heap) : Prop :=
  ifT t66 (
    retG (.tuple [.nilfunc, (.bool false)]) h Ψ) (
    s83c4 Ψ L2 L3 m5 n9 leq4 a3 l_9 t34_4 t35_4 t36_4 t44_3 t45_3 h)

def s83c5 (Ψ : AVal → Heap → Prop) (L2 : AVal → Int → AVal → AVal → Int → Int → Heap → Prop) (L3 : AVal → Int → AVal → Int → AVal → AVal → Int → Int → Int → Int → Heap → Prop) (m4 : AVal) (n8 : Int) (leq3 : AVal) (a2 : Int) (l_8 : AVal) (b : AVal) (t34_3 : AVal) (t35_3 : Int) (t36_3 : Int) (t44_2 : Int) (t45_2 : Int) (t57 : Bool) (h : Heap) : Prop :=
  ifT t57 (
    s83c4 Ψ L2 L3 m4 n8 leq3 a2 l_8 t34_3 t35_3 t36_3 t44_2 t45_2 h) (
    ld1 h b fun v10 =>
    tInt .i64 v10 fun v11 =>
    callV prog leq3 [(.int .i64 v11), (.int .i64 a2)] h fun v12 h_4 =>
    tBool v12 fun v13 =>
    ifT v13 (
      s83c6 Ψ L2 L3 m4 n8 leq3 a2 l_8 t34_3 t35_3 t36_3 t44_2 t45_2 true h_4) (
      callG prog 44 [l_8, (.func (.func 89) [] [m4, b])] h_4 fun v14 h_5 =>
      tBool v14 fun v15 =>
      s83c6 Ψ L2 L3 m4 n8 leq3 a2 l_8 t34_3 t35_3 t36_3 t44_2 t45_2 v15 h_5))

def s83l3 (Ψ : AVal → Heap → Prop) (L2 : AVal → Int → AVal → AVal → Int → Int → Heap → Prop) : Nat → AVal → Int → AVal → Int → AVal → AVal → Int → Int → Int → Int → Heap → Prop
  | 0, _, _, _, _, _, _, _, _, _, _, _ => False
  | n6 + 1, m2, n5, leq1, a, l_6, t34_1, t35_1, t36_1, t44, t45, h =>
    ifT (decide (t45 < t44)) (
      Sym.newRow 1 [(.int .i64 0)] h fun r h_2 =>
      st true h_2 (.ptr r 0 0) [(.int .i64 t45)] fun h_3 =>
      ld1 h_3 (.ptr r 0 0) fun v16 =>
      tInt .i64 v16 fun v17 =>
      ifT (a == v17) (
        s83c5 Ψ L2 (s83l3_G (s83l3 Ψ L2 n6)) m2 n5 leq1 a l_6 (.ptr r 0 0) t34_1 t35_1 t36_1 t44 t45 true h_3) (
        ld1 h_3 (.ptr r 0 0) fun v18 =>
        tInt .i64 v18 fun v19 =>
        callV prog leq1 [(.int .i64 a), (.int .i64 v19)] h_3 fun v20 h_6 =>
        tBool v20 fun v21 =>
        s83c5 Ψ L2 (s83l3_G (s83l3 Ψ L2 n6)) m2 n5 leq1 a l_6 (.ptr r 0 0) t34_1 t35_1 t36_1 t44 t45 (!v21) h_6)) (
      rg (t36_1 + 1) (
        L2 m2 n5 leq1 t34_1 t35_1 (t36_1 + 1) h))

def s83l2 (Ψ : AVal → Heap → Prop) : Nat → AVal → Int → AVal → AVal → Int → Int → Heap → Prop
  | 0, _, _, _, _, _, _, _ => False
  | n4 + 1, m1, n3, leq, t34, t35, t36, h =>
    ifT (decide (t36 < t35)) (
      ixS 1 t34 t36 fun p1 =>
      ld1 h p1 fun v7 =>
      callG prog 88 [v7] h fun v8 h_1 =>
      tBool v8 fun v9 =>
      ifT (!v9) (
        retG (.tuple [.nilfunc, (.bool false)]) h_1 Ψ) (
        s83l3_E (s83l3 Ψ (s83l2_G (s83l2 Ψ n4))) m1 n3 leq t36 v7 t34 t35 t36 n3 0 h_1)) (
      retG (.tuple [leq, (.bool true)]) h Ψ)

def s83c1 (Ψ : AVal → Heap → Prop) (m : AVal) (n1 : Int) (t25 : Bool) (h : Heap) : Prop :=
  ifT t25 (
    retG (.tuple [.nilfunc, (.bool false)]) h Ψ) (
    ldN 2 h m fun l_ =>
    tCons l_ fun v l_1 =>
    tCons l_1 fun v1 l_2 =>
    tNil l_2 (
      callG prog 87 [(.agg [v, v1])] h fun v2 h_ =>
      tTup v2 fun l_3 =>
      tCons l_3 fun v3 l_4 =>
      tCons l_4 fun v4 l_5 =>
      tBool v4 fun v5 =>
      tNil l_5 (
        ifT (!v5) (
          retG (.tuple [.nilfunc, (.bool false)]) h_ Ψ) (
          addOff m 1 fun p =>
          ld1 h_ p fun v6 =>
          lenN v6 fun n2 =>
          s83l2_E (s83l2 Ψ) m n1 v3 v6 n2 0 h_))))

def s83 (Ψ : AVal → Heap → Prop) (m_Up : AVal) (m_Val : AVal) (h : Heap) : Prop :=
  lenN m_Up fun n =>
  ifT (decide (n < 1)) (
    s83c1 Ψ (.lptr [m_Up, m_Val]) n true h) (
    ifT (decide (512 < n)) (
      s83c1 Ψ (.lptr [m_Up, m_Val]) n true h) (
      lenN m_Val fun n12 =>
      s83c1 Ψ (.lptr [m_Up, m_Val]) n (n12 != n) h))

def s83_A (Ψ : AVal → Heap → Prop) : Ann :=
  .seq (.reg [⟨none, [(0, true), (1, false), (2, false)]⟩])
  (.seq (.reg [⟨none, [(0, false), (1, false), (2, false), (3, false)]⟩])
  (.seq (.cut [(1, .any), (4, .int .i64), (25, .bool)] (fun l h => J.cons l fun x0 l => J.cons l fun v l => J.int .i64 v fun x1 => J.cons l fun v l => J.bool v fun x2 => J.nil l (s83c1 Ψ x0 x1 x2 h)) (.reg [⟨none, [(0, false), (1, false), (2, false)]⟩, ⟨some (15, false), [(3, false), (4, false)]⟩, ⟨none, [(5, false), (6, false)]⟩, ⟨some (19, false), [(7, false), (8, false), (9, false), (10, false), (11, false)]⟩, ⟨none, [(12, false)]⟩])
  (.cond (.seq (.reg [⟨none, [(0, false), (1, false)]⟩])
  (.leaf))
  (.leaf)))
  (.seq (.reg [⟨none, [(0, false), (1, false), (2, false), (3, false), (4, false), (5, false), (6, false)]⟩])
  (.seq (.seq (.reg [⟨none, [(0, false), (1, false)]⟩])
  (.cond (.seq (.reg [⟨none, [(0, false), (1, false)]⟩])
  (.leaf))
  (.leaf)))
  (.seq (.seq (.reg [⟨none, [(0, false), (1, false), (2, false), (3, false)]⟩])
  (.block (.loop [(1, .any), (4, .int .i64), (5, .any), (34, .any), (35, .int .i64), (36, .int .i64)] (fun n l h => s83l2_R (s83l2 Ψ n) l h) (fun L2 =>
  .seq (.reg [⟨none, [(0, false)]⟩])
  (.seq (.cond (.leaf)
  (.leaf))
  (.seq (.block (.seq (.reg [⟨none, [(0, false), (1, false), (2, false), (3, false), (4, false)]⟩])
  (.seq (.seq (.reg [⟨none, [(0, false), (1, false), (2, false)]⟩])
  (.cond (.seq (.reg [⟨none, [(0, false), (1, false)]⟩])
  (.leaf))
  (.leaf)))
  (.seq (.reg [⟨none, [(0, false), (1, false)]⟩])
  (.block (.loop [(1, .any), (4, .int .i64), (5, .any), (7, .int .i64), (8, .any), (34, .any), (35, .int .i64), (36, .int .i64), (44, .int .i64), (45, .int .i64)] (fun n l h => s83l3_R (s83l3 Ψ (fun y0 y1 y2 y3 y4 y5 h => L2 [y0, (.int .i64 y1), y2, y3, (.int .i64 y4), (.int .i64 y5)] h) n) l h) (fun L3 =>
  .seq (.reg [⟨none, [(0, false)]⟩])
  (.seq (.cond (.leaf)
  (.leaf))
  (.cut [(1, .any), (4, .int .i64), (5, .any), (7, .int .i64), (8, .any), (34, .any), (35, .int .i64), (36, .int .i64), (44, .int .i64), (45, .int .i64)] (fun l h => J.cons l fun x0 l => J.cons l fun v l => J.int .i64 v fun x1 => J.cons l fun x2 l => J.cons l fun v l => J.int .i64 v fun x3 => J.cons l fun x4 l => J.cons l fun x5 l => J.cons l fun v l => J.int .i64 v fun x6 => J.cons l fun v l => J.int .i64 v fun x7 => J.cons l fun v l => J.int .i64 v fun x8 => J.cons l fun v l => J.int .i64 v fun x9 => J.nil l (s83c4 Ψ (fun y0 y1 y2 y3 y4 y5 h => L2 [y0, (.int .i64 y1), y2, y3, (.int .i64 y4), (.int .i64 y5)] h) (fun y0 y1 y2 y3 y4 y5 y6 y7 y8 y9 h => L3 [y0, (.int .i64 y1), y2, (.int .i64 y3), y4, y5, (.int .i64 y6), (.int .i64 y7), (.int .i64 y8), (.int .i64 y9)] h) x0 x1 x2 x3 x4 x5 x6 x7 x8 x9 h)) (.block (.seq (.reg [⟨none, [(0, false), (1, false), (2, false)]⟩])
  (.seq (.cut [(1, .any), (4, .int .i64), (5, .any), (7, .int .i64), (8, .any), (9, .any), (34, .any), (35, .int .i64), (36, .int .i64), (44, .int .i64), (45, .int .i64), (57, .bool)] (fun l h => J.cons l fun x0 l => J.cons l fun v l => J.int .i64 v fun x1 => J.cons l fun x2 l => J.cons l fun v l => J.int .i64 v fun x3 => J.cons l fun x4 l => J.cons l fun x5 l => J.cons l fun x6 l => J.cons l fun v l => J.int .i64 v fun x7 => J.cons l fun v l => J.int .i64 v fun x8 => J.cons l fun v l => J.int .i64 v fun x9 => J.cons l fun v l => J.int .i64 v fun x10 => J.cons l fun v l => J.bool v fun x11 => J.nil l (s83c5 Ψ (fun y0 y1 y2 y3 y4 y5 h => L2 [y0, (.int .i64 y1), y2, y3, (.int .i64 y4), (.int .i64 y5)] h) (fun y0 y1 y2 y3 y4 y5 y6 y7 y8 y9 h => L3 [y0, (.int .i64 y1), y2, (.int .i64 y3), y4, y5, (.int .i64 y6), (.int .i64 y7), (.int .i64 y8), (.int .i64 y9)] h) x0 x1 x2 x3 x4 x5 x6 x7 x8 x9 x10 x11 h)) (.reg [⟨none, [(0, false), (1, false), (2, false), (3, false)]⟩, ⟨some (51, false), [(4, false), (5, false), (6, false), (7, false), (8, false)]⟩, ⟨none, [(9, false)]⟩])
  (.cond (.leaf)
  (.leaf)))
  (.cut [(1, .any), (4, .int .i64), (5, .any), (7, .int .i64), (8, .any), (34, .any), (35, .int .i64), (36, .int .i64), (44, .int .i64), (45, .int .i64), (66, .bool)] (fun l h => J.cons l fun x0 l => J.cons l fun v l => J.int .i64 v fun x1 => J.cons l fun x2 l => J.cons l fun v l => J.int .i64 v fun x3 => J.cons l fun x4 l => J.cons l fun x5 l => J.cons l fun v l => J.int .i64 v fun x6 => J.cons l fun v l => J.int .i64 v fun x7 => J.cons l fun v l => J.int .i64 v fun x8 => J.cons l fun v l => J.int .i64 v fun x9 => J.cons l fun v l => J.bool v fun x10 => J.nil l (s83c6 Ψ (fun y0 y1 y2 y3 y4 y5 h => L2 [y0, (.int .i64 y1), y2, y3, (.int .i64 y4), (.int .i64 y5)] h) (fun y0 y1 y2 y3 y4 y5 y6 y7 y8 y9 h => L3 [y0, (.int .i64 y1), y2, (.int .i64 y3), y4, y5, (.int .i64 y6), (.int .i64 y7), (.int .i64 y8), (.int .i64 y9)] h) x0 x1 x2 x3 x4 x5 x6 x7 x8 x9 x10 h)) (.reg [⟨none, [(0, false), (1, false), (2, false), (3, false), (4, false)]⟩, ⟨some (62, false), [(5, false), (6, false), (7, false)]⟩, ⟨none, [(8, false)]⟩])
  (.cond (.seq (.reg [⟨none, [(0, false), (1, false)]⟩])
  (.leaf))
  (.leaf))))))
  (.reg [⟨none, [(0, false), (1, false)]⟩]))))))))))
  (.reg [⟨none, [(0, false), (1, false)]⟩])))))))
  (.seq (.reg [⟨none, [(0, false), (1, false), (2, false)]⟩])
  (.leaf)))))))

theorem s83_ok {Ψ : AVal → Heap → Prop} {m_Up : AVal} {m_Val : AVal} {h : Heap} (H : s83 Ψ m_Up m_Val h) : ACalls prog 83 [(.agg [m_Up, m_Val])] h Ψ :=
  calls_of_evF func83 (by kernel_rfl) (by kernel_rfl) (by kernel_rfl)
    (Eq.mpr (by as_aux_lemma => kernel_rfl : oblF prog f83 (s83_A Ψ) Ψ = (True ∧ True ∧ ((True) ∧ (∀ (h : Heap) (x0 : AVal) (x1 : Int) (x2 : Bool), OI (s83c1 Ψ x0 x1 x2 h)) ∧ ((True ∧ True) ∧ True)) ∧ True ∧ (True ∧ (True ∧ True) ∧ True) ∧ (True ∧ (∀ (h : Heap) (x0 : AVal) (x1 : Int) (x2 x3 : AVal) (x4 x5 : Int), ON (s83l2 Ψ 0 x0 x1 x2 x3 x4 x5 h)) ∧ ∀ n2 : Nat, (∀ (h : Heap) (x0 : AVal) (x1 : Int) (x2 x3 : AVal) (x4 x5 : Int), OI (s83l2 Ψ (n2 + 1) x0 x1 x2 x3 x4 x5 h)) ∧ (True ∧ (True ∧ True) ∧ (True ∧ (True ∧ (True ∧ True) ∧ True) ∧ True ∧ (∀ (h : Heap) (x0 : AVal) (x1 : Int) (x2 : AVal) (x3 : Int) (x4 x5 : AVal) (x6 x7 x8 x9 : Int), ON (s83l3 Ψ (s83l2_G (s83l2 Ψ n2)) 0 x0 x1 x2 x3 x4 x5 x6 x7 x8 x9 h)) ∧ ∀ n3 : Nat, (∀ (h : Heap) (x0 : AVal) (x1 : Int) (x2 : AVal) (x3 : Int) (x4 x5 : AVal) (x6 x7 x8 x9 : Int), OI (s83l3 Ψ (s83l2_G (s83l2 Ψ n2)) (n3 + 1) x0 x1 x2 x3 x4 x5 x6 x7 x8 x9 h)) ∧ (True ∧ (True ∧ True) ∧ (True ∧ ((True) ∧ (∀ (h : Heap) (x0 : AVal) (x1 : Int) (x2 : AVal) (x3 : Int) (x4 x5 x6 : AVal) (x7 x8 x9 x10 : Int) (x11 : Bool), OI (s83c5 Ψ (s83l2_G (s83l2 Ψ n2)) (s83l3_G (s83l3 Ψ (s83l2_G (s83l2 Ψ n2)) n3)) x0 x1 x2 x3 x4 x5 x6 x7 x8 x9 x10 x11 h)) ∧ (True ∧ True)) ∧ (True) ∧ (∀ (h : Heap) (x0 : AVal) (x1 : Int) (x2 : AVal) (x3 : Int) (x4 x5 : AVal) (x6 x7 x8 x9 : Int) (x10 : Bool), OI (s83c6 Ψ (s83l2_G (s83l2 Ψ n2)) (s83l3_G (s83l3 Ψ (s83l2_G (s83l2 Ψ n2)) n3)) x0 x1 x2 x3 x4 x5 x6 x7 x8 x9 x10 h)) ∧ ((True ∧ True) ∧ True)) ∧ (∀ (h : Heap) (x0 : AVal) (x1 : Int) (x2 : AVal) (x3 : Int) (x4 x5 : AVal) (x6 x7 x8 x9 : Int), OI (s83c4 Ψ (s83l2_G (s83l2 Ψ n2)) (s83l3_G (s83l3 Ψ (s83l2_G (s83l2 Ψ n2)) n3)) x0 x1 x2 x3 x4 x5 x6 x7 x8 x9 h)) ∧ (True))) ∧ True)) ∧ True ∧ True)) ⟨trivial, ⟨trivial, ⟨⟨trivial, fun _ _ _ _ H => H, ⟨⟨trivial, trivial⟩, trivial⟩⟩, ⟨trivial, ⟨⟨trivial, ⟨⟨trivial, trivial⟩, trivial⟩⟩, ⟨⟨trivial, ⟨fun _ _ _ _ _ _ _ H => H, fun _ => ⟨fun _ _ _ _ _ _ _ H => H, ⟨trivial, ⟨⟨trivial, trivial⟩, ⟨⟨trivial, ⟨⟨trivial, ⟨⟨trivial, trivial⟩, trivial⟩⟩, ⟨trivial, ⟨fun _ _ _ _ _ _ _ _ _ _ _ H => H, fun _ => ⟨fun _ _ _ _ _ _ _ _ _ _ _ H => H, ⟨trivial, ⟨⟨trivial, trivial⟩, ⟨⟨trivial, ⟨⟨trivial, fun _ _ _ _ _ _ _ _ _ _ _ _ _ H => H, ⟨trivial, trivial⟩⟩, ⟨trivial, fun _ _ _ _ _ _ _ _ _ _ _ _ H => H, ⟨⟨trivial, trivial⟩, trivial⟩⟩⟩⟩, fun _ _ _ _ _ _ _ _ _ _ _ H => H, trivial⟩⟩⟩⟩⟩⟩⟩⟩, trivial⟩⟩⟩⟩⟩⟩, ⟨trivial, trivial⟩⟩⟩⟩⟩⟩⟩)
    (Eq.mpr (by as_aux_lemma => kernel_rfl : evF prog f83 (s83_A Ψ) Ψ [(.agg [m_Up, m_Val])] h = s83 Ψ m_Up m_Val h) H)

/- 85 (*dictum/dictumref03.T).Find -/
def s85l1_R (F : AVal → AVal → Int → Heap → Prop) (l : List AVal) (h : Heap) : Prop := J.cons l fun x0 l => J.cons l fun x1 l => J.cons l fun v l => J.int .i64 v fun x2 => J.nil l (F x0 x1 x2 h)
def s85l1_G (F : AVal → AVal → Int → Heap → Prop) (x0 : AVal) (x1 : AVal) (x2 : Int) (h : Heap) : Prop := gJ [.any, .any, .int .i64] [x0, x1, (.int .i64 x2)] h (s85l1_R F)
def s85l1_E (F : Nat → AVal → AVal → Int → Heap → Prop) (x0 : AVal) (x1 : AVal) (x2 : Int) (h : Heap) : Prop := gJ [.any, .any, .int .i64] [x0, x1, (.int .i64 x2)] h (fun l h => ∃ n, s85l1_R (F n) l h)
theorem s85l1_go {F : AVal → AVal → Int → Heap → Prop} {x0 : AVal} {x1 : AVal} {x2 : Int} {h : Heap} (H : F x0 x1 x2 h) : s85l1_G F x0 x1 x2 h := gJ_plain rfl H
theorem s85l1_in {F : Nat → AVal → AVal → Int → Heap → Prop} {x0 : AVal} {x1 : AVal} {x2 : Int} {h : Heap} (n : Nat) (H : F n x0 x1 x2 h) : s85l1_E F x0 x1 x2 h := gJ_plain rfl ⟨n, H⟩

def s85l1 (Ψ : AVal → Heap → Prop) : Nat → AVal → AVal → Int → Heap → Prop
  | 0, _, _, _, _ => False
  | n1 + 1, t1, n, i, h =>
    nilCheckA t1 fun p =>
    addOff p 0 fun p1 =>
    ld1 h p1 fun v =>
    lenN v fun n2 =>
    ifT (decide (i < n2)) (
      nilCheckA t1 fun p2 =>
      addOff p2 0 fun p3 =>
      ld1 h p3 fun v1 =>
      ixS 4 v1 i fun p4 =>
      ldN 4 h p4 fun l_ =>
      tCons l_ fun v2 l_1 =>
      tInt .i64 v2 fun v3 =>
      tCons l_1 fun v4 l_2 =>
      tStr v4 fun v5 =>
      tCons l_2 fun v6 l_3 =>
      tInt .i64 v6 fun v7 =>
      tCons l_3 fun v8 l_4 =>
      tInt .i64 v8 fun v9 =>
      tNil l_4 (
        ldN 4 h n fun l_5 =>
        tCons l_5 fun v10 l_6 =>
        tInt .i64 v10 fun v11 =>
        tCons l_6 fun v12 l_7 =>
        tStr v12 fun v13 =>
        tCons l_7 fun v14 l_8 =>
        tInt .i64 v14 fun v15 =>
        tCons l_8 fun v16 l_9 =>
        tInt .i64 v16 fun v17 =>
        tNil l_9 (
          eqQ prog 115 (.agg [(.int .i64 v3), (.str v5), (.int .i64 v7), (.int .i64 v9)]) (.agg [(.int .i64 v11), (.str v13), (.int .i64 v15), (.int .i64 v17)]) fun b =>
          ifT b (
            retG (.tuple [(.int .i64 i), (.bool true)]) h Ψ) (
            rg (i + 1) (
              s85l1_G (s85l1 Ψ n1) t1 n (i + 1) h))))) (
      retG (.tuple [(.int .i64 0), (.bool false)]) h Ψ)

def s85 (Ψ : AVal → Heap → Prop) (t : AVal) (n_Kind : Int) (n_Name : ByteArray) (n_L : Int) (n_R : Int) (h : Heap) : Prop :=
  s85l1_E (s85l1 Ψ) t (.lptr [(.int .i64 n_Kind), (.str n_Name), (.int .i64 n_L), (.int .i64 n_R)]) 0 h

def s85_A (Ψ : AVal → Heap → Prop) : Ann :=
  .seq (.reg [⟨none, [(0, true), (1, false), (2, false)]⟩])
  (.seq (.seq (.reg [⟨none, [(0, false)]⟩])
  (.block (.loop [(0, .any), (3, .any), (6, .int .i64)] (fun n l h => s85l1_R (s85l1 Ψ n) l h) (fun L1 =>
  .seq (.seq (.reg [⟨none, [(0, false), (1, false), (2, false), (3, false), (4, false), (5, false), (6, false)]⟩])
  (.cond (.leaf)
  (.leaf)))
  (.seq (.block (.seq (.draw [(0, false), (1, false), (2, false), (3, false), (4, false), (5, false), (6, false), (7, false), (8, false)] [0, 1, 3, 7, 0, 31, 63, 0, 255])
  (.cond (.seq (.reg [⟨none, [(0, false), (1, false), (2, false)]⟩])
  (.leaf))
  (.leaf))))
  (.reg [⟨none, [(0, false), (1, false), (2, false)]⟩]))))))
  (.seq (.reg [⟨none, [(0, false), (1, false)]⟩])
  (.leaf)))

theorem s85_ok {Ψ : AVal → Heap → Prop} {t : AVal} {n_Kind : Int} {n_Name : ByteArray} {n_L : Int} {n_R : Int} {h : Heap} (H : s85 Ψ t n_Kind n_Name n_L n_R h) : ACalls prog 85 [t, (.agg [(.int .i64 n_Kind), (.str n_Name), (.int .i64 n_L), (.int .i64 n_R)])] h Ψ :=
  calls_of_evF func85 (by kernel_rfl) (by kernel_rfl) (by kernel_rfl)
    (Eq.mpr (by as_aux_lemma => kernel_rfl : oblF prog f85 (s85_A Ψ) Ψ = (True ∧ (True ∧ (∀ (h : Heap) (x0 x1 : AVal) (x2 : Int), ON (s85l1 Ψ 0 x0 x1 x2 h)) ∧ ∀ n1 : Nat, (∀ (h : Heap) (x0 x1 : AVal) (x2 : Int), OI (s85l1 Ψ (n1 + 1) x0 x1 x2 h)) ∧ ((True ∧ True ∧ True) ∧ (True ∧ (True ∧ True) ∧ True) ∧ True)) ∧ True ∧ True)) ⟨trivial, ⟨⟨trivial, ⟨fun _ _ _ _ H => H, fun _ => ⟨fun _ _ _ _ H => H, ⟨⟨trivial, ⟨trivial, trivial⟩⟩, ⟨⟨trivial, ⟨⟨trivial, trivial⟩, trivial⟩⟩, trivial⟩⟩⟩⟩⟩, ⟨trivial, trivial⟩⟩⟩)
    (Eq.mpr (by as_aux_lemma => kernel_rfl : evF prog f85 (s85_A Ψ) Ψ [t, (.agg [(.int .i64 n_Kind), (.str n_Name), (.int .i64 n_L), (.int .i64 n_R)])] h = s85 Ψ t n_Kind n_Name n_L n_R h) H)

/- 88 dictum/worlds.rising -/
def s88l1_R (F : AVal → AVal → Int → Int → Heap → Prop) (l : List AVal) (h : Heap) : Prop := J.cons l fun x0 l => J.cons l fun x1 l => J.cons l fun v l => J.int .i64 v fun x2 => J.cons l fun v l => J.int .i64 v fun x3 => J.nil l (F x0 x1 x2 x3 h)
def s88l1_G (F : AVal → AVal → Int → Int → Heap → Prop) (x0 : AVal) (x1 : AVal) (x2 : Int) (x3 : Int) (h : Heap) : Prop := gJ [.any, .any, .int .i64, .int .i64] [x0, x1, (.int .i64 x2), (.int .i64 x3)] h (s88l1_R F)
def s88l1_E (F : Nat → AVal → AVal → Int → Int → Heap → Prop) (x0 : AVal) (x1 : AVal) (x2 : Int) (x3 : Int) (h : Heap) : Prop := gJ [.any, .any, .int .i64, .int .i64] [x0, x1, (.int .i64 x2), (.int .i64 x3)] h (fun l h => ∃ n, s88l1_R (F n) l h)
theorem s88l1_go {F : AVal → AVal → Int → Int → Heap → Prop} {x0 : AVal} {x1 : AVal} {x2 : Int} {x3 : Int} {h : Heap} (H : F x0 x1 x2 x3 h) : s88l1_G F x0 x1 x2 x3 h := gJ_plain rfl H
theorem s88l1_in {F : Nat → AVal → AVal → Int → Int → Heap → Prop} {x0 : AVal} {x1 : AVal} {x2 : Int} {x3 : Int} {h : Heap} (n : Nat) (H : F n x0 x1 x2 x3 h) : s88l1_E F x0 x1 x2 x3 h := gJ_plain rfl ⟨n, H⟩

def s88c2 (Ψ : AVal → Heap → Prop) (L1 : AVal → AVal → Int → Int → Heap → Prop) (l_2 : AVal) (t5_1 : AVal) (t6_1 : Int) (t7_1 : Int) (t27 : Bool) (h : Heap) : Prop :=
  ifT t27 (
    retG (.bool false) h Ψ) (
    rg (t7_1 + 1) (
      L1 l_2 t5_1 t6_1 (t7_1 + 1) h))

def s88l1 (Ψ : AVal → Heap → Prop) : Nat → AVal → AVal → Int → Int → Heap → Prop
  | 0, _, _, _, _, _ => False
  | n1 + 1, l_1, t5, t6, t7, h =>
    ifT (decide (t7 < t6)) (
      ixS 1 t5 t7 fun p =>
      ld1 h p fun v =>
      tStr v fun v1 =>
      callG prog 42 [(.str v1)] h fun v2 h_ =>
      tBool v2 fun v3 =>
      ifT (!v3) (
        s88c2 Ψ (s88l1_G (s88l1 Ψ n1)) l_1 t5 t6 t7 true h_) (
        ifT (decide (0 < t7)) (
          rg (t7 - 1) (
            ixS 1 l_1 (t7 - 1) fun p1 =>
            ld1 h_ p1 fun v4 =>
            tStr v4 fun v5 =>
            s88c2 Ψ (s88l1_G (s88l1 Ψ n1)) l_1 t5 t6 t7 (!strLt v5 v1) h_)) (
          s88c2 Ψ (s88l1_G (s88l1 Ψ n1)) l_1 t5 t6 t7 false h_))) (
      retG (.bool true) h Ψ)

def s88 (Ψ : AVal → Heap → Prop) (l_ : AVal) (h : Heap) : Prop :=
  lenN l_ fun n =>
  s88l1_E (s88l1 Ψ) l_ l_ n 0 h

def s88_A (Ψ : AVal → Heap → Prop) : Ann :=
  .seq (.reg [⟨none, [(0, false)]⟩])
  (.seq (.seq (.reg [⟨none, [(0, false), (1, false), (2, false)]⟩])
  (.block (.loop [(0, .any), (5, .any), (6, .int .i64), (7, .int .i64)] (fun n l h => s88l1_R (s88l1 Ψ n) l h) (fun L1 =>
  .seq (.reg [⟨none, [(0, false)]⟩])
  (.seq (.cond (.leaf)
  (.leaf))
  (.seq (.block (.seq (.reg [⟨none, [(0, false), (1, false), (2, false), (3, false), (4, false)]⟩])
  (.cut [(0, .any), (5, .any), (6, .int .i64), (7, .int .i64), (27, .bool)] (fun l h => J.cons l fun x0 l => J.cons l fun x1 l => J.cons l fun v l => J.int .i64 v fun x2 => J.cons l fun v l => J.int .i64 v fun x3 => J.cons l fun v l => J.bool v fun x4 => J.nil l (s88c2 Ψ (fun y0 y1 y2 y3 h => L1 [y0, y1, (.int .i64 y2), (.int .i64 y3)] h) x0 x1 x2 x3 x4 h)) (.reg [⟨none, [(0, false), (1, false), (2, false), (3, false)]⟩, ⟨some (15, false), [(4, false), (5, false), (6, false)]⟩, ⟨some (18, true), [(7, false), (8, false), (9, false), (10, false), (11, false), (12, false), (13, false)]⟩, ⟨some (15, false), [(14, false)]⟩, ⟨none, [(15, false)]⟩])
  (.cond (.seq (.reg [⟨none, [(0, false)]⟩])
  (.leaf))
  (.leaf)))))
  (.reg [⟨none, [(0, false), (1, false)]⟩])))))))
  (.seq (.reg [⟨none, [(0, false)]⟩])
  (.leaf)))

theorem s88_ok {Ψ : AVal → Heap → Prop} {l_ : AVal} {h : Heap} (H : s88 Ψ l_ h) : ACalls prog 88 [l_] h Ψ :=
  calls_of_evF func88 (by kernel_rfl) (by kernel_rfl) (by kernel_rfl)
    (Eq.mpr (by as_aux_lemma => kernel_rfl : oblF prog f88 (s88_A Ψ) Ψ = (True ∧ (True ∧ (∀ (h : Heap) (x0 x1 : AVal) (x2 x3 : Int), ON (s88l1 Ψ 0 x0 x1 x2 x3 h)) ∧ ∀ n1 : Nat, (∀ (h : Heap) (x0 x1 : AVal) (x2 x3 : Int), OI (s88l1 Ψ (n1 + 1) x0 x1 x2 x3 h)) ∧ (True ∧ (True ∧ True) ∧ (True ∧ (True) ∧ (∀ (h : Heap) (x0 x1 : AVal) (x2 x3 : Int) (x4 : Bool), OI (s88c2 Ψ (s88l1_G (s88l1 Ψ n1)) x0 x1 x2 x3 x4 h)) ∧ ((True ∧ True) ∧ True)) ∧ True)) ∧ True ∧ True)) ⟨trivial, ⟨⟨trivial, ⟨fun _ _ _ _ _ H => H, fun _ => ⟨fun _ _ _ _ _ H => H, ⟨trivial, ⟨⟨trivial, trivial⟩, ⟨⟨trivial, ⟨trivial, fun _ _ _ _ _ _ H => H, ⟨⟨trivial, trivial⟩, trivial⟩⟩⟩, trivial⟩⟩⟩⟩⟩⟩, ⟨trivial, trivial⟩⟩⟩)
    (Eq.mpr (by as_aux_lemma => kernel_rfl : evF prog f88 (s88_A Ψ) Ψ [l_] h = s88 Ψ l_ h) H)

/- 90 dictum/worlds.reckon$1 -/
def s90 (Ψ : AVal → Heap → Prop) (a : Int) (b : Int) (c0 : AVal) (h : Heap) : Prop :=
  ld1 h c0 fun v =>
  ixS 1 v a fun p =>
  ld1 h p fun v1 =>
  ixS 1 v1 b fun p1 =>
  ld1 h p1 fun v2 =>
  tBool v2 fun v3 =>
  retG (.bool v3) h Ψ

def s90_A (Ψ : AVal → Heap → Prop) : Ann :=
  .seq (.reg [⟨none, [(0, false)]⟩])
  (.seq (.reg [⟨none, [(0, false), (1, false), (2, false), (3, false), (4, false), (5, false), (6, false), (7, false)]⟩])
  (.leaf))

theorem s90_ok {Ψ : AVal → Heap → Prop} {a : Int} {b : Int} {c0 : AVal} {h : Heap} (H : s90 Ψ a b c0 h) : ACalls prog 90 [(.int .i64 a), (.int .i64 b), c0] h Ψ :=
  calls_of_evF func90 (by kernel_rfl) (by kernel_rfl) (by kernel_rfl)
    (Eq.mpr (by as_aux_lemma => kernel_rfl : oblF prog f90 (s90_A Ψ) Ψ = (True ∧ True ∧ True)) ⟨trivial, ⟨trivial, trivial⟩⟩)
    (Eq.mpr (by as_aux_lemma => kernel_rfl : evF prog f90 (s90_A Ψ) Ψ [(.int .i64 a), (.int .i64 b), c0] h = s90 Ψ a b c0 h) H)

end Go.Proofs.Ytinficcdpggiaaa

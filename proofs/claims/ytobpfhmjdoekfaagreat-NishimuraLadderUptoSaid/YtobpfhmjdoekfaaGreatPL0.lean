/- The functions that the proof meets, each as a text that Lean has checked against the program. No condition. -/
import Derived.Test.YtobpfhmjdoekfaaGreatM3
import Derived.Test.YtobpfhmjdoekfaaGreatChecked
namespace Go.Proofs.YtobpfhmjdoekfaaGreat
open Go Go.Sym Go.Proofs.Tryz
set_option maxRecDepth 100000
set_option linter.unusedVariables false

/- 3 dictum/dictumlaw26.NishimuraLadder -/
def s3 (Ψ : AVal → Heap → Prop) (rows : AVal) (atom : ByteArray) (k : Int) (h : Heap) : Prop :=
  callG prog 6 [rows] h fun v h_ =>
  tTup v fun l_ =>
  tCons l_ fun v1 l_1 =>
  tCons l_1 fun v2 l_2 =>
  tNil l_2 (
    callG prog 7 [v1, (.str atom), (.int .i64 k)] h_ fun v3 h_1 =>
    tTup v3 fun l_3 =>
    tCons l_3 fun v4 l_4 =>
    tInt .i64 v4 fun v5 =>
    tCons l_4 fun v6 l_5 =>
    tInt .i64 v6 fun v7 =>
    tNil l_5 (
      callG prog 8 [v2, (.str atom), (.int .i64 k)] h_1 fun v8 h_2 =>
      tTup v8 fun l_6 =>
      tCons l_6 fun v9 l_7 =>
      tInt .i64 v9 fun v10 =>
      tCons l_7 fun v11 l_8 =>
      tInt .i64 v11 fun v12 =>
      tNil l_8 (
        ifT (v5 == v10) (
          callG prog 9 [(.int .i64 v7)] h_2 fun v13 h_3 =>
          tInt .i64 v13 fun v14 =>
          ifT (v14 == v12) (
            callG prog 10 [v1, v2] h_3 fun v15 h_4 =>
            tBool v15 fun v16 =>
            ifT v16 (
              callG prog 11 [] h_4 fun v17 h_5 =>
              tBool v17 fun v18 =>
              retG (.bool v18) h_5 Ψ) (
              retG (.bool false) h_4 Ψ)) (
            retG (.bool false) h_3 Ψ)) (
          retG (.bool false) h_2 Ψ))))

def s3_A (Ψ : AVal → Heap → Prop) : Ann :=
  .seq (rA 1)
  (.seq (rA 7)
  (.seq (rA 9)
  (.seq (rA 9)
  (.seq (.reg [⟨none, [(0, false), (1, false), (2, false), (3, false)]⟩, ⟨some (35, true), [(4, false), (5, false), (6, false), (7, false)]⟩, ⟨none, [(8, false), (9, false)]⟩, ⟨some (41, true), [(10, false), (11, false), (12, false)]⟩, ⟨none, [(13, false), (14, false)]⟩, ⟨some (46, true), [(15, false)]⟩, ⟨none, [(16, false), (17, false)]⟩])
  (.leaf)))))

theorem s3_ok {Ψ : AVal → Heap → Prop} {rows : AVal} {atom : ByteArray} {k : Int} {h : Heap} (H : s3 Ψ rows atom k h) : ACalls prog 3 [rows, (.str atom), (.int .i64 k)] h Ψ :=
  calls_of_evF func3 (by kernel_rfl) (by kernel_rfl) (by kernel_rfl)
    (Eq.mpr (by as_aux_lemma => kernel_rfl : oblF prog f3 (s3_A Ψ) Ψ = (True ∧ True ∧ True ∧ True ∧ True ∧ True)) ⟨trivial, ⟨trivial, ⟨trivial, ⟨trivial, ⟨trivial, trivial⟩⟩⟩⟩⟩)
    (Eq.mpr (by as_aux_lemma => kernel_rfl : evF prog f3 (s3_A Ψ) Ψ [rows, (.str atom), (.int .i64 k)] h = s3 Ψ rows atom k h) H)

/- 6 dictum/dictumlaw04.Tables -/
def s6 (Ψ : AVal → Heap → Prop) (rows : AVal) (h : Heap) : Prop :=
  callG prog 21 [rows] h fun v h_ =>
  tTup v fun l_ =>
  tCons l_ fun v1 l_1 =>
  tCons l_1 fun v2 l_2 =>
  tCons l_2 fun v3 l_3 =>
  tBool v3 fun v4 =>
  tNil l_3 (
    ifT (!v4) (
      callG prog 22 [] h_ fun v5 h_1 =>
      Sym.newRow 1 [(.agg [.nilsl])] h_1 fun r h_2 =>
      retG (.tuple [v5, (.ptr r 0 0)]) h_2 Ψ) (
      retG (.tuple [v1, v2]) h_ Ψ))

def s6_A (Ψ : AVal → Heap → Prop) : Ann :=
  .seq (rA 2)
  (.seq (rA 9)
  (.seq (.seq (rA 2)
  (.cond (.seq (rA 5)
  (.leaf))
  (.leaf)))
  (.seq (rA 4)
  (.leaf))))

theorem s6_ok {Ψ : AVal → Heap → Prop} {rows : AVal} {h : Heap} (H : s6 Ψ rows h) : ACalls prog 6 [rows] h Ψ :=
  calls_of_evF func6 (by kernel_rfl) (by kernel_rfl) (by kernel_rfl)
    (Eq.mpr (by as_aux_lemma => kernel_rfl : oblF prog f6 (s6_A Ψ) Ψ = (True ∧ True ∧ (True ∧ (True ∧ True) ∧ True) ∧ True ∧ True)) ⟨trivial, ⟨trivial, ⟨⟨trivial, ⟨⟨trivial, trivial⟩, trivial⟩⟩, ⟨trivial, trivial⟩⟩⟩⟩)
    (Eq.mpr (by as_aux_lemma => kernel_rfl : evF prog f6 (s6_A Ψ) Ψ [rows] h = s6 Ψ rows h) H)

/- 7 dictum/nishimura.Ladder -/
def s7c1 (Ψ : AVal → Heap → Prop) (t1 : AVal) (atom1 : ByteArray) (k1 : Int) (t19 : Bool) (h : Heap) : Prop :=
  ifT t19 (
    retG (.tuple [(.int .i64 0), (.int .i64 2)]) h Ψ) (
    callG prog 25 [t1] h fun v3 h_2 =>
    tInt .i64 v3 fun v4 =>
    callG prog 26 [t1, (.str atom1), (.int .i64 k1)] h_2 fun v5 h_3 =>
    tTup v5 fun l_ =>
    tCons l_ fun v6 l_1 =>
    tInt .i64 v6 fun v7 =>
    tCons l_1 fun v8 l_2 =>
    tInt .i64 v8 fun v9 =>
    tNil l_2 (
      ifT (v9 != 0) (
        callG prog 27 [t1, (.int .i64 v4)] h_3 fun v10 h_4 =>
        tInt .i64 v10 fun v11 =>
        retG (.tuple [(.int .i64 0), (.int .i64 v9)]) h_4 Ψ) (
        retG (.tuple [(.int .i64 v7), (.int .i64 0)]) h_3 Ψ)))

def s7 (Ψ : AVal → Heap → Prop) (t : AVal) (atom : ByteArray) (k : Int) (h : Heap) : Prop :=
  callG prog 23 [t] h fun v h_ =>
  nilP v fun b =>
  ifT b (
    retG (.tuple [(.int .i64 0), (.int .i64 1)]) h_ Ψ) (
    callG prog 24 [(.str atom)] h_ fun v1 h_1 =>
    tBool v1 fun v2 =>
    ifT (!v2) (
      retG (.tuple [(.int .i64 0), (.int .i64 32)]) h_1 Ψ) (
      ifT (decide (k < (-1))) (
        s7c1 Ψ t atom k true h_1) (
        s7c1 Ψ t atom k (decide (4096 < k)) h_1)))

def s7_A (Ψ : AVal → Heap → Prop) : Ann :=
  .seq (rA 2)
  (.seq (.block (.seq (rA 4)
  (.cond (.seq (rA 2)
  (.leaf))
  (.seq (rA 4)
  (.cond (.seq (rA 2)
  (.leaf))
  (.cut [(0, .any), (1, .str), (2, .int .i64), (19, .bool)] (fun l h => J.cons l fun x0 l => J.cons l fun v l => J.str v fun x1 => J.cons l fun v l => J.int .i64 v fun x2 => J.cons l fun v l => J.bool v fun x3 => J.nil l (s7c1 Ψ x0 x1 x2 x3 h)) (.reg [⟨none, [(0, false), (1, false), (2, false)]⟩, ⟨some (22, false), [(3, false), (4, false)]⟩, ⟨none, [(5, false), (6, false)]⟩])
  (.cond (.seq (rA 2)
  (.leaf))
  (.leaf))))))))
  (.seq (rA 3)
  (.seq (rA 9)
  (.seq (.seq (rA 2)
  (.cond (.seq (rA 3)
  (.seq (rA 3)
  (.leaf)))
  (.leaf)))
  (.seq (rA 3)
  (.leaf))))))

theorem s7_ok {Ψ : AVal → Heap → Prop} {t : AVal} {atom : ByteArray} {k : Int} {h : Heap} (H : s7 Ψ t atom k h) : ACalls prog 7 [t, (.str atom), (.int .i64 k)] h Ψ :=
  calls_of_evF func7 (by kernel_rfl) (by kernel_rfl) (by kernel_rfl)
    (Eq.mpr (by as_aux_lemma => kernel_rfl : oblF prog f7 (s7_A Ψ) Ψ = (True ∧ (True ∧ (True ∧ True) ∧ True ∧ (True ∧ True) ∧ (True) ∧ (∀ (h : Heap) (x0 : AVal) (x1 : ByteArray) (x2 : Int) (x3 : Bool), OI (s7c1 Ψ x0 x1 x2 x3 h)) ∧ ((True ∧ True) ∧ True)) ∧ True ∧ True ∧ (True ∧ (True ∧ True ∧ True) ∧ True) ∧ True ∧ True)) ⟨trivial, ⟨⟨trivial, ⟨⟨trivial, trivial⟩, ⟨trivial, ⟨⟨trivial, trivial⟩, ⟨trivial, fun _ _ _ _ _ H => H, ⟨⟨trivial, trivial⟩, trivial⟩⟩⟩⟩⟩⟩, ⟨trivial, ⟨trivial, ⟨⟨trivial, ⟨⟨trivial, ⟨trivial, trivial⟩⟩, trivial⟩⟩, ⟨trivial, trivial⟩⟩⟩⟩⟩⟩)
    (Eq.mpr (by as_aux_lemma => kernel_rfl : evF prog f7 (s7_A Ψ) Ψ [t, (.str atom), (.int .i64 k)] h = s7 Ψ t atom k h) H)

/- 8 dictum/dictumref26.Ladder -/
def s8 (Ψ : AVal → Heap → Prop) (t : AVal) (atom : ByteArray) (k : Int) (h : Heap) : Prop :=
  callG prog 28 [(.str atom)] h fun v h_ =>
  tBool v fun v1 =>
  ifT (!v1) (
    retG (.tuple [(.int .i64 0), (.int .i64 32)]) h_ Ψ) (
    callG prog 29 [(.int .i64 k)] h_ fun v2 h_1 =>
    tBool v2 fun v3 =>
    ifT (!v3) (
      retG (.tuple [(.int .i64 0), (.int .i64 2)]) h_1 Ψ) (
      nilCheckA t fun p =>
      addOff p 0 fun p1 =>
      ld1 h_1 p1 fun v4 =>
      lenN v4 fun n =>
      callG prog 30 [t, (.str atom), (.int .i64 k)] h_1 fun v5 h_2 =>
      tTup v5 fun l_ =>
      tCons l_ fun v6 l_1 =>
      tInt .i64 v6 fun v7 =>
      tCons l_1 fun v8 l_2 =>
      tInt .i64 v8 fun v9 =>
      tNil l_2 (
        ifT (v9 != 0) (
          callG prog 31 [t, (.int .i64 n)] h_2 fun v10 h_3 =>
          tInt .i64 v10 fun v11 =>
          retG (.tuple [(.int .i64 0), (.int .i64 30)]) h_3 Ψ) (
          retG (.tuple [(.int .i64 v7), (.int .i64 0)]) h_2 Ψ))))

def s8_A (Ψ : AVal → Heap → Prop) : Ann :=
  .seq (rA 2)
  (.seq (.seq (rA 3)
  (.cond (.seq (rA 2)
  (.leaf))
  (.leaf)))
  (.seq (.seq (rA 3)
  (.cond (.seq (rA 2)
  (.leaf))
  (.leaf)))
  (.seq (rA 6)
  (.seq (rA 9)
  (.seq (.seq (rA 2)
  (.cond (.seq (rA 3)
  (.seq (rA 2)
  (.leaf)))
  (.leaf)))
  (.seq (rA 3)
  (.leaf)))))))

theorem s8_ok {Ψ : AVal → Heap → Prop} {t : AVal} {atom : ByteArray} {k : Int} {h : Heap} (H : s8 Ψ t atom k h) : ACalls prog 8 [t, (.str atom), (.int .i64 k)] h Ψ :=
  calls_of_evF func8 (by kernel_rfl) (by kernel_rfl) (by kernel_rfl)
    (Eq.mpr (by as_aux_lemma => kernel_rfl : oblF prog f8 (s8_A Ψ) Ψ = (True ∧ (True ∧ (True ∧ True) ∧ True) ∧ (True ∧ (True ∧ True) ∧ True) ∧ True ∧ True ∧ (True ∧ (True ∧ True ∧ True) ∧ True) ∧ True ∧ True)) ⟨trivial, ⟨⟨trivial, ⟨⟨trivial, trivial⟩, trivial⟩⟩, ⟨⟨trivial, ⟨⟨trivial, trivial⟩, trivial⟩⟩, ⟨trivial, ⟨trivial, ⟨⟨trivial, ⟨⟨trivial, ⟨trivial, trivial⟩⟩, trivial⟩⟩, ⟨trivial, trivial⟩⟩⟩⟩⟩⟩⟩)
    (Eq.mpr (by as_aux_lemma => kernel_rfl : evF prog f8 (s8_A Ψ) Ψ [t, (.str atom), (.int .i64 k)] h = s8 Ψ t atom k h) H)

/- 9 dictum/dictumlaw26.num -/
def s9 (Ψ : AVal → Heap → Prop) (e : Int) (h : Heap) : Prop :=
  retG (.int .i64 e) h Ψ

def s9_A (Ψ : AVal → Heap → Prop) : Ann :=
  .seq (rA 1)
  (.seq (rA 2)
  (.leaf))

theorem s9_ok {Ψ : AVal → Heap → Prop} {e : Int} {h : Heap} (H : s9 Ψ e h) : ACalls prog 9 [(.int .i64 e)] h Ψ :=
  calls_of_evF func9 (by kernel_rfl) (by kernel_rfl) (by kernel_rfl)
    (Eq.mpr (by as_aux_lemma => kernel_rfl : oblF prog f9 (s9_A Ψ) Ψ = (True ∧ True ∧ True)) ⟨trivial, ⟨trivial, trivial⟩⟩)
    (Eq.mpr (by as_aux_lemma => kernel_rfl : evF prog f9 (s9_A Ψ) Ψ [(.int .i64 e)] h = s9 Ψ e h) H)

/- 10 dictum/dictumlaw04.Same -/
def s10 (Ψ : AVal → Heap → Prop) (t : AVal) (r : AVal) (h : Heap) : Prop :=
  callG prog 32 [t, r] h fun v h_ =>
  tBool v fun v1 =>
  retG (.bool v1) h_ Ψ

def s10_A (Ψ : AVal → Heap → Prop) : Ann :=
  .seq (rA 1)
  (.seq (rA 4)
  (.leaf))

theorem s10_ok {Ψ : AVal → Heap → Prop} {t : AVal} {r : AVal} {h : Heap} (H : s10 Ψ t r h) : ACalls prog 10 [t, r] h Ψ :=
  calls_of_evF func10 (by kernel_rfl) (by kernel_rfl) (by kernel_rfl)
    (Eq.mpr (by as_aux_lemma => kernel_rfl : oblF prog f10 (s10_A Ψ) Ψ = (True ∧ True ∧ True)) ⟨trivial, ⟨trivial, trivial⟩⟩)
    (Eq.mpr (by as_aux_lemma => kernel_rfl : evF prog f10 (s10_A Ψ) Ψ [t, r] h = s10 Ψ t r h) H)

/- 20 dictum/dictumref26.Has -/
def s20 (Ψ : AVal → Heap → Prop) (k : Int) (w : Int) (h : Heap) : Prop :=
  rg (k - 1) (
    2 ≠ (0 : Int) ∧
    rg (Int.tdiv (k - 1) 2) (
      ifT (k == (-1)) (
        retG (.bool true) h Ψ) (
        ifT (k == 0) (
          retG (.bool false) h Ψ) (
          2 ≠ (0 : Int) ∧
          ifT ((Int.tmod k 2) == 1) (
            retG (.bool (decide (w ≤ (Int.tdiv (k - 1) 2)))) h Ψ) (
            2 ≠ (0 : Int) ∧
            rg (Int.tdiv k 2) (
              rg ((Int.tdiv k 2) - 1) (
                ifT (decide (w < ((Int.tdiv k 2) - 1))) (
                  retG (.bool true) h Ψ) (
                  2 ≠ (0 : Int) ∧
                  rg (Int.tdiv k 2) (
                    retG (.bool (w == (Int.tdiv k 2))) h Ψ)))))))))

def s20_A (Ψ : AVal → Heap → Prop) : Ann :=
  .seq (rA 1)
  (.seq (rA 4)
  (.seq (.block (.seq (rA 3)
  (.cond (.seq (rA 1)
  (.leaf))
  (.seq (rA 3)
  (.cond (.seq (rA 1)
  (.leaf))
  (.seq (rA 4)
  (.cond (.seq (rA 4)
  (.leaf))
  (.leaf))))))))
  (.seq (.reg [⟨none, [(0, false), (1, false), (2, false), (3, false), (4, false), (5, false)]⟩, ⟨some (27, false), [(6, false), (7, false), (8, false), (9, false)]⟩, ⟨none, [(10, false), (11, false)]⟩])
  (.leaf))))

theorem s20_ok {Ψ : AVal → Heap → Prop} {k : Int} {w : Int} {h : Heap} (H : s20 Ψ k w h) : ACalls prog 20 [(.int .i64 k), (.int .i64 w)] h Ψ :=
  calls_of_evF func20 (by kernel_rfl) (by kernel_rfl) (by kernel_rfl)
    (Eq.mpr (by as_aux_lemma => kernel_rfl : oblF prog f20 (s20_A Ψ) Ψ = (True ∧ True ∧ (True ∧ (True ∧ True) ∧ True ∧ (True ∧ True) ∧ True ∧ (True ∧ True) ∧ True) ∧ True ∧ True)) ⟨trivial, ⟨trivial, ⟨⟨trivial, ⟨⟨trivial, trivial⟩, ⟨trivial, ⟨⟨trivial, trivial⟩, ⟨trivial, ⟨⟨trivial, trivial⟩, trivial⟩⟩⟩⟩⟩⟩, ⟨trivial, trivial⟩⟩⟩⟩)
    (Eq.mpr (by as_aux_lemma => kernel_rfl : evF prog f20 (s20_A Ψ) Ψ [(.int .i64 k), (.int .i64 w)] h = s20 Ψ k w h) H)

/- 21 dictum/dictumlaw03.Both -/
def s21 (Ψ : AVal → Heap → Prop) (rows : AVal) (h : Heap) : Prop :=
  Sym.newRow 4 [] h fun r h_ =>
  appC 4 40 h_ (.sl r 4 0 0) rows (litG true fun v h_1 =>
  callG prog 54 [rows] h_1 fun v1 h_2 =>
  tTup v1 fun l_ =>
  tCons l_ fun v2 l_1 =>
  tCons l_1 fun v3 l_2 =>
  tInt .i64 v3 fun v4 =>
  tNil l_2 (
    ifT (v4 != 0) (
      retG (.tuple [.nilptr, .nilptr, (.bool false)]) h_2 Ψ) (
      callG prog 55 [v] h_2 fun v5 h_3 =>
      tTup v5 fun l_3 =>
      tCons l_3 fun v6 l_4 =>
      tCons l_4 fun v7 l_5 =>
      tInt .i64 v7 fun v8 =>
      tNil l_5 (
        retG (.tuple [v6, v2, (.bool true)]) h_3 Ψ))))

def s21_A (Ψ : AVal → Heap → Prop) : Ann :=
  .seq (rA 3)
  (.seq (.reg [⟨none, [(0, false), (1, false), (2, true), (3, false)]⟩])
  (.seq (rA 7)
  (.seq (.seq (rA 2)
  (.cond (.seq (rA 3)
  (.leaf))
  (.leaf)))
  (.seq (rA 7)
  (.seq (rA 5)
  (.leaf))))))

theorem s21_ok {Ψ : AVal → Heap → Prop} {rows : AVal} {h : Heap} (H : s21 Ψ rows h) : ACalls prog 21 [rows] h Ψ :=
  calls_of_evF func21 (by kernel_rfl) (by kernel_rfl) (by kernel_rfl)
    (Eq.mpr (by as_aux_lemma => kernel_rfl : oblF prog f21 (s21_A Ψ) Ψ = (True ∧ True ∧ True ∧ (True ∧ (True ∧ True) ∧ True) ∧ True ∧ True ∧ True)) ⟨trivial, ⟨trivial, ⟨trivial, ⟨⟨trivial, ⟨⟨trivial, trivial⟩, trivial⟩⟩, ⟨trivial, ⟨trivial, trivial⟩⟩⟩⟩⟩⟩)
    (Eq.mpr (by as_aux_lemma => kernel_rfl : evF prog f21 (s21_A Ψ) Ψ [rows] h = s21 Ψ rows h) H)

/- 22 dictum/formula.New -/
def s22 (Ψ : AVal → Heap → Prop) (h : Heap) : Prop :=
  newMap h fun r h_ =>
  Sym.newRow 2 [(.agg [.nilsl, (.mapr r)])] h_ fun r1 h_1 =>
  retG (.ptr r1 0 0) h_1 Ψ

def s22_A (Ψ : AVal → Heap → Prop) : Ann :=
  .seq (rA 1)
  (.seq (rA 4)
  (.leaf))

theorem s22_ok {Ψ : AVal → Heap → Prop} {h : Heap} (H : s22 Ψ  h) : ACalls prog 22 [] h Ψ :=
  calls_of_evF func22 (by kernel_rfl) (by kernel_rfl) (by kernel_rfl)
    (Eq.mpr (by as_aux_lemma => kernel_rfl : oblF prog f22 (s22_A Ψ) Ψ = (True ∧ True ∧ True)) ⟨trivial, ⟨trivial, trivial⟩⟩)
    (Eq.mpr (by as_aux_lemma => kernel_rfl : evF prog f22 (s22_A Ψ) Ψ [] h = s22 Ψ  h) H)

/- 23 (*dictum/formula.Table).Copy -/
abbrev s23l1_T := AVal → AVal → Int → Int → Heap → Prop
def s23l1_R (F : s23l1_T) (l : List AVal) (h : Heap) : Prop := J.cons l fun x0 l => J.cons l fun x1 l => J.cons l fun v l => J.int .i64 v fun x2 => J.cons l fun v l => J.int .i64 v fun x3 => J.nil l (F x0 x1 x2 x3 h)
def s23l1_G (F : s23l1_T) (x0 x1 : AVal) (x2 x3 : Int) (h : Heap) : Prop := gJ [.any, .any, .int .i64, .int .i64] [x0, x1, (.int .i64 x2), (.int .i64 x3)] h (s23l1_R F)
def s23l1_E (F : Nat → s23l1_T) (x0 x1 : AVal) (x2 x3 : Int) (h : Heap) : Prop := gJ [.any, .any, .int .i64, .int .i64] [x0, x1, (.int .i64 x2), (.int .i64 x3)] h (fun l h => ∃ n, s23l1_R (F n) l h)
theorem s23l1_go {F : s23l1_T} {x0 x1 : AVal} {x2 x3 : Int} {h : Heap} (H : F x0 x1 x2 x3 h) : s23l1_G F x0 x1 x2 x3 h := gJ_plain rfl H
theorem s23l1_in {F : Nat → s23l1_T} {x0 x1 : AVal} {x2 x3 : Int} {h : Heap} (n : Nat) (H : F n x0 x1 x2 x3 h) : s23l1_E F x0 x1 x2 x3 h := gJ_plain rfl ⟨n, H⟩

def s23l1 (Ψ : AVal → Heap → Prop) : Nat → s23l1_T
  | 0, _, _, _, _, _ => False
  | n1 + 1, c, t13, t14, t15, h =>
    ifT (decide (t15 < t14)) (
      ixS 4 t13 t15 fun p2 =>
      ldN 4 h p2 fun l_ =>
      tCons l_ fun v4 l_1 =>
      tInt .i64 v4 fun v5 =>
      tCons l_1 fun v6 l_2 =>
      tStr v6 fun v7 =>
      tCons l_2 fun v8 l_3 =>
      tInt .i64 v8 fun v9 =>
      tCons l_3 fun v10 l_4 =>
      tInt .i64 v10 fun v11 =>
      tNil l_4 (
        Sym.newRow 4 [(.agg [(.int .i64 0), (.str (ByteArray.mk #[])), (.int .i64 0), (.int .i64 0)])] h fun r h_2 =>
        st false h_2 (.ptr r 0 0) [(.int .i64 v5), (.str v7), (.int .i64 v9), (.int .i64 v11)] fun h_3 =>
        nilCheckA c fun p3 =>
        addOff p3 0 fun p4 =>
        ld1 h_3 p4 fun v12 =>
        ldN 4 h_3 (.ptr r 0 0) fun l_5 =>
        tCons l_5 fun v13 l_6 =>
        tInt .i64 v13 fun v14 =>
        tCons l_6 fun v15 l_7 =>
        tStr v15 fun v16 =>
        tCons l_7 fun v17 l_8 =>
        tInt .i64 v17 fun v18 =>
        tCons l_8 fun v19 l_9 =>
        tInt .i64 v19 fun v20 =>
        tNil l_9 (
          (ld1 h_3 p4 fun v21 =>
          v21 = v12) ∧
          appC 4 40 h_3 v12 (.lsl 4 [(.agg [(.int .i64 v14), (.str v16), (.int .i64 v18), (.int .i64 v20)])]) fun v22 h_4 =>
          nilCheckA c fun p5 =>
          addOff p5 0 fun p6 =>
          chk (sc v22) (
            st true h_4 p6 [v22] fun h_5 =>
            nilCheckA c fun p7 =>
            addOff p7 1 fun p8 =>
            ld1 h_5 p8 fun v23 =>
            ldN 4 h_5 (.ptr r 0 0) fun l_10 =>
            tCons l_10 fun v24 l_11 =>
            tInt .i64 v24 fun v25 =>
            tCons l_11 fun v26 l_12 =>
            tStr v26 fun v27 =>
            tCons l_12 fun v28 l_13 =>
            tInt .i64 v28 fun v29 =>
            tCons l_13 fun v30 l_14 =>
            tInt .i64 v30 fun v31 =>
            tNil l_14 (
              mapPut h_5 v23 (.agg [(.int .i64 v25), (.str v27), (.int .i64 v29), (.int .i64 v31)]) (.int .i64 t15) fun h_6 =>
              rg (t15 + 1) (
                s23l1_G (s23l1 Ψ n1) c t13 t14 (t15 + 1) h_6)))))) (
      retG c h Ψ)

def s23 (Ψ : AVal → Heap → Prop) (t : AVal) (h : Heap) : Prop :=
  callG prog 56 [t] h fun v h_ =>
  tBool v fun v1 =>
  ifT (!v1) (
    retG .nilptr h_ Ψ) (
    callG prog 22 [] h_ fun v2 h_1 =>
    nilCheckA t fun p =>
    addOff p 0 fun p1 =>
    ld1 h_1 p1 fun v3 =>
    lenN v3 fun n =>
    s23l1_E (s23l1 Ψ) v2 v3 n 0 h_1)

def s23_A (Ψ : AVal → Heap → Prop) : Ann :=
  .seq (rA 1)
  (.seq (.seq (rA 3)
  (.cond (.seq (rA 1)
  (.leaf))
  (.leaf)))
  (.seq (rA 2)
  (.seq (.seq (rA 6)
  (.block (.loop [(3, .any), (13, .any), (14, .int .i64), (15, .int .i64)] (fun n l h => s23l1_R (s23l1 Ψ n) l h) (fun L1 =>
  .seq (rA 1)
  (.seq (.cond (.leaf)
  (.leaf))
  (.seq (.block (.seq (rA 6)
  (.seq (.draw [(0, false), (1, false), (2, false), (3, false), (4, false), (5, false), (6, true), (7, false), (8, false), (9, false), (10, false)] [0, 0, 2, 6, 14, 0, 32, 126, 255, 511, 1023])
  (.draw [(0, false), (1, false), (2, false), (3, false), (4, false), (5, false), (6, false)] [0, 1, 3, 7, 0, 0, 63]))))
  (rA 2)))))))
  (.seq (rA 2)
  (.leaf)))))

theorem s23_ok {Ψ : AVal → Heap → Prop} {t : AVal} {h : Heap} (H : s23 Ψ t h) : ACalls prog 23 [t] h Ψ :=
  calls_of_evF func23 (by kernel_rfl) (by kernel_rfl) (by kernel_rfl)
    (Eq.mpr (by as_aux_lemma => kernel_rfl : oblF prog f23 (s23_A Ψ) Ψ = (True ∧ (True ∧ (True ∧ True) ∧ True) ∧ True ∧ (True ∧ (∀ (h : Heap) (x0 x1 : AVal) (x2 x3 : Int), ON (s23l1 Ψ 0 x0 x1 x2 x3 h)) ∧ ∀ n1 : Nat, (∀ (h : Heap) (x0 x1 : AVal) (x2 x3 : Int), OI (s23l1 Ψ (n1 + 1) x0 x1 x2 x3 h)) ∧ (True ∧ (True ∧ True) ∧ (True ∧ True ∧ True) ∧ True)) ∧ True ∧ True)) ⟨trivial, ⟨⟨trivial, ⟨⟨trivial, trivial⟩, trivial⟩⟩, ⟨trivial, ⟨⟨trivial, ⟨fun _ _ _ _ _ H => H, fun _ => ⟨fun _ _ _ _ _ H => H, ⟨trivial, ⟨⟨trivial, trivial⟩, ⟨⟨trivial, ⟨trivial, trivial⟩⟩, trivial⟩⟩⟩⟩⟩⟩, ⟨trivial, trivial⟩⟩⟩⟩⟩)
    (Eq.mpr (by as_aux_lemma => kernel_rfl : evF prog f23 (s23_A Ψ) Ψ [t] h = s23 Ψ t h) H)

/- 24 dictum/formula.Word -/
abbrev s24l1_T := ByteArray → Int → Int → Heap → Prop
def s24l1_R (F : s24l1_T) (l : List AVal) (h : Heap) : Prop := J.cons l fun v l => J.str v fun x0 => J.cons l fun v l => J.int .i64 v fun x1 => J.cons l fun v l => J.int .i64 v fun x2 => J.nil l (F x0 x1 x2 h)
def s24l1_G (F : s24l1_T) (x0 : ByteArray) (x1 x2 : Int) (h : Heap) : Prop := gJ [.str, .int .i64, .int .i64] [(.str x0), (.int .i64 x1), (.int .i64 x2)] h (s24l1_R F)
def s24l1_E (F : Nat → s24l1_T) (x0 : ByteArray) (x1 x2 : Int) (h : Heap) : Prop := gJ [.str, .int .i64, .int .i64] [(.str x0), (.int .i64 x1), (.int .i64 x2)] h (fun l h => ∃ n, s24l1_R (F n) l h)
theorem s24l1_go {F : s24l1_T} {x0 : ByteArray} {x1 x2 : Int} {h : Heap} (H : F x0 x1 x2 h) : s24l1_G F x0 x1 x2 h := gJ_plain rfl H
theorem s24l1_in {F : Nat → s24l1_T} {x0 : ByteArray} {x1 x2 : Int} {h : Heap} (n : Nat) (H : F n x0 x1 x2 h) : s24l1_E F x0 x1 x2 h := gJ_plain rfl ⟨n, H⟩

def s24c3 (Ψ : AVal → Heap → Prop) (L1 : s24l1_T) (name3 : ByteArray) (t8_2 t9_2 : Int) (t44 : Bool) (h : Heap) : Prop :=
  ifT t44 (
    retG (.bool false) h Ψ) (
    rg (t9_2 + 1) (
      L1 name3 t8_2 (t9_2 + 1) h))

def s24c2 (Ψ : AVal → Heap → Prop) (L1 : s24l1_T) (name2 : ByteArray) (i c : Int) (letter : Bool) (t8_1 t9_1 : Int) (h : Heap) : Prop :=
  ifT (!letter) (
    ifT (i == 0) (
      s24c3 Ψ L1 name2 t8_1 t9_1 true h) (
      ifT (c != 95) (
        ifT (c != 39) (
          ifT (decide (c < 48)) (
            s24c3 Ψ L1 name2 t8_1 t9_1 true h) (
            s24c3 Ψ L1 name2 t8_1 t9_1 (decide (57 < c)) h)) (
          s24c3 Ψ L1 name2 t8_1 t9_1 false h)) (
        s24c3 Ψ L1 name2 t8_1 t9_1 false h))) (
    s24c3 Ψ L1 name2 t8_1 t9_1 false h)

def s24l1 (Ψ : AVal → Heap → Prop) : Nat → s24l1_T
  | 0, _, _, _, _ => False
  | n + 1, name1, t8, t9, h =>
    ifT (decide (t9 < t8)) (
      ((0 : Int) ≤ t9 ∧ t9 < (name1.size : Int)) ∧
      ifT (decide (97 ≤ (bitsI .or .u8 (btA name1 t9) 32))) (
        s24c2 Ψ (s24l1_G (s24l1 Ψ n)) name1 t9 (btA name1 t9) (decide ((bitsI .or .u8 (btA name1 t9) 32) ≤ 122)) t8 t9 h) (
        s24c2 Ψ (s24l1_G (s24l1 Ψ n)) name1 t9 (btA name1 t9) false t8 t9 h)) (
      ifT (!strEq name1 (ByteArray.mk #[])) (
        ifT (decide ((name1.size : Int) ≤ 31)) (
          callG prog 57 [(.str name1)] h fun v h_ =>
          tBool v fun v1 =>
          retG (.bool (!v1)) h_ Ψ) (
          retG (.bool false) h Ψ)) (
        retG (.bool false) h Ψ))

def s24 (Ψ : AVal → Heap → Prop) (name : ByteArray) (h : Heap) : Prop :=
  s24l1_E (s24l1 Ψ) name (name.size : Int) 0 h

def s24_A (Ψ : AVal → Heap → Prop) : Ann :=
  .seq (rA 1)
  (.seq (.seq (rA 3)
  (.block (.loop [(0, .str), (8, .int .i64), (9, .int .i64)] (fun n l h => s24l1_R (s24l1 Ψ n) l h) (fun L1 =>
  .seq (rA 1)
  (.seq (.cond (.leaf)
  (.leaf))
  (.seq (.block (.seq (rA 2)
  (.seq (rA 4)
  (.seq (rA 3)
  (.cut [(0, .str), (3, .int .i64), (4, .int .u8), (6, .bool), (8, .int .i64), (9, .int .i64)] (fun l h => J.cons l fun v l => J.str v fun x0 => J.cons l fun v l => J.int .i64 v fun x1 => J.cons l fun v l => J.int .u8 v fun x2 => J.cons l fun v l => J.bool v fun x3 => J.cons l fun v l => J.int .i64 v fun x4 => J.cons l fun v l => J.int .i64 v fun x5 => J.nil l (s24c2 Ψ (fun y0 y1 y2 h => L1 [(.str y0), (.int .i64 y1), (.int .i64 y2)] h) x0 x1 x2 x3 x4 x5 h)) (.reg [⟨none, [(0, false), (1, false), (2, false)]⟩, ⟨some (19, true), [(3, false), (4, false)]⟩, ⟨none, [(5, false), (6, false)]⟩])
  (.cut [(0, .str), (8, .int .i64), (9, .int .i64), (44, .bool)] (fun l h => J.cons l fun v l => J.str v fun x0 => J.cons l fun v l => J.int .i64 v fun x1 => J.cons l fun v l => J.int .i64 v fun x2 => J.cons l fun v l => J.bool v fun x3 => J.nil l (s24c3 Ψ (fun y0 y1 y2 h => L1 [(.str y0), (.int .i64 y1), (.int .i64 y2)] h) x0 x1 x2 x3 h)) (.reg [⟨none, [(0, false), (1, false), (2, false)]⟩, ⟨some (25, true), [(3, false), (4, false), (5, false)]⟩, ⟨some (28, false), [(6, false), (7, false), (8, false)]⟩, ⟨some (31, true), [(9, false), (10, false)]⟩, ⟨some (28, false), [(11, false), (12, false)]⟩, ⟨some (35, true), [(13, false), (14, false), (15, false)]⟩, ⟨some (38, false), [(16, false), (17, false)]⟩, ⟨some (35, true), [(18, false)]⟩, ⟨some (28, false), [(19, false)]⟩, ⟨some (25, true), [(20, false)]⟩, ⟨none, [(21, false)]⟩])
  (.cond (.seq (rA 1)
  (.leaf))
  (.leaf))))))))
  (rA 2)))))))
  (.seq (.reg [⟨none, [(0, false), (1, false), (2, false)]⟩, ⟨some (48, true), [(3, false), (4, false), (5, false)]⟩, ⟨none, [(6, false), (7, false)]⟩, ⟨some (53, true), [(8, false), (9, false), (10, false)]⟩, ⟨none, [(11, false), (12, false)]⟩])
  (.leaf)))

theorem s24_ok {Ψ : AVal → Heap → Prop} {name : ByteArray} {h : Heap} (H : s24 Ψ name h) : ACalls prog 24 [(.str name)] h Ψ :=
  calls_of_evF func24 (by kernel_rfl) (by kernel_rfl) (by kernel_rfl)
    (Eq.mpr (by as_aux_lemma => kernel_rfl : oblF prog f24 (s24_A Ψ) Ψ = (True ∧ (True ∧ (∀ (h : Heap) (x0 : ByteArray) (x1 x2 : Int), ON (s24l1 Ψ 0 x0 x1 x2 h)) ∧ ∀ n1 : Nat, (∀ (h : Heap) (x0 : ByteArray) (x1 x2 : Int), OI (s24l1 Ψ (n1 + 1) x0 x1 x2 h)) ∧ (True ∧ (True ∧ True) ∧ (True ∧ True ∧ True ∧ (True) ∧ (∀ (h : Heap) (x0 : ByteArray) (x1 x2 : Int) (x3 : Bool) (x4 x5 : Int), OI (s24c2 Ψ (s24l1_G (s24l1 Ψ n1)) x0 x1 x2 x3 x4 x5 h)) ∧ ((True) ∧ (∀ (h : Heap) (x0 : ByteArray) (x1 x2 : Int) (x3 : Bool), OI (s24c3 Ψ (s24l1_G (s24l1 Ψ n1)) x0 x1 x2 x3 h)) ∧ ((True ∧ True) ∧ True))) ∧ True)) ∧ True ∧ True)) ⟨trivial, ⟨⟨trivial, ⟨fun _ _ _ _ H => H, fun _ => ⟨fun _ _ _ _ H => H, ⟨trivial, ⟨⟨trivial, trivial⟩, ⟨⟨trivial, ⟨trivial, ⟨trivial, ⟨trivial, fun _ _ _ _ _ _ _ H => H, ⟨trivial, fun _ _ _ _ _ H => H, ⟨⟨trivial, trivial⟩, trivial⟩⟩⟩⟩⟩⟩, trivial⟩⟩⟩⟩⟩⟩, ⟨trivial, trivial⟩⟩⟩)
    (Eq.mpr (by as_aux_lemma => kernel_rfl : evF prog f24 (s24_A Ψ) Ψ [(.str name)] h = s24 Ψ name h) H)

/- 25 (*dictum/formula.Table).Len -/
def s25 (Ψ : AVal → Heap → Prop) (t : AVal) (h : Heap) : Prop :=
  callG prog 56 [t] h fun v h_ =>
  tBool v fun v1 =>
  ifT (!v1) (
    retG (.int .i64 0) h_ Ψ) (
    nilCheckA t fun p =>
    addOff p 0 fun p1 =>
    ld1 h_ p1 fun v2 =>
    lenN v2 fun n =>
    retG (.int .i64 n) h_ Ψ)

def s25_A (Ψ : AVal → Heap → Prop) : Ann :=
  .seq (rA 1)
  (.seq (.seq (rA 3)
  (.cond (.seq (rA 1)
  (.leaf))
  (.leaf)))
  (.seq (rA 6)
  (.leaf)))

theorem s25_ok {Ψ : AVal → Heap → Prop} {t : AVal} {h : Heap} (H : s25 Ψ t h) : ACalls prog 25 [t] h Ψ :=
  calls_of_evF func25 (by kernel_rfl) (by kernel_rfl) (by kernel_rfl)
    (Eq.mpr (by as_aux_lemma => kernel_rfl : oblF prog f25 (s25_A Ψ) Ψ = (True ∧ (True ∧ (True ∧ True) ∧ True) ∧ True ∧ True)) ⟨trivial, ⟨⟨trivial, ⟨⟨trivial, trivial⟩, trivial⟩⟩, ⟨trivial, trivial⟩⟩⟩)
    (Eq.mpr (by as_aux_lemma => kernel_rfl : evF prog f25 (s25_A Ψ) Ψ [t] h = s25 Ψ t h) H)

/- 26 dictum/nishimura.climb -/
def s26c2 (Ψ : AVal → Heap → Prop) (k2 e1 : Int) (rungs : AVal) (h : Heap) : Prop :=
  ifT (e1 != 0) (
    retG (.tuple [(.int .i64 0), (.int .i64 e1)]) h Ψ) (
    ixS 1 rungs k2 fun p1 =>
    ld1 h p1 fun v25 =>
    tInt .i64 v25 fun v26 =>
    retG (.tuple [(.int .i64 v26), (.int .i64 0)]) h Ψ)

abbrev s26l3_T := AVal → Int → Int → AVal → Heap → Prop
def s26l3_R (F : s26l3_T) (l : List AVal) (h : Heap) : Prop := J.cons l fun x0 l => J.cons l fun v l => J.int .i64 v fun x1 => J.cons l fun v l => J.int .i64 v fun x2 => J.cons l fun x3 l => J.nil l (F x0 x1 x2 x3 h)
def s26l3_G (F : s26l3_T) (x0 : AVal) (x1 x2 : Int) (x3 : AVal) (h : Heap) : Prop := gJ [.any, .int .i64, .int .i64, .any] [x0, (.int .i64 x1), (.int .i64 x2), x3] h (s26l3_R F)
def s26l3_E (F : Nat → s26l3_T) (x0 : AVal) (x1 x2 : Int) (x3 : AVal) (h : Heap) : Prop := gJ [.any, .int .i64, .int .i64, .any] [x0, (.int .i64 x1), (.int .i64 x2), x3] h (fun l h => ∃ n, s26l3_R (F n) l h)
theorem s26l3_go {F : s26l3_T} {x0 : AVal} {x1 x2 : Int} {x3 : AVal} {h : Heap} (H : F x0 x1 x2 x3 h) : s26l3_G F x0 x1 x2 x3 h := gJ_plain rfl H
theorem s26l3_in {F : Nat → s26l3_T} {x0 : AVal} {x1 x2 : Int} {x3 : AVal} {h : Heap} (n : Nat) (H : F n x0 x1 x2 x3 h) : s26l3_E F x0 x1 x2 x3 h := gJ_plain rfl ⟨n, H⟩

def s26c4 (Ψ : AVal → Heap → Prop) (L3 : s26l3_T) (t3 : AVal) (k4 e3 : Int) (rungs2 : AVal) (id_ : Int) (h : Heap) : Prop :=
  appC 1 8 h rungs2 (.lsl 1 [(.int .i64 id_)]) fun v27 h_6 =>
  L3 t3 k4 e3 v27 h_6

def s26l3 (Ψ : AVal → Heap → Prop) : Nat → s26l3_T
  | 0, _, _, _, _, _ => False
  | n + 1, t2, k3, e2, rungs1, h =>
    ifT (e2 == 0) (
      lenN rungs1 fun n1 =>
      ifT (decide (k3 < n1)) (
        s26c2 Ψ k3 e2 rungs1 h) (
        2 ≠ (0 : Int) ∧
        ifT ((Int.tmod n1 2) == 1) (
          rg (n1 - 2) (
            ixS 1 rungs1 (n1 - 2) fun p2 =>
            ld1 h p2 fun v28 =>
            tInt .i64 v28 fun v29 =>
            rg (n1 - 1) (
              ixS 1 rungs1 (n1 - 1) fun p3 =>
              ld1 h p3 fun v30 =>
              tInt .i64 v30 fun v31 =>
              callG prog 62 [t2, (.int .i64 v29), (.int .i64 v31)] h fun v32 h_7 =>
              tTup v32 fun l_15 =>
              tCons l_15 fun v33 l_16 =>
              tInt .i64 v33 fun v34 =>
              tCons l_16 fun v35 l_17 =>
              tInt .i64 v35 fun v36 =>
              tNil l_17 (
                s26c4 Ψ (s26l3_G (s26l3 Ψ n)) t2 k3 v36 rungs1 v34 h_7)))) (
          rg (n1 - 1) (
            ixS 1 rungs1 (n1 - 1) fun p4 =>
            ld1 h p4 fun v37 =>
            tInt .i64 v37 fun v38 =>
            rg (n1 - 3) (
              ixS 1 rungs1 (n1 - 3) fun p5 =>
              ld1 h p5 fun v39 =>
              tInt .i64 v39 fun v40 =>
              callG prog 59 [t2, (.int .i64 v38), (.int .i64 v40)] h fun v41 h_8 =>
              tTup v41 fun l_18 =>
              tCons l_18 fun v42 l_19 =>
              tInt .i64 v42 fun v43 =>
              tCons l_19 fun v44 l_20 =>
              tInt .i64 v44 fun v45 =>
              tNil l_20 (
                s26c4 Ψ (s26l3_G (s26l3 Ψ n)) t2 k3 v45 rungs1 v43 h_8)))))) (
      s26c2 Ψ k3 e2 rungs1 h)

def s26c1 (Ψ : AVal → Heap → Prop) (t1 : AVal) (k1 p e : Int) (t50 : Bool) (h : Heap) : Prop :=
  ifT t50 (
    retG (.tuple [(.int .i64 p), (.int .i64 e)]) h Ψ) (
    callG prog 61 [t1, (.int .i64 p)] h fun v20 h_4 =>
    tTup v20 fun l_12 =>
    tCons l_12 fun v21 l_13 =>
    tInt .i64 v21 fun v22 =>
    tCons l_13 fun v23 l_14 =>
    tInt .i64 v23 fun v24 =>
    tNil l_14 (
      Sym.newRow 1 [(.int .i64 0), (.int .i64 p), (.int .i64 v22)] h_4 fun r h_5 =>
      s26l3_E (s26l3 Ψ) t1 k1 v24 (.sl r 1 0 3) h_5))

def s26 (Ψ : AVal → Heap → Prop) (t : AVal) (atom : ByteArray) (k : Int) (h : Heap) : Prop :=
  ifT (k == (-1)) (
    callG prog 58 [t] h fun v h_ =>
    tTup v fun l_ =>
    tCons l_ fun v1 l_1 =>
    tInt .i64 v1 fun v2 =>
    tCons l_1 fun v3 l_2 =>
    tInt .i64 v3 fun v4 =>
    tNil l_2 (
      ifT (v4 != 0) (
        retG (.tuple [(.int .i64 0), (.int .i64 v4)]) h_ Ψ) (
        callG prog 59 [t, (.int .i64 v2), (.int .i64 v2)] h_ fun v5 h_1 =>
        tTup v5 fun l_3 =>
        tCons l_3 fun v6 l_4 =>
        tInt .i64 v6 fun v7 =>
        tCons l_4 fun v8 l_5 =>
        tInt .i64 v8 fun v9 =>
        tNil l_5 (
          retG (.tuple [(.int .i64 v7), (.int .i64 v9)]) h_1 Ψ)))) (
    ifT (k == 0) (
      callG prog 58 [t] h fun v10 h_2 =>
      tTup v10 fun l_6 =>
      tCons l_6 fun v11 l_7 =>
      tInt .i64 v11 fun v12 =>
      tCons l_7 fun v13 l_8 =>
      tInt .i64 v13 fun v14 =>
      tNil l_8 (
        retG (.tuple [(.int .i64 v12), (.int .i64 v14)]) h_2 Ψ)) (
      callG prog 60 [t, (.str atom)] h fun v15 h_3 =>
      tTup v15 fun l_9 =>
      tCons l_9 fun v16 l_10 =>
      tInt .i64 v16 fun v17 =>
      tCons l_10 fun v18 l_11 =>
      tInt .i64 v18 fun v19 =>
      tNil l_11 (
        ifT (k == 1) (
          s26c1 Ψ t k v17 v19 true h_3) (
          s26c1 Ψ t k v17 v19 (v19 != 0) h_3))))

def s26_A (Ψ : AVal → Heap → Prop) : Ann :=
  .seq (rA 2)
  (.block (.seq (.seq (rA 1)
  (.block (.seq (rA 2)
  (.cond (.seq (rA 7)
  (.seq (.seq (rA 2)
  (.cond (.seq (rA 3)
  (.leaf))
  (.leaf)))
  (.seq (rA 8)
  (.leaf))))
  (.seq (rA 2)
  (.cond (.seq (rA 6)
  (.leaf))
  (.leaf)))))))
  (.seq (rA 8)
  (.seq (.cut [(0, .any), (2, .int .i64), (10, .int .i64), (11, .int .i64), (50, .bool)] (fun l h => J.cons l fun x0 l => J.cons l fun v l => J.int .i64 v fun x1 => J.cons l fun v l => J.int .i64 v fun x2 => J.cons l fun v l => J.int .i64 v fun x3 => J.cons l fun v l => J.bool v fun x4 => J.nil l (s26c1 Ψ x0 x1 x2 x3 x4 h)) (.reg [⟨none, [(0, false), (1, false), (2, false)]⟩, ⟨some (47, false), [(3, false), (4, false)]⟩, ⟨none, [(5, false)]⟩])
  (.cond (.seq (rA 4)
  (.leaf))
  (.leaf)))
  (.seq (rA 8)
  (.seq (rA 4)
  (.seq (.leaf)
  (.cut [(2, .int .i64), (11, .int .i64), (13, .any)] (fun l h => J.cons l fun v l => J.int .i64 v fun x0 => J.cons l fun v l => J.int .i64 v fun x1 => J.cons l fun x2 l => J.nil l (s26c2 Ψ x0 x1 x2 h)) (.block (.loop [(0, .any), (2, .int .i64), (11, .int .i64), (13, .any)] (fun n l h => s26l3_R (s26l3 Ψ n) l h) (fun L3 =>
  .seq (.seq (rA 2)
  (.cond (.leaf)
  (.leaf)))
  (.block (.seq (rA 3)
  (.seq (.seq (rA 3)
  (.cond (.leaf)
  (.leaf)))
  (.seq (rA 1)
  (.cut [(0, .any), (2, .int .i64), (11, .int .i64), (13, .any), (15, .int .i64)] (fun l h => J.cons l fun x0 l => J.cons l fun v l => J.int .i64 v fun x1 => J.cons l fun v l => J.int .i64 v fun x2 => J.cons l fun x3 l => J.cons l fun v l => J.int .i64 v fun x4 => J.nil l (s26c4 Ψ (fun y0 y1 y2 y3 h => L3 [y0, (.int .i64 y1), (.int .i64 y2), y3] h) x0 x1 x2 x3 x4 h)) (.seq (rA 3)
  (.cond (.draw [(0, false), (1, false), (2, false), (3, false), (4, false), (5, false), (6, false), (7, false), (8, false), (9, false), (10, false), (11, false), (12, false), (13, false), (14, false), (15, false), (16, false)] [0, 0, 0, 4, 14, 30, 0, 0, 128, 448, 960, 2047, 4095, 8191, 8191, 16383, 65535])
  (.draw [(0, false), (1, false), (2, false), (3, false), (4, false), (5, false), (6, false), (7, false), (8, false), (9, false), (10, false), (11, false), (12, false), (13, false), (14, false), (15, false), (16, false)] [0, 0, 0, 4, 14, 30, 0, 0, 128, 448, 960, 2047, 4095, 8191, 8191, 16383, 65535])))
  (.reg [⟨none, [(0, false), (1, false), (2, true), (3, false), (4, false)]⟩])))))))))
  (.seq (.seq (rA 2)
  (.cond (.seq (rA 3)
  (.leaf))
  (.leaf)))
  (.seq (rA 6)
  (.leaf)))))))))))

theorem s26_ok {Ψ : AVal → Heap → Prop} {t : AVal} {atom : ByteArray} {k : Int} {h : Heap} (H : s26 Ψ t atom k h) : ACalls prog 26 [t, (.str atom), (.int .i64 k)] h Ψ :=
  calls_of_evF func26 (by kernel_rfl) (by kernel_rfl) (by kernel_rfl)
    (Eq.mpr (by as_aux_lemma => kernel_rfl : oblF prog f26 (s26_A Ψ) Ψ = (True ∧ (True ∧ True ∧ (True ∧ (True ∧ (True ∧ True) ∧ True) ∧ True ∧ True) ∧ True ∧ (True ∧ True) ∧ True) ∧ True ∧ ((True) ∧ (∀ (h : Heap) (x0 : AVal) (x1 x2 x3 : Int) (x4 : Bool), OI (s26c1 Ψ x0 x1 x2 x3 x4 h)) ∧ ((True ∧ True) ∧ True)) ∧ True ∧ True ∧ True ∧ ((∀ (h : Heap) (x0 : AVal) (x1 x2 : Int) (x3 : AVal), ON (s26l3 Ψ 0 x0 x1 x2 x3 h)) ∧ ∀ n3 : Nat, (∀ (h : Heap) (x0 : AVal) (x1 x2 : Int) (x3 : AVal), OI (s26l3 Ψ (n3 + 1) x0 x1 x2 x3 h)) ∧ ((True ∧ True ∧ True) ∧ True ∧ (True ∧ True ∧ True) ∧ True ∧ (True ∧ True ∧ True) ∧ (∀ (h : Heap) (x0 : AVal) (x1 x2 : Int) (x3 : AVal) (x4 : Int), OI (s26c4 Ψ (s26l3_G (s26l3 Ψ n3)) x0 x1 x2 x3 x4 h)) ∧ (True))) ∧ (∀ (h : Heap) (x0 x1 : Int) (x2 : AVal), OI (s26c2 Ψ x0 x1 x2 h)) ∧ ((True ∧ (True ∧ True) ∧ True) ∧ True ∧ True))) ⟨trivial, ⟨⟨trivial, ⟨trivial, ⟨⟨trivial, ⟨⟨trivial, ⟨⟨trivial, trivial⟩, trivial⟩⟩, ⟨trivial, trivial⟩⟩⟩, ⟨trivial, ⟨⟨trivial, trivial⟩, trivial⟩⟩⟩⟩⟩, ⟨trivial, ⟨⟨trivial, fun _ _ _ _ _ _ H => H, ⟨⟨trivial, trivial⟩, trivial⟩⟩, ⟨trivial, ⟨trivial, ⟨trivial, ⟨⟨fun _ _ _ _ _ H => H, fun _ => ⟨fun _ _ _ _ _ H => H, ⟨⟨trivial, ⟨trivial, trivial⟩⟩, ⟨trivial, ⟨⟨trivial, ⟨trivial, trivial⟩⟩, ⟨trivial, ⟨⟨trivial, ⟨trivial, trivial⟩⟩, fun _ _ _ _ _ _ H => H, trivial⟩⟩⟩⟩⟩⟩⟩, fun _ _ _ _ H => H, ⟨⟨trivial, ⟨⟨trivial, trivial⟩, trivial⟩⟩, ⟨trivial, trivial⟩⟩⟩⟩⟩⟩⟩⟩⟩⟩)
    (Eq.mpr (by as_aux_lemma => kernel_rfl : evF prog f26 (s26_A Ψ) Ψ [t, (.str atom), (.int .i64 k)] h = s26 Ψ t atom k h) H)

/- 27 (*dictum/formula.Table).Cut -/
abbrev s27l2_T := AVal → Int → AVal → Int → Int → Heap → Prop
def s27l2_R (F : s27l2_T) (l : List AVal) (h : Heap) : Prop := J.cons l fun x0 l => J.cons l fun v l => J.int .i64 v fun x1 => J.cons l fun x2 l => J.cons l fun v l => J.int .i64 v fun x3 => J.cons l fun v l => J.int .i64 v fun x4 => J.nil l (F x0 x1 x2 x3 x4 h)
def s27l2_G (F : s27l2_T) (x0 : AVal) (x1 : Int) (x2 : AVal) (x3 x4 : Int) (h : Heap) : Prop := gJ [.any, .int .i64, .any, .int .i64, .int .i64] [x0, (.int .i64 x1), x2, (.int .i64 x3), (.int .i64 x4)] h (s27l2_R F)
def s27l2_E (F : Nat → s27l2_T) (x0 : AVal) (x1 : Int) (x2 : AVal) (x3 x4 : Int) (h : Heap) : Prop := gJ [.any, .int .i64, .any, .int .i64, .int .i64] [x0, (.int .i64 x1), x2, (.int .i64 x3), (.int .i64 x4)] h (fun l h => ∃ n, s27l2_R (F n) l h)
theorem s27l2_go {F : s27l2_T} {x0 : AVal} {x1 : Int} {x2 : AVal} {x3 x4 : Int} {h : Heap} (H : F x0 x1 x2 x3 x4 h) : s27l2_G F x0 x1 x2 x3 x4 h := gJ_plain rfl H
theorem s27l2_in {F : Nat → s27l2_T} {x0 : AVal} {x1 : Int} {x2 : AVal} {x3 x4 : Int} {h : Heap} (n : Nat) (H : F n x0 x1 x2 x3 x4 h) : s27l2_E F x0 x1 x2 x3 x4 h := gJ_plain rfl ⟨n, H⟩

def s27l2 (Ψ : AVal → Heap → Prop) : Nat → s27l2_T
  | 0, _, _, _, _, _, _ => False
  | n4 + 1, t2, n3, t28, t29, t30, h =>
    ifT (decide (t30 < t29)) (
      ixS 4 t28 t30 fun p2 =>
      ldN 4 h p2 fun l_ =>
      tCons l_ fun v4 l_1 =>
      tInt .i64 v4 fun v5 =>
      tCons l_1 fun v6 l_2 =>
      tStr v6 fun v7 =>
      tCons l_2 fun v8 l_3 =>
      tInt .i64 v8 fun v9 =>
      tCons l_3 fun v10 l_4 =>
      tInt .i64 v10 fun v11 =>
      tNil l_4 (
        Sym.newRow 4 [(.agg [(.int .i64 0), (.str (ByteArray.mk #[])), (.int .i64 0), (.int .i64 0)])] h fun r h_1 =>
        st false h_1 (.ptr r 0 0) [(.int .i64 v5), (.str v7), (.int .i64 v9), (.int .i64 v11)] fun h_2 =>
        nilCheckA t2 fun p3 =>
        addOff p3 1 fun p4 =>
        ld1 h_2 p4 fun v12 =>
        ldN 4 h_2 (.ptr r 0 0) fun l_5 =>
        tCons l_5 fun v13 l_6 =>
        tInt .i64 v13 fun v14 =>
        tCons l_6 fun v15 l_7 =>
        tStr v15 fun v16 =>
        tCons l_7 fun v17 l_8 =>
        tInt .i64 v17 fun v18 =>
        tCons l_8 fun v19 l_9 =>
        tInt .i64 v19 fun v20 =>
        tNil l_9 (
          mapDel h_2 v12 (.agg [(.int .i64 v14), (.str v16), (.int .i64 v18), (.int .i64 v20)]) fun h_3 =>
          rg (t30 + 1) (
            s27l2_G (s27l2 Ψ n4) t2 n3 t28 t29 (t30 + 1) h_3)))) (
      nilCheckA t2 fun p5 =>
      addOff p5 0 fun p6 =>
      ld1 h p6 fun v21 =>
      slX 4 v21 0 (some n3) fun v22 =>
      nilCheckA t2 fun p7 =>
      addOff p7 0 fun p8 =>
      chk (sc v22) (
        st true h p8 [v22] fun h_4 =>
        retG (.int .i64 0) h_4 Ψ))

def s27c1 (Ψ : AVal → Heap → Prop) (t1 : AVal) (n1 : Int) (t11 : Bool) (h : Heap) : Prop :=
  ifT t11 (
    retG (.int .i64 2) h Ψ) (
    nilCheckA t1 fun p =>
    addOff p 0 fun p1 =>
    ld1 h p1 fun v2 =>
    slX 4 v2 n1 none fun v3 =>
    lenN v3 fun n2 =>
    s27l2_E (s27l2 Ψ) t1 n1 v3 n2 0 h)

def s27 (Ψ : AVal → Heap → Prop) (t : AVal) (n : Int) (h : Heap) : Prop :=
  callG prog 56 [t] h fun v h_ =>
  tBool v fun v1 =>
  ifT (!v1) (
    retG (.int .i64 1) h_ Ψ) (
    ifT (decide (n < 0)) (
      s27c1 Ψ t n true h_) (
      nilCheckA t fun p9 =>
      addOff p9 0 fun p10 =>
      ld1 h_ p10 fun v23 =>
      lenN v23 fun n6 =>
      s27c1 Ψ t n (decide (n6 < n)) h_))

def s27_A (Ψ : AVal → Heap → Prop) : Ann :=
  .seq (rA 1)
  (.seq (.block (.seq (rA 4)
  (.cond (.seq (rA 1)
  (.leaf))
  (.cut [(0, .any), (1, .int .i64), (11, .bool)] (fun l h => J.cons l fun x0 l => J.cons l fun v l => J.int .i64 v fun x1 => J.cons l fun v l => J.bool v fun x2 => J.nil l (s27c1 Ψ x0 x1 x2 h)) (.reg [⟨none, [(0, false), (1, false), (2, false)]⟩, ⟨some (14, false), [(3, false), (4, false), (5, false), (6, false), (7, false), (8, false), (9, false)]⟩, ⟨none, [(10, false), (11, false)]⟩])
  (.cond (.seq (rA 1)
  (.leaf))
  (.leaf))))))
  (.seq (.seq (rA 8)
  (.block (.loop [(0, .any), (1, .int .i64), (28, .any), (29, .int .i64), (30, .int .i64)] (fun n l h => s27l2_R (s27l2 Ψ n) l h) (fun L2 =>
  .seq (rA 1)
  (.seq (.cond (.leaf)
  (.leaf))
  (.seq (.block (.seq (rA 4)
  (.draw [(0, false), (1, false), (2, false), (3, false), (4, false), (5, false)] [0, 1, 3, 7, 0, 31])))
  (rA 2)))))))
  (.seq (rA 10)
  (.seq (rA 1)
  (.leaf)))))

theorem s27_ok {Ψ : AVal → Heap → Prop} {t : AVal} {n : Int} {h : Heap} (H : s27 Ψ t n h) : ACalls prog 27 [t, (.int .i64 n)] h Ψ :=
  calls_of_evF func27 (by kernel_rfl) (by kernel_rfl) (by kernel_rfl)
    (Eq.mpr (by as_aux_lemma => kernel_rfl : oblF prog f27 (s27_A Ψ) Ψ = (True ∧ (True ∧ (True ∧ True) ∧ (True) ∧ (∀ (h : Heap) (x0 : AVal) (x1 : Int) (x2 : Bool), OI (s27c1 Ψ x0 x1 x2 h)) ∧ ((True ∧ True) ∧ True)) ∧ (True ∧ (∀ (h : Heap) (x0 : AVal) (x1 : Int) (x2 : AVal) (x3 x4 : Int), ON (s27l2 Ψ 0 x0 x1 x2 x3 x4 h)) ∧ ∀ n2 : Nat, (∀ (h : Heap) (x0 : AVal) (x1 : Int) (x2 : AVal) (x3 x4 : Int), OI (s27l2 Ψ (n2 + 1) x0 x1 x2 x3 x4 h)) ∧ (True ∧ (True ∧ True) ∧ (True ∧ True) ∧ True)) ∧ True ∧ True ∧ True)) ⟨trivial, ⟨⟨trivial, ⟨⟨trivial, trivial⟩, ⟨trivial, fun _ _ _ _ H => H, ⟨⟨trivial, trivial⟩, trivial⟩⟩⟩⟩, ⟨⟨trivial, ⟨fun _ _ _ _ _ _ H => H, fun _ => ⟨fun _ _ _ _ _ _ H => H, ⟨trivial, ⟨⟨trivial, trivial⟩, ⟨⟨trivial, trivial⟩, trivial⟩⟩⟩⟩⟩⟩, ⟨trivial, ⟨trivial, trivial⟩⟩⟩⟩⟩)
    (Eq.mpr (by as_aux_lemma => kernel_rfl : evF prog f27 (s27_A Ψ) Ψ [t, (.int .i64 n)] h = s27 Ψ t n h) H)

/- 28 dictum/dictumref03.Word -/
abbrev s28l2_T := ByteArray → Int → Heap → Prop
def s28l2_R (F : s28l2_T) (l : List AVal) (h : Heap) : Prop := J.cons l fun v l => J.str v fun x0 => J.cons l fun v l => J.int .i64 v fun x1 => J.nil l (F x0 x1 h)
def s28l2_G (F : s28l2_T) (x0 : ByteArray) (x1 : Int) (h : Heap) : Prop := gJ [.str, .int .i64] [(.str x0), (.int .i64 x1)] h (s28l2_R F)
def s28l2_E (F : Nat → s28l2_T) (x0 : ByteArray) (x1 : Int) (h : Heap) : Prop := gJ [.str, .int .i64] [(.str x0), (.int .i64 x1)] h (fun l h => ∃ n, s28l2_R (F n) l h)
theorem s28l2_go {F : s28l2_T} {x0 : ByteArray} {x1 : Int} {h : Heap} (H : F x0 x1 h) : s28l2_G F x0 x1 h := gJ_plain rfl H
theorem s28l2_in {F : Nat → s28l2_T} {x0 : ByteArray} {x1 : Int} {h : Heap} (n : Nat) (H : F n x0 x1 h) : s28l2_E F x0 x1 h := gJ_plain rfl ⟨n, H⟩

def s28c3 (Ψ : AVal → Heap → Prop) (L2 : s28l2_T) (s3 : ByteArray) (i1 : Int) (t55 : Bool) (h : Heap) : Prop :=
  ifT t55 (
    retG (.bool false) h Ψ) (
    rg (i1 + 1) (
      L2 s3 (i1 + 1) h))

abbrev s28l4_T := ByteArray → AVal → Int → Heap → Prop
def s28l4_R (F : s28l4_T) (l : List AVal) (h : Heap) : Prop := J.cons l fun v l => J.str v fun x0 => J.cons l fun x1 l => J.cons l fun v l => J.int .i64 v fun x2 => J.nil l (F x0 x1 x2 h)
def s28l4_G (F : s28l4_T) (x0 : ByteArray) (x1 : AVal) (x2 : Int) (h : Heap) : Prop := gJ [.str, .any, .int .i64] [(.str x0), x1, (.int .i64 x2)] h (s28l4_R F)
def s28l4_E (F : Nat → s28l4_T) (x0 : ByteArray) (x1 : AVal) (x2 : Int) (h : Heap) : Prop := gJ [.str, .any, .int .i64] [(.str x0), x1, (.int .i64 x2)] h (fun l h => ∃ n, s28l4_R (F n) l h)
theorem s28l4_go {F : s28l4_T} {x0 : ByteArray} {x1 : AVal} {x2 : Int} {h : Heap} (H : F x0 x1 x2 h) : s28l4_G F x0 x1 x2 h := gJ_plain rfl H
theorem s28l4_in {F : Nat → s28l4_T} {x0 : ByteArray} {x1 : AVal} {x2 : Int} {h : Heap} (n : Nat) (H : F n x0 x1 x2 h) : s28l4_E F x0 x1 x2 h := gJ_plain rfl ⟨n, H⟩

def s28l4 (Ψ : AVal → Heap → Prop) : Nat → s28l4_T
  | 0, _, _, _, _ => False
  | n1 + 1, s4, l_, i2, h =>
    lenN l_ fun n2 =>
    ifT (decide (i2 < n2)) (
      ixS 1 l_ i2 fun p =>
      ld1 h p fun v3 =>
      tStr v3 fun v4 =>
      ifT (strEq v4 s4) (
        retG (.bool false) h Ψ) (
        rg (i2 + 1) (
          s28l4_G (s28l4 Ψ n1) s4 l_ (i2 + 1) h))) (
      retG (.bool true) h Ψ)

def s28l2 (Ψ : AVal → Heap → Prop) : Nat → s28l2_T
  | 0, _, _, _ => False
  | n + 1, s2, i, h =>
    ifT (decide (i < (s2.size : Int))) (
      ((0 : Int) ≤ i ∧ i < (s2.size : Int)) ∧
      callG prog 63 [(.int .u8 (btA s2 i))] h fun v h_ =>
      tBool v fun v1 =>
      ifT (!v1) (
        ((0 : Int) ≤ i ∧ i < (s2.size : Int)) ∧
        ifT (decide (48 ≤ (btA s2 i))) (
          ((0 : Int) ≤ i ∧ i < (s2.size : Int)) ∧
          ifT (!(decide ((btA s2 i) ≤ 57))) (
            ((0 : Int) ≤ i ∧ i < (s2.size : Int)) ∧
            ifT ((btA s2 i) != 95) (
              ((0 : Int) ≤ i ∧ i < (s2.size : Int)) ∧
              s28c3 Ψ (s28l2_G (s28l2 Ψ n)) s2 i ((btA s2 i) != 39) h_) (
              s28c3 Ψ (s28l2_G (s28l2 Ψ n)) s2 i false h_)) (
            s28c3 Ψ (s28l2_G (s28l2 Ψ n)) s2 i false h_)) (
          ((0 : Int) ≤ i ∧ i < (s2.size : Int)) ∧
          ifT ((btA s2 i) != 95) (
            ((0 : Int) ≤ i ∧ i < (s2.size : Int)) ∧
            s28c3 Ψ (s28l2_G (s28l2 Ψ n)) s2 i ((btA s2 i) != 39) h_) (
            s28c3 Ψ (s28l2_G (s28l2 Ψ n)) s2 i false h_))) (
        s28c3 Ψ (s28l2_G (s28l2 Ψ n)) s2 i false h_)) (
      callG prog 64 [] h fun v2 h_1 =>
      s28l4_E (s28l4 Ψ) s2 v2 0 h_1)

def s28c1 (Ψ : AVal → Heap → Prop) (s1 : ByteArray) (t19 : Bool) (h : Heap) : Prop :=
  ifT t19 (
    retG (.bool false) h Ψ) (
    s28l2_E (s28l2 Ψ) s1 1 h)

def s28 (Ψ : AVal → Heap → Prop) (s : ByteArray) (h : Heap) : Prop :=
  ifT (decide ((s.size : Int) < 1)) (
    s28c1 Ψ s true h) (
    ifT (decide (31 < (s.size : Int))) (
      s28c1 Ψ s true h) (
      ((0 : Int) ≤ 0 ∧ 0 < (s.size : Int)) ∧
      callG prog 63 [(.int .u8 (btA s 0))] h fun v5 h_2 =>
      tBool v5 fun v6 =>
      s28c1 Ψ s (!v6) h_2))

def s28_A (Ψ : AVal → Heap → Prop) : Ann :=
  .seq (rA 1)
  (.seq (.cut [(0, .str), (19, .bool)] (fun l h => J.cons l fun v l => J.str v fun x0 => J.cons l fun v l => J.bool v fun x1 => J.nil l (s28c1 Ψ x0 x1 h)) (.reg [⟨none, [(0, false), (1, false), (2, false), (3, false)]⟩, ⟨some (9, false), [(4, false), (5, false), (6, false)]⟩, ⟨none, [(7, false), (8, false)]⟩, ⟨some (14, false), [(9, false), (10, false), (11, false), (12, false)]⟩, ⟨none, [(13, false)]⟩])
  (.cond (.seq (rA 1)
  (.leaf))
  (.leaf)))
  (.seq (.seq (rA 1)
  (.block (.loop [(0, .str), (3, .int .i64)] (fun n l h => s28l2_R (s28l2 Ψ n) l h) (fun L2 =>
  .seq (.seq (rA 4)
  (.cond (.leaf)
  (.leaf)))
  (.seq (.block (.cut [(0, .str), (3, .int .i64), (55, .bool)] (fun l h => J.cons l fun v l => J.str v fun x0 => J.cons l fun v l => J.int .i64 v fun x1 => J.cons l fun v l => J.bool v fun x2 => J.nil l (s28c3 Ψ (fun y0 y1 h => L2 [(.str y0), (.int .i64 y1)] h) x0 x1 x2 h)) (.reg [⟨none, [(0, false), (1, false), (2, false), (3, false), (4, false), (5, false)]⟩, ⟨some (31, true), [(6, false), (7, false), (8, false), (9, false), (10, false)]⟩, ⟨some (36, true), [(11, false), (12, false), (13, false), (14, false)]⟩, ⟨some (31, true), [(15, false), (16, false)]⟩, ⟨none, [(17, false), (18, false)]⟩, ⟨some (44, true), [(19, false), (20, false), (21, false), (22, false)]⟩, ⟨none, [(23, false), (24, false)]⟩, ⟨some (50, true), [(25, false), (26, false), (27, false), (28, false)]⟩, ⟨none, [(29, false)]⟩])
  (.cond (.seq (rA 1)
  (.leaf))
  (.leaf))))
  (rA 3))))))
  (.seq (rA 2)
  (.seq (.seq (rA 1)
  (.block (.loop [(0, .str), (4, .any), (5, .int .i64)] (fun n l h => s28l4_R (s28l4 Ψ n) l h) (fun L4 =>
  .seq (.seq (rA 4)
  (.cond (.leaf)
  (.leaf)))
  (.seq (.block (.seq (rA 6)
  (.cond (.seq (rA 1)
  (.leaf))
  (.leaf))))
  (rA 3))))))
  (.seq (rA 1)
  (.leaf))))))

theorem s28_ok {Ψ : AVal → Heap → Prop} {s : ByteArray} {h : Heap} (H : s28 Ψ s h) : ACalls prog 28 [(.str s)] h Ψ :=
  calls_of_evF func28 (by kernel_rfl) (by kernel_rfl) (by kernel_rfl)
    (Eq.mpr (by as_aux_lemma => kernel_rfl : oblF prog f28 (s28_A Ψ) Ψ = (True ∧ ((True) ∧ (∀ (h : Heap) (x0 : ByteArray) (x1 : Bool), OI (s28c1 Ψ x0 x1 h)) ∧ ((True ∧ True) ∧ True)) ∧ (True ∧ (∀ (h : Heap) (x0 : ByteArray) (x1 : Int), ON (s28l2 Ψ 0 x0 x1 h)) ∧ ∀ n2 : Nat, (∀ (h : Heap) (x0 : ByteArray) (x1 : Int), OI (s28l2 Ψ (n2 + 1) x0 x1 h)) ∧ ((True ∧ True ∧ True) ∧ ((True) ∧ (∀ (h : Heap) (x0 : ByteArray) (x1 : Int) (x2 : Bool), OI (s28c3 Ψ (s28l2_G (s28l2 Ψ n2)) x0 x1 x2 h)) ∧ ((True ∧ True) ∧ True)) ∧ True)) ∧ True ∧ (True ∧ (∀ (h : Heap) (x0 : ByteArray) (x1 : AVal) (x2 : Int), ON (s28l4 Ψ 0 x0 x1 x2 h)) ∧ ∀ n4 : Nat, (∀ (h : Heap) (x0 : ByteArray) (x1 : AVal) (x2 : Int), OI (s28l4 Ψ (n4 + 1) x0 x1 x2 h)) ∧ ((True ∧ True ∧ True) ∧ (True ∧ (True ∧ True) ∧ True) ∧ True)) ∧ True ∧ True)) ⟨trivial, ⟨⟨trivial, fun _ _ _ H => H, ⟨⟨trivial, trivial⟩, trivial⟩⟩, ⟨⟨trivial, ⟨fun _ _ _ H => H, fun _ => ⟨fun _ _ _ H => H, ⟨⟨trivial, ⟨trivial, trivial⟩⟩, ⟨⟨trivial, fun _ _ _ _ H => H, ⟨⟨trivial, trivial⟩, trivial⟩⟩, trivial⟩⟩⟩⟩⟩, ⟨trivial, ⟨⟨trivial, ⟨fun _ _ _ _ H => H, fun _ => ⟨fun _ _ _ _ H => H, ⟨⟨trivial, ⟨trivial, trivial⟩⟩, ⟨⟨trivial, ⟨⟨trivial, trivial⟩, trivial⟩⟩, trivial⟩⟩⟩⟩⟩, ⟨trivial, trivial⟩⟩⟩⟩⟩⟩)
    (Eq.mpr (by as_aux_lemma => kernel_rfl : evF prog f28 (s28_A Ψ) Ψ [(.str s)] h = s28 Ψ s h) H)

/- 29 dictum/dictumref26.is -/
def s29 (Ψ : AVal → Heap → Prop) (k : Int) (h : Heap) : Prop :=
  ifT (decide ((-1) ≤ k)) (
    retG (.bool (decide (k ≤ 4096))) h Ψ) (
    retG (.bool false) h Ψ)

def s29_A (Ψ : AVal → Heap → Prop) : Ann :=
  .seq (rA 1)
  (.seq (.reg [⟨none, [(0, false), (1, false), (2, false)]⟩, ⟨some (5, true), [(3, false), (4, false)]⟩, ⟨none, [(5, false), (6, false)]⟩])
  (.leaf))

theorem s29_ok {Ψ : AVal → Heap → Prop} {k : Int} {h : Heap} (H : s29 Ψ k h) : ACalls prog 29 [(.int .i64 k)] h Ψ :=
  calls_of_evF func29 (by kernel_rfl) (by kernel_rfl) (by kernel_rfl)
    (Eq.mpr (by as_aux_lemma => kernel_rfl : oblF prog f29 (s29_A Ψ) Ψ = (True ∧ True ∧ True)) ⟨trivial, ⟨trivial, trivial⟩⟩)
    (Eq.mpr (by as_aux_lemma => kernel_rfl : evF prog f29 (s29_A Ψ) Ψ [(.int .i64 k)] h = s29 Ψ k h) H)

/- 30 dictum/dictumref26.rung -/
abbrev s30l3_T := AVal → Int → Int → Int → Int → Heap → Prop
def s30l3_R (F : s30l3_T) (l : List AVal) (h : Heap) : Prop := J.cons l fun x0 l => J.cons l fun v l => J.int .i64 v fun x1 => J.cons l fun v l => J.int .i64 v fun x2 => J.cons l fun v l => J.int .i64 v fun x3 => J.cons l fun v l => J.int .i64 v fun x4 => J.nil l (F x0 x1 x2 x3 x4 h)
def s30l3_G (F : s30l3_T) (x0 : AVal) (x1 x2 x3 x4 : Int) (h : Heap) : Prop := gJ [.any, .int .i64, .int .i64, .int .i64, .int .i64] [x0, (.int .i64 x1), (.int .i64 x2), (.int .i64 x3), (.int .i64 x4)] h (s30l3_R F)
def s30l3_E (F : Nat → s30l3_T) (x0 : AVal) (x1 x2 x3 x4 : Int) (h : Heap) : Prop := gJ [.any, .int .i64, .int .i64, .int .i64, .int .i64] [x0, (.int .i64 x1), (.int .i64 x2), (.int .i64 x3), (.int .i64 x4)] h (fun l h => ∃ n, s30l3_R (F n) l h)
theorem s30l3_go {F : s30l3_T} {x0 : AVal} {x1 x2 x3 x4 : Int} {h : Heap} (H : F x0 x1 x2 x3 x4 h) : s30l3_G F x0 x1 x2 x3 x4 h := gJ_plain rfl H
theorem s30l3_in {F : Nat → s30l3_T} {x0 : AVal} {x1 x2 x3 x4 : Int} {h : Heap} (n : Nat) (H : F n x0 x1 x2 x3 x4 h) : s30l3_E F x0 x1 x2 x3 x4 h := gJ_plain rfl ⟨n, H⟩

def s30c5 (Ψ : AVal → Heap → Prop) (L3 : s30l3_T) (t5 : AVal) (k5 e3 odd2 even2 i2 x1 : Int) (t100 : Bool) (h : Heap) : Prop :=
  ifT t100 (
    retG (.tuple [(.int .i64 x1), (.int .i64 e3)]) h Ψ) (
    rg (i2 + 1) (
      L3 t5 k5 odd2 even2 (i2 + 1) h))

def s30c4 (Ψ : AVal → Heap → Prop) (L3 : s30l3_T) (t4 : AVal) (k4 e2 odd1 even1 i1 x : Int) (h : Heap) : Prop :=
  ifT (e2 != 0) (
    s30c5 Ψ L3 t4 k4 e2 odd1 even1 i1 x true h) (
    s30c5 Ψ L3 t4 k4 e2 odd1 even1 i1 x (i1 == k4) h)

def s30l3 (Ψ : AVal → Heap → Prop) : Nat → s30l3_T
  | 0, _, _, _, _, _, _ => False
  | n + 1, t3, k3, odd, even, i, h =>
    ifT (decide (i ≤ k3)) (
      2 ≠ (0 : Int) ∧
      ifT ((Int.tmod i 2) == 1) (
        callG prog 69 [t3, (.int .i64 4), (.int .i64 odd), (.int .i64 even)] h fun v25 h_5 =>
        tTup v25 fun l_15 =>
        tCons l_15 fun v26 l_16 =>
        tInt .i64 v26 fun v27 =>
        tCons l_16 fun v28 l_17 =>
        tInt .i64 v28 fun v29 =>
        tNil l_17 (
          s30c4 Ψ (s30l3_G (s30l3 Ψ n)) t3 k3 v29 v27 odd i v27 h_5)) (
        callG prog 66 [t3, (.int .i64 odd), (.int .i64 even)] h fun v30 h_6 =>
        tTup v30 fun l_18 =>
        tCons l_18 fun v31 l_19 =>
        tInt .i64 v31 fun v32 =>
        tCons l_19 fun v33 l_20 =>
        tInt .i64 v33 fun v34 =>
        tNil l_20 (
          s30c4 Ψ (s30l3_G (s30l3 Ψ n)) t3 k3 v34 odd v32 i v32 h_6))) (
      retG (.tuple [(.int .i64 0), (.int .i64 0)]) h Ψ)

def s30c2 (Ψ : AVal → Heap → Prop) (t2 : AVal) (k2 p1 e1 q : Int) (t64 : Bool) (h : Heap) : Prop :=
  ifT t64 (
    retG (.tuple [(.int .i64 q), (.int .i64 e1)]) h Ψ) (
    s30l3_E (s30l3 Ψ) t2 k2 p1 q 3 h)

def s30c1 (Ψ : AVal → Heap → Prop) (t1 : AVal) (k1 p e : Int) (t50 : Bool) (h : Heap) : Prop :=
  ifT t50 (
    retG (.tuple [(.int .i64 p), (.int .i64 e)]) h Ψ) (
    callG prog 68 [t1, (.int .i64 p)] h fun v20 h_4 =>
    tTup v20 fun l_12 =>
    tCons l_12 fun v21 l_13 =>
    tInt .i64 v21 fun v22 =>
    tCons l_13 fun v23 l_14 =>
    tInt .i64 v23 fun v24 =>
    tNil l_14 (
      ifT (v24 != 0) (
        s30c2 Ψ t1 k1 p v24 v22 true h_4) (
        s30c2 Ψ t1 k1 p v24 v22 (k1 == 2) h_4)))

def s30 (Ψ : AVal → Heap → Prop) (t : AVal) (atom : ByteArray) (k : Int) (h : Heap) : Prop :=
  ifT (k == 0) (
    callG prog 65 [t] h fun v h_ =>
    tTup v fun l_ =>
    tCons l_ fun v1 l_1 =>
    tInt .i64 v1 fun v2 =>
    tCons l_1 fun v3 l_2 =>
    tInt .i64 v3 fun v4 =>
    tNil l_2 (
      retG (.tuple [(.int .i64 v2), (.int .i64 v4)]) h_ Ψ)) (
    ifT (k == (-1)) (
      callG prog 65 [t] h fun v5 h_1 =>
      tTup v5 fun l_3 =>
      tCons l_3 fun v6 l_4 =>
      tInt .i64 v6 fun v7 =>
      tCons l_4 fun v8 l_5 =>
      tInt .i64 v8 fun v9 =>
      tNil l_5 (
        ifT (v9 != 0) (
          retG (.tuple [(.int .i64 0), (.int .i64 v9)]) h_1 Ψ) (
          callG prog 66 [t, (.int .i64 v7), (.int .i64 v7)] h_1 fun v10 h_2 =>
          tTup v10 fun l_6 =>
          tCons l_6 fun v11 l_7 =>
          tInt .i64 v11 fun v12 =>
          tCons l_7 fun v13 l_8 =>
          tInt .i64 v13 fun v14 =>
          tNil l_8 (
            retG (.tuple [(.int .i64 v12), (.int .i64 v14)]) h_2 Ψ)))) (
      callG prog 67 [t, (.str atom)] h fun v15 h_3 =>
      tTup v15 fun l_9 =>
      tCons l_9 fun v16 l_10 =>
      tInt .i64 v16 fun v17 =>
      tCons l_10 fun v18 l_11 =>
      tInt .i64 v18 fun v19 =>
      tNil l_11 (
        ifT (v19 != 0) (
          s30c1 Ψ t k v17 v19 true h_3) (
          s30c1 Ψ t k v17 v19 (k == 1) h_3))))

def s30_A (Ψ : AVal → Heap → Prop) : Ann :=
  .seq (rA 2)
  (.seq (.seq (rA 2)
  (.cond (.seq (rA 6)
  (.leaf))
  (.leaf)))
  (.seq (.seq (rA 2)
  (.cond (.seq (rA 7)
  (.seq (.seq (rA 2)
  (.cond (.seq (rA 3)
  (.leaf))
  (.leaf)))
  (.seq (rA 8)
  (.leaf))))
  (.leaf)))
  (.seq (rA 8)
  (.seq (.cut [(0, .any), (2, .int .i64), (10, .int .i64), (11, .int .i64), (50, .bool)] (fun l h => J.cons l fun x0 l => J.cons l fun v l => J.int .i64 v fun x1 => J.cons l fun v l => J.int .i64 v fun x2 => J.cons l fun v l => J.int .i64 v fun x3 => J.cons l fun v l => J.bool v fun x4 => J.nil l (s30c1 Ψ x0 x1 x2 x3 x4 h)) (.reg [⟨none, [(0, false), (1, false), (2, false)]⟩, ⟨some (47, false), [(3, false), (4, false)]⟩, ⟨none, [(5, false)]⟩])
  (.cond (.seq (rA 4)
  (.leaf))
  (.leaf)))
  (.seq (rA 8)
  (.seq (.cut [(0, .any), (2, .int .i64), (10, .int .i64), (11, .int .i64), (12, .int .i64), (64, .bool)] (fun l h => J.cons l fun x0 l => J.cons l fun v l => J.int .i64 v fun x1 => J.cons l fun v l => J.int .i64 v fun x2 => J.cons l fun v l => J.int .i64 v fun x3 => J.cons l fun v l => J.int .i64 v fun x4 => J.cons l fun v l => J.bool v fun x5 => J.nil l (s30c2 Ψ x0 x1 x2 x3 x4 x5 h)) (.reg [⟨none, [(0, false), (1, false), (2, false)]⟩, ⟨some (61, false), [(3, false), (4, false)]⟩, ⟨none, [(5, false)]⟩])
  (.cond (.seq (rA 4)
  (.leaf))
  (.leaf)))
  (.seq (rA 4)
  (.seq (.seq (rA 1)
  (.block (.loop [(0, .any), (2, .int .i64), (13, .int .i64), (14, .int .i64), (15, .int .i64)] (fun n l h => s30l3_R (s30l3 Ψ n) l h) (fun L3 =>
  .seq (.seq (rA 3)
  (.cond (.leaf)
  (.leaf)))
  (.seq (.block (.seq (rA 1)
  (.cut [(0, .any), (2, .int .i64), (11, .int .i64), (13, .int .i64), (14, .int .i64), (15, .int .i64), (16, .int .i64)] (fun l h => J.cons l fun x0 l => J.cons l fun v l => J.int .i64 v fun x1 => J.cons l fun v l => J.int .i64 v fun x2 => J.cons l fun v l => J.int .i64 v fun x3 => J.cons l fun v l => J.int .i64 v fun x4 => J.cons l fun v l => J.int .i64 v fun x5 => J.cons l fun v l => J.int .i64 v fun x6 => J.nil l (s30c4 Ψ (fun y0 y1 y2 y3 y4 h => L3 [y0, (.int .i64 y1), (.int .i64 y2), (.int .i64 y3), (.int .i64 y4)] h) x0 x1 x2 x3 x4 x5 x6 h)) (.seq (rA 3)
  (.cond (.seq (rA 9)
  (.seq (rA 2)
  (rA 2)))
  (.seq (rA 9)
  (rA 2))))
  (.cut [(0, .any), (2, .int .i64), (11, .int .i64), (13, .int .i64), (14, .int .i64), (15, .int .i64), (16, .int .i64), (100, .bool)] (fun l h => J.cons l fun x0 l => J.cons l fun v l => J.int .i64 v fun x1 => J.cons l fun v l => J.int .i64 v fun x2 => J.cons l fun v l => J.int .i64 v fun x3 => J.cons l fun v l => J.int .i64 v fun x4 => J.cons l fun v l => J.int .i64 v fun x5 => J.cons l fun v l => J.int .i64 v fun x6 => J.cons l fun v l => J.bool v fun x7 => J.nil l (s30c5 Ψ (fun y0 y1 y2 y3 y4 h => L3 [y0, (.int .i64 y1), (.int .i64 y2), (.int .i64 y3), (.int .i64 y4)] h) x0 x1 x2 x3 x4 x5 x6 x7 h)) (.reg [⟨none, [(0, false), (1, false), (2, false)]⟩, ⟨some (96, false), [(3, false), (4, false), (5, false)]⟩, ⟨none, [(6, false)]⟩])
  (.cond (.seq (rA 4)
  (.leaf))
  (.leaf))))))
  (rA 3))))))
  (.seq (rA 2)
  (.leaf))))))))))

theorem s30_ok {Ψ : AVal → Heap → Prop} {t : AVal} {atom : ByteArray} {k : Int} {h : Heap} (H : s30 Ψ t atom k h) : ACalls prog 30 [t, (.str atom), (.int .i64 k)] h Ψ :=
  calls_of_evF func30 (by kernel_rfl) (by kernel_rfl) (by kernel_rfl)
    (Eq.mpr (by as_aux_lemma => kernel_rfl : oblF prog f30 (s30_A Ψ) Ψ = (True ∧ (True ∧ (True ∧ True) ∧ True) ∧ (True ∧ (True ∧ (True ∧ (True ∧ True) ∧ True) ∧ True ∧ True) ∧ True) ∧ True ∧ ((True) ∧ (∀ (h : Heap) (x0 : AVal) (x1 x2 x3 : Int) (x4 : Bool), OI (s30c1 Ψ x0 x1 x2 x3 x4 h)) ∧ ((True ∧ True) ∧ True)) ∧ True ∧ ((True) ∧ (∀ (h : Heap) (x0 : AVal) (x1 x2 x3 x4 : Int) (x5 : Bool), OI (s30c2 Ψ x0 x1 x2 x3 x4 x5 h)) ∧ ((True ∧ True) ∧ True)) ∧ True ∧ (True ∧ (∀ (h : Heap) (x0 : AVal) (x1 x2 x3 x4 : Int), ON (s30l3 Ψ 0 x0 x1 x2 x3 x4 h)) ∧ ∀ n3 : Nat, (∀ (h : Heap) (x0 : AVal) (x1 x2 x3 x4 : Int), OI (s30l3 Ψ (n3 + 1) x0 x1 x2 x3 x4 h)) ∧ ((True ∧ True ∧ True) ∧ (True ∧ (True ∧ (True ∧ True ∧ True) ∧ True ∧ True) ∧ (∀ (h : Heap) (x0 : AVal) (x1 x2 x3 x4 x5 x6 : Int), OI (s30c4 Ψ (s30l3_G (s30l3 Ψ n3)) x0 x1 x2 x3 x4 x5 x6 h)) ∧ ((True) ∧ (∀ (h : Heap) (x0 : AVal) (x1 x2 x3 x4 x5 x6 : Int) (x7 : Bool), OI (s30c5 Ψ (s30l3_G (s30l3 Ψ n3)) x0 x1 x2 x3 x4 x5 x6 x7 h)) ∧ ((True ∧ True) ∧ True))) ∧ True)) ∧ True ∧ True)) ⟨trivial, ⟨⟨trivial, ⟨⟨trivial, trivial⟩, trivial⟩⟩, ⟨⟨trivial, ⟨⟨trivial, ⟨⟨trivial, ⟨⟨trivial, trivial⟩, trivial⟩⟩, ⟨trivial, trivial⟩⟩⟩, trivial⟩⟩, ⟨trivial, ⟨⟨trivial, fun _ _ _ _ _ _ H => H, ⟨⟨trivial, trivial⟩, trivial⟩⟩, ⟨trivial, ⟨⟨trivial, fun _ _ _ _ _ _ _ H => H, ⟨⟨trivial, trivial⟩, trivial⟩⟩, ⟨trivial, ⟨⟨trivial, ⟨fun _ _ _ _ _ _ H => H, fun _ => ⟨fun _ _ _ _ _ _ H => H, ⟨⟨trivial, ⟨trivial, trivial⟩⟩, ⟨⟨trivial, ⟨⟨trivial, ⟨⟨trivial, ⟨trivial, trivial⟩⟩, ⟨trivial, trivial⟩⟩⟩, fun _ _ _ _ _ _ _ _ H => H, ⟨trivial, fun _ _ _ _ _ _ _ _ _ H => H, ⟨⟨trivial, trivial⟩, trivial⟩⟩⟩⟩, trivial⟩⟩⟩⟩⟩, ⟨trivial, trivial⟩⟩⟩⟩⟩⟩⟩⟩⟩⟩)
    (Eq.mpr (by as_aux_lemma => kernel_rfl : evF prog f30 (s30_A Ψ) Ψ [t, (.str atom), (.int .i64 k)] h = s30 Ψ t atom k h) H)

/- 31 (*dictum/dictumref03.T).Cut -/
def s31c1 (Ψ : AVal → Heap → Prop) (t1 : AVal) (n1 : Int) (t15 : Bool) (h : Heap) : Prop :=
  ifT t15 (
    retG (.int .i64 2) h Ψ) (
    nilCheckA t1 fun p =>
    addOff p 0 fun p1 =>
    ld1 h p1 fun v =>
    slM 4 v 0 n1 n1 fun v1 =>
    nilCheckA t1 fun p2 =>
    addOff p2 0 fun p3 =>
    chk (sc v1) (
      st true h p3 [v1] fun h_ =>
      retG (.int .i64 0) h_ Ψ))

def s31 (Ψ : AVal → Heap → Prop) (t : AVal) (n : Int) (h : Heap) : Prop :=
  ifT (decide (n < 0)) (
    s31c1 Ψ t n true h) (
    nilCheckA t fun p4 =>
    addOff p4 0 fun p5 =>
    ld1 h p5 fun v2 =>
    lenN v2 fun n2 =>
    s31c1 Ψ t n (decide (n2 < n)) h)

def s31_A (Ψ : AVal → Heap → Prop) : Ann :=
  .seq (rA 1)
  (.seq (.cut [(0, .any), (1, .int .i64), (15, .bool)] (fun l h => J.cons l fun x0 l => J.cons l fun v l => J.int .i64 v fun x1 => J.cons l fun v l => J.bool v fun x2 => J.nil l (s31c1 Ψ x0 x1 x2 h)) (.reg [⟨none, [(0, false), (1, false), (2, false)]⟩, ⟨some (7, false), [(3, false), (4, false), (5, false), (6, false), (7, false), (8, false), (9, false)]⟩, ⟨none, [(10, false)]⟩])
  (.cond (.seq (rA 1)
  (.leaf))
  (.leaf)))
  (.seq (rA 11)
  (.seq (rA 1)
  (.leaf))))

theorem s31_ok {Ψ : AVal → Heap → Prop} {t : AVal} {n : Int} {h : Heap} (H : s31 Ψ t n h) : ACalls prog 31 [t, (.int .i64 n)] h Ψ :=
  calls_of_evF func31 (by kernel_rfl) (by kernel_rfl) (by kernel_rfl)
    (Eq.mpr (by as_aux_lemma => kernel_rfl : oblF prog f31 (s31_A Ψ) Ψ = (True ∧ ((True) ∧ (∀ (h : Heap) (x0 : AVal) (x1 : Int) (x2 : Bool), OI (s31c1 Ψ x0 x1 x2 h)) ∧ ((True ∧ True) ∧ True)) ∧ True ∧ True ∧ True)) ⟨trivial, ⟨⟨trivial, fun _ _ _ _ H => H, ⟨⟨trivial, trivial⟩, trivial⟩⟩, ⟨trivial, ⟨trivial, trivial⟩⟩⟩⟩)
    (Eq.mpr (by as_aux_lemma => kernel_rfl : evF prog f31 (s31_A Ψ) Ψ [t, (.int .i64 n)] h = s31 Ψ t n h) H)

/- 32 dictum/dictumlaw03.Like -/
def s32 (Ψ : AVal → Heap → Prop) (t : AVal) (r : AVal) (h : Heap) : Prop :=
  nilCheckA r fun p =>
  addOff p 0 fun p1 =>
  ld1 h p1 fun v =>
  callG prog 71 [t] h fun v1 h_ =>
  (ld1 h_ p1 fun v2 =>
  v2 = v) ∧
  callG prog 70 [v1, v] h_ fun v3 h_1 =>
  tBool v3 fun v4 =>
  ifT v4 (
    nilCheckA r fun p2 =>
    addOff p2 0 fun p3 =>
    ld1 h_1 p3 fun v5 =>
    lenN v5 fun n =>
    callG prog 25 [t] h_1 fun v6 h_2 =>
    tInt .i64 v6 fun v7 =>
    (ld1 h_2 p3 fun v8 =>
    v8 = v5) ∧
    retG (.bool (v7 == n)) h_2 Ψ) (
    retG (.bool false) h_1 Ψ)

def s32_A (Ψ : AVal → Heap → Prop) : Ann :=
  .seq (rA 1)
  (.seq (.draw [(0, false), (2, false), (3, false), (4, false), (5, false), (1, false), (6, false), (7, false), (8, false), (10, false), (11, false), (12, false), (13, false), (14, false), (9, false), (15, false), (16, false), (17, false)] [0, 1, 0, 4, 12, 28, 63, 127, 255, 511, 255, 1279, 3327, 7423, 15615, 32767, 65535, 131071])
  (.leaf))

theorem s32_ok {Ψ : AVal → Heap → Prop} {t : AVal} {r : AVal} {h : Heap} (H : s32 Ψ t r h) : ACalls prog 32 [t, r] h Ψ :=
  calls_of_evF func32 (by kernel_rfl) (by kernel_rfl) (by kernel_rfl)
    (Eq.mpr (by as_aux_lemma => kernel_rfl : oblF prog f32 (s32_A Ψ) Ψ = (True ∧ True ∧ True)) ⟨trivial, ⟨trivial, trivial⟩⟩)
    (Eq.mpr (by as_aux_lemma => kernel_rfl : evF prog f32 (s32_A Ψ) Ψ [t, r] h = s32 Ψ t r h) H)

/- 33 dictum/nishimura.Imp -/
def s33 (Ψ : AVal → Heap → Prop) (a : Int) (b : Int) (h : Heap) : Prop :=
  callG prog 72 [(.int .i64 a), (.int .i64 b), (.func (.func 43) [] [])] h fun v h_ =>
  tTup v fun l_ =>
  tCons l_ fun v1 l_1 =>
  tInt .i64 v1 fun v2 =>
  tCons l_1 fun v3 l_2 =>
  tInt .i64 v3 fun v4 =>
  tNil l_2 (
    retG (.tuple [(.int .i64 v2), (.int .i64 v4)]) h_ Ψ)

def s33_A (Ψ : AVal → Heap → Prop) : Ann :=
  .seq (rA 2)
  (.seq (rA 7)
  (.leaf))

theorem s33_ok {Ψ : AVal → Heap → Prop} {a : Int} {b : Int} {h : Heap} (H : s33 Ψ a b h) : ACalls prog 33 [(.int .i64 a), (.int .i64 b)] h Ψ :=
  calls_of_evF func33 (by kernel_rfl) (by kernel_rfl) (by kernel_rfl)
    (Eq.mpr (by as_aux_lemma => kernel_rfl : oblF prog f33 (s33_A Ψ) Ψ = (True ∧ True ∧ True)) ⟨trivial, ⟨trivial, trivial⟩⟩)
    (Eq.mpr (by as_aux_lemma => kernel_rfl : evF prog f33 (s33_A Ψ) Ψ [(.int .i64 a), (.int .i64 b)] h = s33 Ψ a b h) H)

/- 34 dictum/nishimura.Join -/
def s34 (Ψ : AVal → Heap → Prop) (a : Int) (b : Int) (h : Heap) : Prop :=
  callG prog 72 [(.int .i64 a), (.int .i64 b), (.func (.func 42) [] [])] h fun v h_ =>
  tTup v fun l_ =>
  tCons l_ fun v1 l_1 =>
  tInt .i64 v1 fun v2 =>
  tCons l_1 fun v3 l_2 =>
  tInt .i64 v3 fun v4 =>
  tNil l_2 (
    retG (.tuple [(.int .i64 v2), (.int .i64 v4)]) h_ Ψ)

def s34_A (Ψ : AVal → Heap → Prop) : Ann :=
  .seq (rA 2)
  (.seq (rA 7)
  (.leaf))

theorem s34_ok {Ψ : AVal → Heap → Prop} {a : Int} {b : Int} {h : Heap} (H : s34 Ψ a b h) : ACalls prog 34 [(.int .i64 a), (.int .i64 b)] h Ψ :=
  calls_of_evF func34 (by kernel_rfl) (by kernel_rfl) (by kernel_rfl)
    (Eq.mpr (by as_aux_lemma => kernel_rfl : oblF prog f34 (s34_A Ψ) Ψ = (True ∧ True ∧ True)) ⟨trivial, ⟨trivial, trivial⟩⟩)
    (Eq.mpr (by as_aux_lemma => kernel_rfl : evF prog f34 (s34_A Ψ) Ψ [(.int .i64 a), (.int .i64 b)] h = s34 Ψ a b h) H)

/- 35 dictum/nishimura.Meet -/
def s35 (Ψ : AVal → Heap → Prop) (a : Int) (b : Int) (h : Heap) : Prop :=
  callG prog 72 [(.int .i64 a), (.int .i64 b), (.func (.func 41) [] [])] h fun v h_ =>
  tTup v fun l_ =>
  tCons l_ fun v1 l_1 =>
  tInt .i64 v1 fun v2 =>
  tCons l_1 fun v3 l_2 =>
  tInt .i64 v3 fun v4 =>
  tNil l_2 (
    retG (.tuple [(.int .i64 v2), (.int .i64 v4)]) h_ Ψ)

def s35_A (Ψ : AVal → Heap → Prop) : Ann :=
  .seq (rA 2)
  (.seq (rA 7)
  (.leaf))

theorem s35_ok {Ψ : AVal → Heap → Prop} {a : Int} {b : Int} {h : Heap} (H : s35 Ψ a b h) : ACalls prog 35 [(.int .i64 a), (.int .i64 b)] h Ψ :=
  calls_of_evF func35 (by kernel_rfl) (by kernel_rfl) (by kernel_rfl)
    (Eq.mpr (by as_aux_lemma => kernel_rfl : oblF prog f35 (s35_A Ψ) Ψ = (True ∧ True ∧ True)) ⟨trivial, ⟨trivial, trivial⟩⟩)
    (Eq.mpr (by as_aux_lemma => kernel_rfl : evF prog f35 (s35_A Ψ) Ψ [(.int .i64 a), (.int .i64 b)] h = s35 Ψ a b h) H)

/- 36 dictum/nishimura.Below -/
def s36c1 (Ψ : AVal → Heap → Prop) (x y : AVal) (t25 : Bool) (h : Heap) : Prop :=
  ifT t25 (
    retG (.tuple [(.bool false), (.int .i64 2)]) h Ψ) (
    ldN 3 h x fun l_14 =>
    tCons l_14 fun v20 l_15 =>
    tBool v20 fun v21 =>
    tCons l_15 fun v22 l_16 =>
    tInt .i64 v22 fun v23 =>
    tCons l_16 fun v24 l_17 =>
    tBool v24 fun v25 =>
    tNil l_17 (
      ldN 3 h y fun l_18 =>
      tCons l_18 fun v26 l_19 =>
      tBool v26 fun v27 =>
      tCons l_19 fun v28 l_20 =>
      tInt .i64 v28 fun v29 =>
      tCons l_20 fun v30 l_21 =>
      tBool v30 fun v31 =>
      tNil l_21 (
        callG prog 74 [(.agg [(.bool v21), (.int .i64 v23), (.bool v25)]), (.agg [(.bool v27), (.int .i64 v29), (.bool v31)])] h fun v32 h_6 =>
        tBool v32 fun v33 =>
        retG (.tuple [(.bool v33), (.int .i64 0)]) h_6 Ψ)))

def s36 (Ψ : AVal → Heap → Prop) (a : Int) (b : Int) (h : Heap) : Prop :=
  callG prog 73 [(.int .i64 a)] h fun v h_ =>
  tTup v fun l_ =>
  tCons l_ fun v1 l_1 =>
  tCons l_1 fun v2 l_2 =>
  tBool v2 fun v3 =>
  tNil l_2 (
    tAgg v1 fun l_3 =>
    tCons l_3 fun v4 l_4 =>
    tBool v4 fun v5 =>
    tCons l_4 fun v6 l_5 =>
    tInt .i64 v6 fun v7 =>
    tCons l_5 fun v8 l_6 =>
    tBool v8 fun v9 =>
    tNil l_6 (
      Sym.newRow 3 [(.agg [(.bool false), (.int .i64 0), (.bool false)])] h_ fun r h_1 =>
      st false h_1 (.ptr r 0 0) [(.bool v5), (.int .i64 v7), (.bool v9)] fun h_2 =>
      callG prog 73 [(.int .i64 b)] h_2 fun v10 h_3 =>
      tTup v10 fun l_7 =>
      tCons l_7 fun v11 l_8 =>
      tCons l_8 fun v12 l_9 =>
      tBool v12 fun v13 =>
      tNil l_9 (
        tAgg v11 fun l_10 =>
        tCons l_10 fun v14 l_11 =>
        tBool v14 fun v15 =>
        tCons l_11 fun v16 l_12 =>
        tInt .i64 v16 fun v17 =>
        tCons l_12 fun v18 l_13 =>
        tBool v18 fun v19 =>
        tNil l_13 (
          Sym.newRow 3 [(.agg [(.bool false), (.int .i64 0), (.bool false)])] h_3 fun r1 h_4 =>
          st false h_4 (.ptr r1 0 0) [(.bool v15), (.int .i64 v17), (.bool v19)] fun h_5 =>
          ifT (!v3) (
            s36c1 Ψ (.ptr r 0 0) (.ptr r1 0 0) true h_5) (
            s36c1 Ψ (.ptr r 0 0) (.ptr r1 0 0) (!v13) h_5)))))

def s36_A (Ψ : AVal → Heap → Prop) : Ann :=
  .seq (rA 2)
  (.seq (rA 8)
  (.seq (rA 8)
  (.seq (.cut [(6, .any), (8, .any), (25, .bool)] (fun l h => J.cons l fun x0 l => J.cons l fun x1 l => J.cons l fun v l => J.bool v fun x2 => J.nil l (s36c1 Ψ x0 x1 x2 h)) (.reg [⟨none, [(0, false), (1, false), (2, false)]⟩, ⟨some (22, false), [(3, false), (4, false)]⟩, ⟨none, [(5, false)]⟩])
  (.cond (.seq (rA 2)
  (.leaf))
  (.leaf)))
  (.seq (rA 5)
  (.leaf)))))

theorem s36_ok {Ψ : AVal → Heap → Prop} {a : Int} {b : Int} {h : Heap} (H : s36 Ψ a b h) : ACalls prog 36 [(.int .i64 a), (.int .i64 b)] h Ψ :=
  calls_of_evF func36 (by kernel_rfl) (by kernel_rfl) (by kernel_rfl)
    (Eq.mpr (by as_aux_lemma => kernel_rfl : oblF prog f36 (s36_A Ψ) Ψ = (True ∧ True ∧ True ∧ ((True) ∧ (∀ (h : Heap) (x0 x1 : AVal) (x2 : Bool), OI (s36c1 Ψ x0 x1 x2 h)) ∧ ((True ∧ True) ∧ True)) ∧ True ∧ True)) ⟨trivial, ⟨trivial, ⟨trivial, ⟨⟨trivial, fun _ _ _ _ H => H, ⟨⟨trivial, trivial⟩, trivial⟩⟩, ⟨trivial, trivial⟩⟩⟩⟩⟩)
    (Eq.mpr (by as_aux_lemma => kernel_rfl : evF prog f36 (s36_A Ψ) Ψ [(.int .i64 a), (.int .i64 b)] h = s36 Ψ a b h) H)

/- 41 dictum/nishimura.meet -/
def s41 (Ψ : AVal → Heap → Prop) (a_all : Bool) (a_low : Int) (a_gap : Bool) (b_all : Bool) (b_low : Int) (b_gap : Bool) (h : Heap) : Prop :=
  Sym.newRow 3 [(.agg [(.bool false), (.int .i64 0), (.bool false)])] h fun r h_ =>
  callG prog 83 [(.agg [(.bool a_all), (.int .i64 a_low), (.bool a_gap)]), (.agg [(.bool b_all), (.int .i64 b_low), (.bool b_gap)])] h_ fun v h_1 =>
  tInt .i64 v fun v1 =>
  callG prog 82 [(.int .i64 v1), (.func (.func 84) [] [(.lptr [(.bool a_all), (.int .i64 a_low), (.bool a_gap)]), (.lptr [(.bool b_all), (.int .i64 b_low), (.bool b_gap)])])] h_1 fun v2 h_2 =>
  tAgg v2 fun l_ =>
  tCons l_ fun v3 l_1 =>
  tBool v3 fun v4 =>
  tCons l_1 fun v5 l_2 =>
  tInt .i64 v5 fun v6 =>
  tCons l_2 fun v7 l_3 =>
  tBool v7 fun v8 =>
  tNil l_3 (
    st false h_2 (.ptr r 0 0) [(.bool v4), (.int .i64 v6), (.bool v8)] fun h_3 =>
    ldN 3 h_3 (.ptr r 0 0) fun l_4 =>
    tCons l_4 fun v9 l_5 =>
    tBool v9 fun v10 =>
    tCons l_5 fun v11 l_6 =>
    tInt .i64 v11 fun v12 =>
    tCons l_6 fun v13 l_7 =>
    tBool v13 fun v14 =>
    tNil l_7 (
      retG (.agg [(.bool v10), (.int .i64 v12), (.bool v14)]) h_3 Ψ))

def s41_A (Ψ : AVal → Heap → Prop) : Ann :=
  .seq (.reg [⟨none, [(0, true), (1, true), (2, false)]⟩])
  (.seq (rA 6)
  (.leaf))

theorem s41_ok {Ψ : AVal → Heap → Prop} {a_all : Bool} {a_low : Int} {a_gap : Bool} {b_all : Bool} {b_low : Int} {b_gap : Bool} {h : Heap} (H : s41 Ψ a_all a_low a_gap b_all b_low b_gap h) : ACalls prog 41 [(.agg [(.bool a_all), (.int .i64 a_low), (.bool a_gap)]), (.agg [(.bool b_all), (.int .i64 b_low), (.bool b_gap)])] h Ψ :=
  calls_of_evF func41 (by kernel_rfl) (by kernel_rfl) (by kernel_rfl)
    (Eq.mpr (by as_aux_lemma => kernel_rfl : oblF prog f41 (s41_A Ψ) Ψ = (True ∧ True ∧ True)) ⟨trivial, ⟨trivial, trivial⟩⟩)
    (Eq.mpr (by as_aux_lemma => kernel_rfl : evF prog f41 (s41_A Ψ) Ψ [(.agg [(.bool a_all), (.int .i64 a_low), (.bool a_gap)]), (.agg [(.bool b_all), (.int .i64 b_low), (.bool b_gap)])] h = s41 Ψ a_all a_low a_gap b_all b_low b_gap h) H)

/- 42 dictum/nishimura.join -/
def s42 (Ψ : AVal → Heap → Prop) (a_all : Bool) (a_low : Int) (a_gap : Bool) (b_all : Bool) (b_low : Int) (b_gap : Bool) (h : Heap) : Prop :=
  Sym.newRow 3 [(.agg [(.bool false), (.int .i64 0), (.bool false)])] h fun r h_ =>
  callG prog 83 [(.agg [(.bool a_all), (.int .i64 a_low), (.bool a_gap)]), (.agg [(.bool b_all), (.int .i64 b_low), (.bool b_gap)])] h_ fun v h_1 =>
  tInt .i64 v fun v1 =>
  callG prog 82 [(.int .i64 v1), (.func (.func 86) [] [(.lptr [(.bool a_all), (.int .i64 a_low), (.bool a_gap)]), (.lptr [(.bool b_all), (.int .i64 b_low), (.bool b_gap)])])] h_1 fun v2 h_2 =>
  tAgg v2 fun l_ =>
  tCons l_ fun v3 l_1 =>
  tBool v3 fun v4 =>
  tCons l_1 fun v5 l_2 =>
  tInt .i64 v5 fun v6 =>
  tCons l_2 fun v7 l_3 =>
  tBool v7 fun v8 =>
  tNil l_3 (
    st false h_2 (.ptr r 0 0) [(.bool v4), (.int .i64 v6), (.bool v8)] fun h_3 =>
    ldN 3 h_3 (.ptr r 0 0) fun l_4 =>
    tCons l_4 fun v9 l_5 =>
    tBool v9 fun v10 =>
    tCons l_5 fun v11 l_6 =>
    tInt .i64 v11 fun v12 =>
    tCons l_6 fun v13 l_7 =>
    tBool v13 fun v14 =>
    tNil l_7 (
      retG (.agg [(.bool v10), (.int .i64 v12), (.bool v14)]) h_3 Ψ))

def s42_A (Ψ : AVal → Heap → Prop) : Ann :=
  .seq (.reg [⟨none, [(0, true), (1, true), (2, false)]⟩])
  (.seq (rA 6)
  (.leaf))

theorem s42_ok {Ψ : AVal → Heap → Prop} {a_all : Bool} {a_low : Int} {a_gap : Bool} {b_all : Bool} {b_low : Int} {b_gap : Bool} {h : Heap} (H : s42 Ψ a_all a_low a_gap b_all b_low b_gap h) : ACalls prog 42 [(.agg [(.bool a_all), (.int .i64 a_low), (.bool a_gap)]), (.agg [(.bool b_all), (.int .i64 b_low), (.bool b_gap)])] h Ψ :=
  calls_of_evF func42 (by kernel_rfl) (by kernel_rfl) (by kernel_rfl)
    (Eq.mpr (by as_aux_lemma => kernel_rfl : oblF prog f42 (s42_A Ψ) Ψ = (True ∧ True ∧ True)) ⟨trivial, ⟨trivial, trivial⟩⟩)
    (Eq.mpr (by as_aux_lemma => kernel_rfl : evF prog f42 (s42_A Ψ) Ψ [(.agg [(.bool a_all), (.int .i64 a_low), (.bool a_gap)]), (.agg [(.bool b_all), (.int .i64 b_low), (.bool b_gap)])] h = s42 Ψ a_all a_low a_gap b_all b_low b_gap h) H)

/- 43 dictum/nishimura.imp -/
abbrev s43l1_T := AVal → AVal → Int → Int → Heap → Prop
def s43l1_R (F : s43l1_T) (l : List AVal) (h : Heap) : Prop := J.cons l fun x0 l => J.cons l fun x1 l => J.cons l fun v l => J.int .i64 v fun x2 => J.cons l fun v l => J.int .i64 v fun x3 => J.nil l (F x0 x1 x2 x3 h)
def s43l1_G (F : s43l1_T) (x0 x1 : AVal) (x2 x3 : Int) (h : Heap) : Prop := gJ [.any, .any, .int .i64, .int .i64] [x0, x1, (.int .i64 x2), (.int .i64 x3)] h (s43l1_R F)
def s43l1_E (F : Nat → s43l1_T) (x0 x1 : AVal) (x2 x3 : Int) (h : Heap) : Prop := gJ [.any, .any, .int .i64, .int .i64] [x0, x1, (.int .i64 x2), (.int .i64 x3)] h (fun l h => ∃ n, s43l1_R (F n) l h)
theorem s43l1_go {F : s43l1_T} {x0 x1 : AVal} {x2 x3 : Int} {h : Heap} (H : F x0 x1 x2 x3 h) : s43l1_G F x0 x1 x2 x3 h := gJ_plain rfl H
theorem s43l1_in {F : Nat → s43l1_T} {x0 x1 : AVal} {x2 x3 : Int} {h : Heap} (n : Nat) (H : F n x0 x1 x2 x3 h) : s43l1_E F x0 x1 x2 x3 h := gJ_plain rfl ⟨n, H⟩

def s43l1 (Ψ : AVal → Heap → Prop) : Nat → s43l1_T
  | 0, _, _, _, _, _ => False
  | n + 1, t4, bars, t10, t11, h =>
    ifT (decide (t11 < t10)) (
      callV prog bars [(.int .i64 t11)] h fun v2 h_2 =>
      tBool v2 fun v3 =>
      ifT v3 (
        rg (t11 + 1) (
          callV prog bars [(.int .i64 (t11 + 1))] h_2 fun v4 h_3 =>
          tBool v4 fun v5 =>
          st false h_3 t4 [(.bool false), (.int .i64 t11), (.bool (!v5))] fun h_4 =>
          ldN 3 h_4 t4 fun l_ =>
          tCons l_ fun v6 l_1 =>
          tBool v6 fun v7 =>
          tCons l_1 fun v8 l_2 =>
          tInt .i64 v8 fun v9 =>
          tCons l_2 fun v10 l_3 =>
          tBool v10 fun v11 =>
          tNil l_3 (
            retG (.agg [(.bool v7), (.int .i64 v9), (.bool v11)]) h_4 Ψ))) (
        rg (t11 + 1) (
          s43l1_G (s43l1 Ψ n) t4 bars t10 (t11 + 1) h_2))) (
      st false h t4 [(.bool true), (.int .i64 0), (.bool false)] fun h_5 =>
      ldN 3 h_5 t4 fun l_4 =>
      tCons l_4 fun v12 l_5 =>
      tBool v12 fun v13 =>
      tCons l_5 fun v14 l_6 =>
      tInt .i64 v14 fun v15 =>
      tCons l_6 fun v16 l_7 =>
      tBool v16 fun v17 =>
      tNil l_7 (
        retG (.agg [(.bool v13), (.int .i64 v15), (.bool v17)]) h_5 Ψ))

def s43 (Ψ : AVal → Heap → Prop) (a_all : Bool) (a_low : Int) (a_gap : Bool) (b_all : Bool) (b_low : Int) (b_gap : Bool) (h : Heap) : Prop :=
  Sym.newRow 3 [(.agg [(.bool false), (.int .i64 0), (.bool false)])] h fun r h_ =>
  callG prog 83 [(.agg [(.bool a_all), (.int .i64 a_low), (.bool a_gap)]), (.agg [(.bool b_all), (.int .i64 b_low), (.bool b_gap)])] h_ fun v h_1 =>
  tInt .i64 v fun v1 =>
  s43l1_E (s43l1 Ψ) (.ptr r 0 0) (.func (.func 87) [] [(.lptr [(.bool a_all), (.int .i64 a_low), (.bool a_gap)]), (.lptr [(.bool b_all), (.int .i64 b_low), (.bool b_gap)])]) v1 0 h_1

def s43_A (Ψ : AVal → Heap → Prop) : Ann :=
  .seq (.reg [⟨none, [(0, true), (1, true), (2, false)]⟩])
  (.seq (rA 2)
  (.seq (.seq (rA 4)
  (.block (.loop [(4, .any), (5, .any), (10, .int .i64), (11, .int .i64)] (fun n l h => s43l1_R (s43l1 Ψ n) l h) (fun L1 =>
  .seq (rA 1)
  (.seq (.cond (.leaf)
  (.leaf))
  (.seq (.block (.seq (rA 2)
  (.seq (rA 3)
  (.cond (.seq (rA 8)
  (.leaf))
  (.leaf)))))
  (rA 2)))))))
  (.seq (rA 2)
  (.leaf))))

theorem s43_ok {Ψ : AVal → Heap → Prop} {a_all : Bool} {a_low : Int} {a_gap : Bool} {b_all : Bool} {b_low : Int} {b_gap : Bool} {h : Heap} (H : s43 Ψ a_all a_low a_gap b_all b_low b_gap h) : ACalls prog 43 [(.agg [(.bool a_all), (.int .i64 a_low), (.bool a_gap)]), (.agg [(.bool b_all), (.int .i64 b_low), (.bool b_gap)])] h Ψ :=
  calls_of_evF func43 (by kernel_rfl) (by kernel_rfl) (by kernel_rfl)
    (Eq.mpr (by as_aux_lemma => kernel_rfl : oblF prog f43 (s43_A Ψ) Ψ = (True ∧ True ∧ (True ∧ (∀ (h : Heap) (x0 x1 : AVal) (x2 x3 : Int), ON (s43l1 Ψ 0 x0 x1 x2 x3 h)) ∧ ∀ n1 : Nat, (∀ (h : Heap) (x0 x1 : AVal) (x2 x3 : Int), OI (s43l1 Ψ (n1 + 1) x0 x1 x2 x3 h)) ∧ (True ∧ (True ∧ True) ∧ (True ∧ True ∧ (True ∧ True) ∧ True) ∧ True)) ∧ True ∧ True)) ⟨trivial, ⟨trivial, ⟨⟨trivial, ⟨fun _ _ _ _ _ H => H, fun _ => ⟨fun _ _ _ _ _ H => H, ⟨trivial, ⟨⟨trivial, trivial⟩, ⟨⟨trivial, ⟨trivial, ⟨⟨trivial, trivial⟩, trivial⟩⟩⟩, trivial⟩⟩⟩⟩⟩⟩, ⟨trivial, trivial⟩⟩⟩⟩)
    (Eq.mpr (by as_aux_lemma => kernel_rfl : evF prog f43 (s43_A Ψ) Ψ [(.agg [(.bool a_all), (.int .i64 a_low), (.bool a_gap)]), (.agg [(.bool b_all), (.int .i64 b_low), (.bool b_gap)])] h = s43 Ψ a_all a_low a_gap b_all b_low b_gap h) H)

/- 44 (dictum/nishimura.rung).number -/
def s44 (Ψ : AVal → Heap → Prop) (r_all : Bool) (r_low : Int) (r_gap : Bool) (h : Heap) : Prop :=
  ifT r_all (
    retG (.int .i64 (-1)) h Ψ) (
    ifT r_gap (
      rg (2 * r_low) (
        rg ((2 * r_low) + 2) (
          retG (.int .i64 ((2 * r_low) + 2)) h Ψ))) (
      ifT (r_low == 0) (
        retG (.int .i64 0) h Ψ) (
        rg (2 * r_low) (
          rg ((2 * r_low) - 1) (
            retG (.int .i64 ((2 * r_low) - 1)) h Ψ)))))

def s44_A (Ψ : AVal → Heap → Prop) : Ann :=
  .seq (.reg [⟨none, [(0, true), (1, false)]⟩])
  (.seq (.block (.seq (rA 3)
  (.cond (.seq (rA 1)
  (.leaf))
  (.seq (rA 3)
  (.cond (.seq (rA 5)
  (.leaf))
  (.seq (rA 4)
  (.cond (.seq (rA 1)
  (.leaf))
  (.leaf))))))))
  (.seq (rA 5)
  (.leaf)))

theorem s44_ok {Ψ : AVal → Heap → Prop} {r_all : Bool} {r_low : Int} {r_gap : Bool} {h : Heap} (H : s44 Ψ r_all r_low r_gap h) : ACalls prog 44 [(.agg [(.bool r_all), (.int .i64 r_low), (.bool r_gap)])] h Ψ :=
  calls_of_evF func44 (by kernel_rfl) (by kernel_rfl) (by kernel_rfl)
    (Eq.mpr (by as_aux_lemma => kernel_rfl : oblF prog f44 (s44_A Ψ) Ψ = (True ∧ (True ∧ (True ∧ True) ∧ True ∧ (True ∧ True) ∧ True ∧ (True ∧ True) ∧ True) ∧ True ∧ True)) ⟨trivial, ⟨⟨trivial, ⟨⟨trivial, trivial⟩, ⟨trivial, ⟨⟨trivial, trivial⟩, ⟨trivial, ⟨⟨trivial, trivial⟩, trivial⟩⟩⟩⟩⟩⟩, ⟨trivial, trivial⟩⟩⟩)
    (Eq.mpr (by as_aux_lemma => kernel_rfl : evF prog f44 (s44_A Ψ) Ψ [(.agg [(.bool r_all), (.int .i64 r_low), (.bool r_gap)])] h = s44 Ψ r_all r_low r_gap h) H)

/- 50 (*dictum/dictumref03.T).Has -/
def s50 (Ψ : AVal → Heap → Prop) (t : AVal) (id_ : Int) (h : Heap) : Prop :=
  ifT (decide (0 ≤ id_)) (
    nilCheckA t fun p =>
    addOff p 0 fun p1 =>
    ld1 h p1 fun v =>
    lenN v fun n =>
    retG (.bool (decide (id_ < n))) h Ψ) (
    retG (.bool false) h Ψ)

def s50_A (Ψ : AVal → Heap → Prop) : Ann :=
  .seq (rA 1)
  (.seq (.reg [⟨none, [(0, false), (1, false), (2, false)]⟩, ⟨some (7, true), [(3, false), (4, false), (5, false), (6, false), (7, false), (8, false), (9, false)]⟩, ⟨none, [(10, false), (11, false)]⟩])
  (.leaf))

theorem s50_ok {Ψ : AVal → Heap → Prop} {t : AVal} {id_ : Int} {h : Heap} (H : s50 Ψ t id_ h) : ACalls prog 50 [t, (.int .i64 id_)] h Ψ :=
  calls_of_evF func50 (by kernel_rfl) (by kernel_rfl) (by kernel_rfl)
    (Eq.mpr (by as_aux_lemma => kernel_rfl : oblF prog f50 (s50_A Ψ) Ψ = (True ∧ True ∧ True)) ⟨trivial, ⟨trivial, trivial⟩⟩)
    (Eq.mpr (by as_aux_lemma => kernel_rfl : evF prog f50 (s50_A Ψ) Ψ [t, (.int .i64 id_)] h = s50 Ψ t id_ h) H)

/- 54 dictum/dictumref03.From -/
abbrev s54l1_T := AVal → AVal → Int → Heap → Prop
def s54l1_R (F : s54l1_T) (l : List AVal) (h : Heap) : Prop := J.cons l fun x0 l => J.cons l fun x1 l => J.cons l fun v l => J.int .i64 v fun x2 => J.nil l (F x0 x1 x2 h)
def s54l1_G (F : s54l1_T) (x0 x1 : AVal) (x2 : Int) (h : Heap) : Prop := gJ [.any, .any, .int .i64] [x0, x1, (.int .i64 x2)] h (s54l1_R F)
def s54l1_E (F : Nat → s54l1_T) (x0 x1 : AVal) (x2 : Int) (h : Heap) : Prop := gJ [.any, .any, .int .i64] [x0, x1, (.int .i64 x2)] h (fun l h => ∃ n, s54l1_R (F n) l h)
theorem s54l1_go {F : s54l1_T} {x0 x1 : AVal} {x2 : Int} {h : Heap} (H : F x0 x1 x2 h) : s54l1_G F x0 x1 x2 h := gJ_plain rfl H
theorem s54l1_in {F : Nat → s54l1_T} {x0 x1 : AVal} {x2 : Int} {h : Heap} (n : Nat) (H : F n x0 x1 x2 h) : s54l1_E F x0 x1 x2 h := gJ_plain rfl ⟨n, H⟩

def s54l1 (Ψ : AVal → Heap → Prop) : Nat → s54l1_T
  | 0, _, _, _, _ => False
  | n + 1, rows1, t, i, h =>
    lenN rows1 fun n1 =>
    ifT (decide (i < n1)) (
      ixS 4 rows1 i fun p =>
      ldN 4 h p fun l_ =>
      tCons l_ fun v l_1 =>
      tInt .i64 v fun v1 =>
      tCons l_1 fun v2 l_2 =>
      tStr v2 fun v3 =>
      tCons l_2 fun v4 l_3 =>
      tInt .i64 v4 fun v5 =>
      tCons l_3 fun v6 l_4 =>
      tInt .i64 v6 fun v7 =>
      tNil l_4 (
        callG prog 98 [t, (.agg [(.int .i64 v1), (.str v3), (.int .i64 v5), (.int .i64 v7)])] h fun v8 h_1 =>
        tTup v8 fun l_5 =>
        tCons l_5 fun v9 l_6 =>
        tInt .i64 v9 fun v10 =>
        tCons l_6 fun v11 l_7 =>
        tInt .i64 v11 fun v12 =>
        tNil l_7 (
          ifT (v12 != 0) (
            retG (.tuple [.nilptr, (.int .i64 v12)]) h_1 Ψ) (
            ifT (v10 != i) (
              retG (.tuple [.nilptr, (.int .i64 31)]) h_1 Ψ) (
              rg (i + 1) (
                s54l1_G (s54l1 Ψ n) rows1 t (i + 1) h_1)))))) (
      retG (.tuple [t, (.int .i64 0)]) h Ψ)

def s54 (Ψ : AVal → Heap → Prop) (rows : AVal) (h : Heap) : Prop :=
  Sym.newRow 1 [(.agg [.nilsl])] h fun r h_ =>
  s54l1_E (s54l1 Ψ) rows (.ptr r 0 0) 0 h_

def s54_A (Ψ : AVal → Heap → Prop) : Ann :=
  .seq (rA 2)
  (.seq (rA 3)
  (.seq (.seq (rA 1)
  (.block (.loop [(0, .any), (4, .any), (5, .int .i64)] (fun n l h => s54l1_R (s54l1 Ψ n) l h) (fun L1 =>
  .seq (.seq (rA 4)
  (.cond (.leaf)
  (.leaf)))
  (.seq (.block (.seq (rA 11)
  (.seq (.seq (rA 2)
  (.cond (.seq (rA 3)
  (.leaf))
  (.leaf)))
  (.seq (rA 3)
  (.cond (.seq (rA 2)
  (.leaf))
  (.leaf))))))
  (rA 3))))))
  (.seq (rA 3)
  (.leaf))))

theorem s54_ok {Ψ : AVal → Heap → Prop} {rows : AVal} {h : Heap} (H : s54 Ψ rows h) : ACalls prog 54 [rows] h Ψ :=
  calls_of_evF func54 (by kernel_rfl) (by kernel_rfl) (by kernel_rfl)
    (Eq.mpr (by as_aux_lemma => kernel_rfl : oblF prog f54 (s54_A Ψ) Ψ = (True ∧ True ∧ (True ∧ (∀ (h : Heap) (x0 x1 : AVal) (x2 : Int), ON (s54l1 Ψ 0 x0 x1 x2 h)) ∧ ∀ n1 : Nat, (∀ (h : Heap) (x0 x1 : AVal) (x2 : Int), OI (s54l1 Ψ (n1 + 1) x0 x1 x2 h)) ∧ ((True ∧ True ∧ True) ∧ (True ∧ (True ∧ (True ∧ True) ∧ True) ∧ True ∧ (True ∧ True) ∧ True) ∧ True)) ∧ True ∧ True)) ⟨trivial, ⟨trivial, ⟨⟨trivial, ⟨fun _ _ _ _ H => H, fun _ => ⟨fun _ _ _ _ H => H, ⟨⟨trivial, ⟨trivial, trivial⟩⟩, ⟨⟨trivial, ⟨⟨trivial, ⟨⟨trivial, trivial⟩, trivial⟩⟩, ⟨trivial, ⟨⟨trivial, trivial⟩, trivial⟩⟩⟩⟩, trivial⟩⟩⟩⟩⟩, ⟨trivial, trivial⟩⟩⟩⟩)
    (Eq.mpr (by as_aux_lemma => kernel_rfl : evF prog f54 (s54_A Ψ) Ψ [rows] h = s54 Ψ rows h) H)

/- 55 dictum/formula.From -/
abbrev s55l1_T := AVal → AVal → Int → Int → Heap → Prop
def s55l1_R (F : s55l1_T) (l : List AVal) (h : Heap) : Prop := J.cons l fun x0 l => J.cons l fun x1 l => J.cons l fun v l => J.int .i64 v fun x2 => J.cons l fun v l => J.int .i64 v fun x3 => J.nil l (F x0 x1 x2 x3 h)
def s55l1_G (F : s55l1_T) (x0 x1 : AVal) (x2 x3 : Int) (h : Heap) : Prop := gJ [.any, .any, .int .i64, .int .i64] [x0, x1, (.int .i64 x2), (.int .i64 x3)] h (s55l1_R F)
def s55l1_E (F : Nat → s55l1_T) (x0 x1 : AVal) (x2 x3 : Int) (h : Heap) : Prop := gJ [.any, .any, .int .i64, .int .i64] [x0, x1, (.int .i64 x2), (.int .i64 x3)] h (fun l h => ∃ n, s55l1_R (F n) l h)
theorem s55l1_go {F : s55l1_T} {x0 x1 : AVal} {x2 x3 : Int} {h : Heap} (H : F x0 x1 x2 x3 h) : s55l1_G F x0 x1 x2 x3 h := gJ_plain rfl H
theorem s55l1_in {F : Nat → s55l1_T} {x0 x1 : AVal} {x2 x3 : Int} {h : Heap} (n : Nat) (H : F n x0 x1 x2 x3 h) : s55l1_E F x0 x1 x2 x3 h := gJ_plain rfl ⟨n, H⟩

def s55c2 (Ψ : AVal → Heap → Prop) (L1 : s55l1_T) (t1 : AVal) (e : Int) (t10_1 : AVal) (t11_1 t12_1 : Int) (h : Heap) : Prop :=
  ifT (e != 0) (
    retG (.tuple [.nilptr, (.int .i64 e)]) h Ψ) (
    rg (t12_1 + 1) (
      L1 t1 t10_1 t11_1 (t12_1 + 1) h))

def s55c3 (Ψ : AVal → Heap → Prop) (L1 : s55l1_T) (t2 : AVal) (e1 : Int) (t10_2 : AVal) (t11_2 t12_2 : Int) (t29 : Bool) (h : Heap) : Prop :=
  ifT t29 (
    s55c2 Ψ L1 t2 31 t10_2 t11_2 t12_2 h) (
    s55c2 Ψ L1 t2 e1 t10_2 t11_2 t12_2 h)

def s55l1 (Ψ : AVal → Heap → Prop) : Nat → s55l1_T
  | 0, _, _, _, _, _ => False
  | n1 + 1, t, t10, t11, t12, h =>
    ifT (decide (t12 < t11)) (
      ixS 4 t10 t12 fun p =>
      ldN 4 h p fun l_ =>
      tCons l_ fun v1 l_1 =>
      tInt .i64 v1 fun v2 =>
      tCons l_1 fun v3 l_2 =>
      tStr v3 fun v4 =>
      tCons l_2 fun v5 l_3 =>
      tInt .i64 v5 fun v6 =>
      tCons l_3 fun v7 l_4 =>
      tInt .i64 v7 fun v8 =>
      tNil l_4 (
        Sym.newRow 4 [(.agg [(.int .i64 0), (.str (ByteArray.mk #[])), (.int .i64 0), (.int .i64 0)])] h fun r h_1 =>
        st false h_1 (.ptr r 0 0) [(.int .i64 v2), (.str v4), (.int .i64 v6), (.int .i64 v8)] fun h_2 =>
        ldN 4 h_2 (.ptr r 0 0) fun l_5 =>
        tCons l_5 fun v9 l_6 =>
        tInt .i64 v9 fun v10 =>
        tCons l_6 fun v11 l_7 =>
        tStr v11 fun v12 =>
        tCons l_7 fun v13 l_8 =>
        tInt .i64 v13 fun v14 =>
        tCons l_8 fun v15 l_9 =>
        tInt .i64 v15 fun v16 =>
        tNil l_9 (
          callG prog 99 [t, (.agg [(.int .i64 v10), (.str v12), (.int .i64 v14), (.int .i64 v16)])] h_2 fun v17 h_3 =>
          tTup v17 fun l_10 =>
          tCons l_10 fun v18 l_11 =>
          tInt .i64 v18 fun v19 =>
          tCons l_11 fun v20 l_12 =>
          tInt .i64 v20 fun v21 =>
          tNil l_12 (
            ifT (v21 == 0) (
              s55c3 Ψ (s55l1_G (s55l1 Ψ n1)) t v21 t10 t11 t12 (v19 != t12) h_3) (
              s55c3 Ψ (s55l1_G (s55l1 Ψ n1)) t v21 t10 t11 t12 false h_3))))) (
      retG (.tuple [t, (.int .i64 0)]) h Ψ)

def s55 (Ψ : AVal → Heap → Prop) (rows : AVal) (h : Heap) : Prop :=
  callG prog 22 [] h fun v h_ =>
  lenN rows fun n =>
  s55l1_E (s55l1 Ψ) v rows n 0 h_

def s55_A (Ψ : AVal → Heap → Prop) : Ann :=
  .seq (rA 2)
  (.seq (rA 2)
  (.seq (.seq (rA 3)
  (.block (.loop [(4, .any), (10, .any), (11, .int .i64), (12, .int .i64)] (fun n l h => s55l1_R (s55l1 Ψ n) l h) (fun L1 =>
  .seq (rA 1)
  (.seq (.cond (.leaf)
  (.leaf))
  (.seq (.block (.seq (rA 6)
  (.seq (rA 8)
  (.cut [(4, .any), (8, .int .i64), (10, .any), (11, .int .i64), (12, .int .i64)] (fun l h => J.cons l fun x0 l => J.cons l fun v l => J.int .i64 v fun x1 => J.cons l fun x2 l => J.cons l fun v l => J.int .i64 v fun x3 => J.cons l fun v l => J.int .i64 v fun x4 => J.nil l (s55c2 Ψ (fun y0 y1 y2 y3 h => L1 [y0, y1, (.int .i64 y2), (.int .i64 y3)] h) x0 x1 x2 x3 x4 h)) (.cut [(4, .any), (8, .int .i64), (10, .any), (11, .int .i64), (12, .int .i64), (29, .bool)] (fun l h => J.cons l fun x0 l => J.cons l fun v l => J.int .i64 v fun x1 => J.cons l fun x2 l => J.cons l fun v l => J.int .i64 v fun x3 => J.cons l fun v l => J.int .i64 v fun x4 => J.cons l fun v l => J.bool v fun x5 => J.nil l (s55c3 Ψ (fun y0 y1 y2 y3 h => L1 [y0, y1, (.int .i64 y2), (.int .i64 y3)] h) x0 x1 x2 x3 x4 x5 h)) (.reg [⟨none, [(0, false), (1, false), (2, false)]⟩, ⟨some (25, true), [(3, false), (4, false), (5, false)]⟩, ⟨none, [(6, false)]⟩])
  (.cond (rA 1)
  (.leaf)))
  (.seq (rA 2)
  (.cond (.seq (rA 3)
  (.leaf))
  (.leaf)))))))
  (rA 2)))))))
  (.seq (rA 3)
  (.leaf))))

theorem s55_ok {Ψ : AVal → Heap → Prop} {rows : AVal} {h : Heap} (H : s55 Ψ rows h) : ACalls prog 55 [rows] h Ψ :=
  calls_of_evF func55 (by kernel_rfl) (by kernel_rfl) (by kernel_rfl)
    (Eq.mpr (by as_aux_lemma => kernel_rfl : oblF prog f55 (s55_A Ψ) Ψ = (True ∧ True ∧ (True ∧ (∀ (h : Heap) (x0 x1 : AVal) (x2 x3 : Int), ON (s55l1 Ψ 0 x0 x1 x2 x3 h)) ∧ ∀ n1 : Nat, (∀ (h : Heap) (x0 x1 : AVal) (x2 x3 : Int), OI (s55l1 Ψ (n1 + 1) x0 x1 x2 x3 h)) ∧ (True ∧ (True ∧ True) ∧ (True ∧ True ∧ ((True) ∧ (∀ (h : Heap) (x0 : AVal) (x1 : Int) (x2 : AVal) (x3 x4 : Int) (x5 : Bool), OI (s55c3 Ψ (s55l1_G (s55l1 Ψ n1)) x0 x1 x2 x3 x4 x5 h)) ∧ (True ∧ True)) ∧ (∀ (h : Heap) (x0 : AVal) (x1 : Int) (x2 : AVal) (x3 x4 : Int), OI (s55c2 Ψ (s55l1_G (s55l1 Ψ n1)) x0 x1 x2 x3 x4 h)) ∧ (True ∧ (True ∧ True) ∧ True)) ∧ True)) ∧ True ∧ True)) ⟨trivial, ⟨trivial, ⟨⟨trivial, ⟨fun _ _ _ _ _ H => H, fun _ => ⟨fun _ _ _ _ _ H => H, ⟨trivial, ⟨⟨trivial, trivial⟩, ⟨⟨trivial, ⟨trivial, ⟨⟨trivial, fun _ _ _ _ _ _ _ H => H, ⟨trivial, trivial⟩⟩, fun _ _ _ _ _ _ H => H, ⟨trivial, ⟨⟨trivial, trivial⟩, trivial⟩⟩⟩⟩⟩, trivial⟩⟩⟩⟩⟩⟩, ⟨trivial, trivial⟩⟩⟩⟩)
    (Eq.mpr (by as_aux_lemma => kernel_rfl : evF prog f55 (s55_A Ψ) Ψ [rows] h = s55 Ψ rows h) H)

/- 56 (*dictum/formula.Table).alive -/
def s56 (Ψ : AVal → Heap → Prop) (t : AVal) (h : Heap) : Prop :=
  nilP t fun b =>
  ifT (!b) (
    nilCheckA t fun p =>
    addOff p 1 fun p1 =>
    ld1 h p1 fun v =>
    nilM v fun b1 =>
    retG (.bool (!b1)) h Ψ) (
    retG (.bool false) h Ψ)

def s56_A (Ψ : AVal → Heap → Prop) : Ann :=
  .seq (rA 1)
  (.seq (.reg [⟨none, [(0, false), (1, false), (2, false)]⟩, ⟨some (5, true), [(3, false), (4, false), (5, false), (6, false), (7, false)]⟩, ⟨none, [(8, false), (9, false)]⟩])
  (.leaf))

theorem s56_ok {Ψ : AVal → Heap → Prop} {t : AVal} {h : Heap} (H : s56 Ψ t h) : ACalls prog 56 [t] h Ψ :=
  calls_of_evF func56 (by kernel_rfl) (by kernel_rfl) (by kernel_rfl)
    (Eq.mpr (by as_aux_lemma => kernel_rfl : oblF prog f56 (s56_A Ψ) Ψ = (True ∧ True ∧ True)) ⟨trivial, ⟨trivial, trivial⟩⟩)
    (Eq.mpr (by as_aux_lemma => kernel_rfl : evF prog f56 (s56_A Ψ) Ψ [t] h = s56 Ψ t h) H)

/- 57 dictum/formula.reserved -/
def s57c1 (Ψ : AVal → Heap → Prop) (t4 : Bool) (h : Heap) : Prop :=
  ifT t4 (
    retG (.bool true) h Ψ) (
    retG (.bool false) h Ψ)

def s57 (Ψ : AVal → Heap → Prop) (s : ByteArray) (h : Heap) : Prop :=
  ifT (strEq s (ByteArray.mk #[97, 98, 111, 114, 116])) (
    s57c1 Ψ (strEq s (ByteArray.mk #[97, 98, 111, 114, 116])) h) (
    ifT (strEq s (ByteArray.mk #[99, 97, 115, 101])) (
      s57c1 Ψ (strEq s (ByteArray.mk #[99, 97, 115, 101])) h) (
      ifT (strEq s (ByteArray.mk #[102, 97, 108, 115, 101])) (
        s57c1 Ψ (strEq s (ByteArray.mk #[102, 97, 108, 115, 101])) h) (
        ifT (strEq s (ByteArray.mk #[102, 115, 116])) (
          s57c1 Ψ (strEq s (ByteArray.mk #[102, 115, 116])) h) (
          ifT (strEq s (ByteArray.mk #[102, 117, 110])) (
            s57c1 Ψ (strEq s (ByteArray.mk #[102, 117, 110])) h) (
            ifT (strEq s (ByteArray.mk #[105, 110])) (
              s57c1 Ψ (strEq s (ByteArray.mk #[105, 110])) h) (
              ifT (strEq s (ByteArray.mk #[105, 110, 108])) (
                s57c1 Ψ (strEq s (ByteArray.mk #[105, 110, 108])) h) (
                ifT (strEq s (ByteArray.mk #[105, 110, 114])) (
                  s57c1 Ψ (strEq s (ByteArray.mk #[105, 110, 114])) h) (
                  ifT (strEq s (ByteArray.mk #[108, 101, 116])) (
                    s57c1 Ψ (strEq s (ByteArray.mk #[108, 101, 116])) h) (
                    ifT (strEq s (ByteArray.mk #[111, 102])) (
                      s57c1 Ψ (strEq s (ByteArray.mk #[111, 102])) h) (
                      ifT (strEq s (ByteArray.mk #[115, 110, 100])) (
                        s57c1 Ψ (strEq s (ByteArray.mk #[115, 110, 100])) h) (
                        s57c1 Ψ (strEq s (ByteArray.mk #[116, 114, 117, 101])) h)))))))))))

def s57_A (Ψ : AVal → Heap → Prop) : Ann :=
  .seq (rA 1)
  (.seq (.seq (rA 1)
  (.block (.cut [(4, .bool)] (fun l h => J.cons l fun v l => J.bool v fun x0 => J.nil l (s57c1 Ψ x0 h)) (.seq (rA 2)
  (.cond (.leaf)
  (.seq (rA 2)
  (.cond (.leaf)
  (.seq (rA 2)
  (.cond (.leaf)
  (.seq (rA 2)
  (.cond (.leaf)
  (.seq (rA 2)
  (.cond (.leaf)
  (.seq (rA 2)
  (.cond (.leaf)
  (.seq (rA 2)
  (.cond (.leaf)
  (.seq (rA 2)
  (.cond (.leaf)
  (.seq (rA 2)
  (.cond (.leaf)
  (.seq (rA 2)
  (.cond (.leaf)
  (.seq (rA 2)
  (.cond (.leaf)
  (rA 2)))))))))))))))))))))))
  (.cond (.seq (rA 1)
  (.leaf))
  (.leaf)))))
  (.seq (rA 1)
  (.leaf)))

theorem s57_ok {Ψ : AVal → Heap → Prop} {s : ByteArray} {h : Heap} (H : s57 Ψ s h) : ACalls prog 57 [(.str s)] h Ψ :=
  calls_of_evF func57 (by kernel_rfl) (by kernel_rfl) (by kernel_rfl)
    (Eq.mpr (by as_aux_lemma => kernel_rfl : oblF prog f57 (s57_A Ψ) Ψ = (True ∧ (True ∧ (True ∧ True ∧ True ∧ True ∧ True ∧ True ∧ True ∧ True ∧ True ∧ True ∧ True ∧ True ∧ True ∧ True ∧ True ∧ True ∧ True ∧ True ∧ True ∧ True ∧ True ∧ True ∧ True) ∧ (∀ (h : Heap) (x0 : Bool), OI (s57c1 Ψ x0 h)) ∧ ((True ∧ True) ∧ True)) ∧ True ∧ True)) ⟨trivial, ⟨⟨trivial, ⟨⟨trivial, ⟨trivial, ⟨trivial, ⟨trivial, ⟨trivial, ⟨trivial, ⟨trivial, ⟨trivial, ⟨trivial, ⟨trivial, ⟨trivial, ⟨trivial, ⟨trivial, ⟨trivial, ⟨trivial, ⟨trivial, ⟨trivial, ⟨trivial, ⟨trivial, ⟨trivial, ⟨trivial, ⟨trivial, trivial⟩⟩⟩⟩⟩⟩⟩⟩⟩⟩⟩⟩⟩⟩⟩⟩⟩⟩⟩⟩⟩⟩, fun _ _ H => H, ⟨⟨trivial, trivial⟩, trivial⟩⟩⟩, ⟨trivial, trivial⟩⟩⟩)
    (Eq.mpr (by as_aux_lemma => kernel_rfl : evF prog f57 (s57_A Ψ) Ψ [(.str s)] h = s57 Ψ s h) H)

/- 58 (*dictum/formula.Table).Bot -/
def s58 (Ψ : AVal → Heap → Prop) (t : AVal) (h : Heap) : Prop :=
  callG prog 99 [t, (.agg [(.int .i64 2), (.str (ByteArray.mk #[])), (.int .i64 0), (.int .i64 0)])] h fun v h_ =>
  tTup v fun l_ =>
  tCons l_ fun v1 l_1 =>
  tInt .i64 v1 fun v2 =>
  tCons l_1 fun v3 l_2 =>
  tInt .i64 v3 fun v4 =>
  tNil l_2 (
    retG (.tuple [(.int .i64 v2), (.int .i64 v4)]) h_ Ψ)

def s58_A (Ψ : AVal → Heap → Prop) : Ann :=
  .seq (rA 2)
  (.seq (rA 7)
  (.leaf))

theorem s58_ok {Ψ : AVal → Heap → Prop} {t : AVal} {h : Heap} (H : s58 Ψ t h) : ACalls prog 58 [t] h Ψ :=
  calls_of_evF func58 (by kernel_rfl) (by kernel_rfl) (by kernel_rfl)
    (Eq.mpr (by as_aux_lemma => kernel_rfl : oblF prog f58 (s58_A Ψ) Ψ = (True ∧ True ∧ True)) ⟨trivial, ⟨trivial, trivial⟩⟩)
    (Eq.mpr (by as_aux_lemma => kernel_rfl : evF prog f58 (s58_A Ψ) Ψ [t] h = s58 Ψ t h) H)

/- 59 (*dictum/formula.Table).Imp -/
def s59 (Ψ : AVal → Heap → Prop) (t : AVal) (a : Int) (b : Int) (h : Heap) : Prop :=
  callG prog 99 [t, (.agg [(.int .i64 5), (.str (ByteArray.mk #[])), (.int .i64 a), (.int .i64 b)])] h fun v h_ =>
  tTup v fun l_ =>
  tCons l_ fun v1 l_1 =>
  tInt .i64 v1 fun v2 =>
  tCons l_1 fun v3 l_2 =>
  tInt .i64 v3 fun v4 =>
  tNil l_2 (
    retG (.tuple [(.int .i64 v2), (.int .i64 v4)]) h_ Ψ)

def s59_A (Ψ : AVal → Heap → Prop) : Ann :=
  .seq (rA 2)
  (.seq (rA 9)
  (.leaf))

theorem s59_ok {Ψ : AVal → Heap → Prop} {t : AVal} {a : Int} {b : Int} {h : Heap} (H : s59 Ψ t a b h) : ACalls prog 59 [t, (.int .i64 a), (.int .i64 b)] h Ψ :=
  calls_of_evF func59 (by kernel_rfl) (by kernel_rfl) (by kernel_rfl)
    (Eq.mpr (by as_aux_lemma => kernel_rfl : oblF prog f59 (s59_A Ψ) Ψ = (True ∧ True ∧ True)) ⟨trivial, ⟨trivial, trivial⟩⟩)
    (Eq.mpr (by as_aux_lemma => kernel_rfl : evF prog f59 (s59_A Ψ) Ψ [t, (.int .i64 a), (.int .i64 b)] h = s59 Ψ t a b h) H)

/- 60 (*dictum/formula.Table).Atom -/
def s60 (Ψ : AVal → Heap → Prop) (t : AVal) (name : ByteArray) (h : Heap) : Prop :=
  callG prog 99 [t, (.agg [(.int .i64 1), (.str name), (.int .i64 0), (.int .i64 0)])] h fun v h_ =>
  tTup v fun l_ =>
  tCons l_ fun v1 l_1 =>
  tInt .i64 v1 fun v2 =>
  tCons l_1 fun v3 l_2 =>
  tInt .i64 v3 fun v4 =>
  tNil l_2 (
    retG (.tuple [(.int .i64 v2), (.int .i64 v4)]) h_ Ψ)

def s60_A (Ψ : AVal → Heap → Prop) : Ann :=
  .seq (rA 2)
  (.seq (rA 8)
  (.leaf))

theorem s60_ok {Ψ : AVal → Heap → Prop} {t : AVal} {name : ByteArray} {h : Heap} (H : s60 Ψ t name h) : ACalls prog 60 [t, (.str name)] h Ψ :=
  calls_of_evF func60 (by kernel_rfl) (by kernel_rfl) (by kernel_rfl)
    (Eq.mpr (by as_aux_lemma => kernel_rfl : oblF prog f60 (s60_A Ψ) Ψ = (True ∧ True ∧ True)) ⟨trivial, ⟨trivial, trivial⟩⟩)
    (Eq.mpr (by as_aux_lemma => kernel_rfl : evF prog f60 (s60_A Ψ) Ψ [t, (.str name)] h = s60 Ψ t name h) H)

/- 61 (*dictum/formula.Table).Not -/
def s61 (Ψ : AVal → Heap → Prop) (t : AVal) (a : Int) (h : Heap) : Prop :=
  callG prog 56 [t] h fun v h_ =>
  tBool v fun v1 =>
  ifT (!v1) (
    retG (.tuple [(.int .i64 0), (.int .i64 1)]) h_ Ψ) (
    callG prog 75 [t, (.int .i64 a)] h_ fun v2 h_1 =>
    tBool v2 fun v3 =>
    ifT (!v3) (
      retG (.tuple [(.int .i64 0), (.int .i64 31)]) h_1 Ψ) (
      callG prog 58 [t] h_1 fun v4 h_2 =>
      tTup v4 fun l_ =>
      tCons l_ fun v5 l_1 =>
      tInt .i64 v5 fun v6 =>
      tCons l_1 fun v7 l_2 =>
      tInt .i64 v7 fun v8 =>
      tNil l_2 (
        ifT (v8 != 0) (
          retG (.tuple [(.int .i64 0), (.int .i64 v8)]) h_2 Ψ) (
          callG prog 59 [t, (.int .i64 a), (.int .i64 v6)] h_2 fun v9 h_3 =>
          tTup v9 fun l_3 =>
          tCons l_3 fun v10 l_4 =>
          tInt .i64 v10 fun v11 =>
          tCons l_4 fun v12 l_5 =>
          tInt .i64 v12 fun v13 =>
          tNil l_5 (
            retG (.tuple [(.int .i64 v11), (.int .i64 v13)]) h_3 Ψ)))))

def s61_A (Ψ : AVal → Heap → Prop) : Ann :=
  .seq (rA 2)
  (.seq (.block (.seq (rA 4)
  (.cond (.seq (rA 2)
  (.leaf))
  (.seq (rA 5)
  (.cond (.seq (rA 2)
  (.leaf))
  (.leaf))))))
  (.seq (rA 7)
  (.seq (.seq (rA 2)
  (.cond (.seq (rA 3)
  (.leaf))
  (.leaf)))
  (.seq (rA 8)
  (.leaf)))))

theorem s61_ok {Ψ : AVal → Heap → Prop} {t : AVal} {a : Int} {h : Heap} (H : s61 Ψ t a h) : ACalls prog 61 [t, (.int .i64 a)] h Ψ :=
  calls_of_evF func61 (by kernel_rfl) (by kernel_rfl) (by kernel_rfl)
    (Eq.mpr (by as_aux_lemma => kernel_rfl : oblF prog f61 (s61_A Ψ) Ψ = (True ∧ (True ∧ (True ∧ True) ∧ True ∧ (True ∧ True) ∧ True) ∧ True ∧ (True ∧ (True ∧ True) ∧ True) ∧ True ∧ True)) ⟨trivial, ⟨⟨trivial, ⟨⟨trivial, trivial⟩, ⟨trivial, ⟨⟨trivial, trivial⟩, trivial⟩⟩⟩⟩, ⟨trivial, ⟨⟨trivial, ⟨⟨trivial, trivial⟩, trivial⟩⟩, ⟨trivial, trivial⟩⟩⟩⟩⟩)
    (Eq.mpr (by as_aux_lemma => kernel_rfl : evF prog f61 (s61_A Ψ) Ψ [t, (.int .i64 a)] h = s61 Ψ t a h) H)

/- 62 (*dictum/formula.Table).Or -/
def s62 (Ψ : AVal → Heap → Prop) (t : AVal) (a : Int) (b : Int) (h : Heap) : Prop :=
  callG prog 99 [t, (.agg [(.int .i64 4), (.str (ByteArray.mk #[])), (.int .i64 a), (.int .i64 b)])] h fun v h_ =>
  tTup v fun l_ =>
  tCons l_ fun v1 l_1 =>
  tInt .i64 v1 fun v2 =>
  tCons l_1 fun v3 l_2 =>
  tInt .i64 v3 fun v4 =>
  tNil l_2 (
    retG (.tuple [(.int .i64 v2), (.int .i64 v4)]) h_ Ψ)

def s62_A (Ψ : AVal → Heap → Prop) : Ann :=
  .seq (rA 2)
  (.seq (rA 9)
  (.leaf))

theorem s62_ok {Ψ : AVal → Heap → Prop} {t : AVal} {a : Int} {b : Int} {h : Heap} (H : s62 Ψ t a b h) : ACalls prog 62 [t, (.int .i64 a), (.int .i64 b)] h Ψ :=
  calls_of_evF func62 (by kernel_rfl) (by kernel_rfl) (by kernel_rfl)
    (Eq.mpr (by as_aux_lemma => kernel_rfl : oblF prog f62 (s62_A Ψ) Ψ = (True ∧ True ∧ True)) ⟨trivial, ⟨trivial, trivial⟩⟩)
    (Eq.mpr (by as_aux_lemma => kernel_rfl : evF prog f62 (s62_A Ψ) Ψ [t, (.int .i64 a), (.int .i64 b)] h = s62 Ψ t a b h) H)

/- 63 dictum/dictumref03.letter -/
def s63 (Ψ : AVal → Heap → Prop) (c : Int) (h : Heap) : Prop :=
  ifT (decide (97 ≤ c)) (
    ifT (decide (c ≤ 122)) (
      retG (.bool true) h Ψ) (
      ifT (decide (65 ≤ c)) (
        retG (.bool (decide (c ≤ 90))) h Ψ) (
        retG (.bool false) h Ψ))) (
    ifT (decide (65 ≤ c)) (
      retG (.bool (decide (c ≤ 90))) h Ψ) (
      retG (.bool false) h Ψ))

def s63_A (Ψ : AVal → Heap → Prop) : Ann :=
  .seq (rA 1)
  (.seq (.reg [⟨none, [(0, false), (1, false), (2, false)]⟩, ⟨some (5, true), [(3, false), (4, false)]⟩, ⟨none, [(5, false), (6, false)]⟩, ⟨some (9, false), [(7, false), (8, false), (9, false)]⟩, ⟨some (12, true), [(10, false), (11, false)]⟩, ⟨some (9, false), [(12, false)]⟩, ⟨none, [(13, false), (14, false)]⟩])
  (.leaf))

theorem s63_ok {Ψ : AVal → Heap → Prop} {c : Int} {h : Heap} (H : s63 Ψ c h) : ACalls prog 63 [(.int .u8 c)] h Ψ :=
  calls_of_evF func63 (by kernel_rfl) (by kernel_rfl) (by kernel_rfl)
    (Eq.mpr (by as_aux_lemma => kernel_rfl : oblF prog f63 (s63_A Ψ) Ψ = (True ∧ True ∧ True)) ⟨trivial, ⟨trivial, trivial⟩⟩)
    (Eq.mpr (by as_aux_lemma => kernel_rfl : evF prog f63 (s63_A Ψ) Ψ [(.int .u8 c)] h = s63 Ψ c h) H)

/- 64 dictum/dictumref03.Reserved -/
def s64 (Ψ : AVal → Heap → Prop) (h : Heap) : Prop :=
  retG (.lsl 1 [(.str (ByteArray.mk #[97, 98, 111, 114, 116])), (.str (ByteArray.mk #[99, 97, 115, 101])), (.str (ByteArray.mk #[102, 97, 108, 115, 101])), (.str (ByteArray.mk #[102, 115, 116])), (.str (ByteArray.mk #[102, 117, 110])), (.str (ByteArray.mk #[105, 110])), (.str (ByteArray.mk #[105, 110, 108])), (.str (ByteArray.mk #[105, 110, 114])), (.str (ByteArray.mk #[108, 101, 116])), (.str (ByteArray.mk #[111, 102])), (.str (ByteArray.mk #[115, 110, 100])), (.str (ByteArray.mk #[116, 114, 117, 101]))]) h Ψ

def s64_A (Ψ : AVal → Heap → Prop) : Ann :=
  .seq (rA 1)
  (.seq (.reg [⟨none, [(0, true), (1, false)]⟩])
  (.leaf))

theorem s64_ok {Ψ : AVal → Heap → Prop} {h : Heap} (H : s64 Ψ  h) : ACalls prog 64 [] h Ψ :=
  calls_of_evF func64 (by kernel_rfl) (by kernel_rfl) (by kernel_rfl)
    (Eq.mpr (by as_aux_lemma => kernel_rfl : oblF prog f64 (s64_A Ψ) Ψ = (True ∧ True ∧ True)) ⟨trivial, ⟨trivial, trivial⟩⟩)
    (Eq.mpr (by as_aux_lemma => kernel_rfl : evF prog f64 (s64_A Ψ) Ψ [] h = s64 Ψ  h) H)

/- 65 (*dictum/dictumref03.T).Bot -/
def s65 (Ψ : AVal → Heap → Prop) (t : AVal) (h : Heap) : Prop :=
  callG prog 98 [t, (.agg [(.int .i64 2), (.str (ByteArray.mk #[])), (.int .i64 0), (.int .i64 0)])] h fun v h_ =>
  tTup v fun l_ =>
  tCons l_ fun v1 l_1 =>
  tInt .i64 v1 fun v2 =>
  tCons l_1 fun v3 l_2 =>
  tInt .i64 v3 fun v4 =>
  tNil l_2 (
    retG (.tuple [(.int .i64 v2), (.int .i64 v4)]) h_ Ψ)

def s65_A (Ψ : AVal → Heap → Prop) : Ann :=
  .seq (rA 2)
  (.seq (rA 7)
  (.leaf))

theorem s65_ok {Ψ : AVal → Heap → Prop} {t : AVal} {h : Heap} (H : s65 Ψ t h) : ACalls prog 65 [t] h Ψ :=
  calls_of_evF func65 (by kernel_rfl) (by kernel_rfl) (by kernel_rfl)
    (Eq.mpr (by as_aux_lemma => kernel_rfl : oblF prog f65 (s65_A Ψ) Ψ = (True ∧ True ∧ True)) ⟨trivial, ⟨trivial, trivial⟩⟩)
    (Eq.mpr (by as_aux_lemma => kernel_rfl : evF prog f65 (s65_A Ψ) Ψ [t] h = s65 Ψ t h) H)

/- 66 (*dictum/dictumref03.T).Imp -/
def s66 (Ψ : AVal → Heap → Prop) (t : AVal) (a : Int) (b : Int) (h : Heap) : Prop :=
  callG prog 69 [t, (.int .i64 5), (.int .i64 a), (.int .i64 b)] h fun v h_ =>
  tTup v fun l_ =>
  tCons l_ fun v1 l_1 =>
  tInt .i64 v1 fun v2 =>
  tCons l_1 fun v3 l_2 =>
  tInt .i64 v3 fun v4 =>
  tNil l_2 (
    retG (.tuple [(.int .i64 v2), (.int .i64 v4)]) h_ Ψ)

def s66_A (Ψ : AVal → Heap → Prop) : Ann :=
  .seq (rA 2)
  (.seq (rA 8)
  (.leaf))

theorem s66_ok {Ψ : AVal → Heap → Prop} {t : AVal} {a : Int} {b : Int} {h : Heap} (H : s66 Ψ t a b h) : ACalls prog 66 [t, (.int .i64 a), (.int .i64 b)] h Ψ :=
  calls_of_evF func66 (by kernel_rfl) (by kernel_rfl) (by kernel_rfl)
    (Eq.mpr (by as_aux_lemma => kernel_rfl : oblF prog f66 (s66_A Ψ) Ψ = (True ∧ True ∧ True)) ⟨trivial, ⟨trivial, trivial⟩⟩)
    (Eq.mpr (by as_aux_lemma => kernel_rfl : evF prog f66 (s66_A Ψ) Ψ [t, (.int .i64 a), (.int .i64 b)] h = s66 Ψ t a b h) H)

/- 67 (*dictum/dictumref03.T).Atom -/
def s67 (Ψ : AVal → Heap → Prop) (t : AVal) (name : ByteArray) (h : Heap) : Prop :=
  callG prog 98 [t, (.agg [(.int .i64 1), (.str name), (.int .i64 0), (.int .i64 0)])] h fun v h_ =>
  tTup v fun l_ =>
  tCons l_ fun v1 l_1 =>
  tInt .i64 v1 fun v2 =>
  tCons l_1 fun v3 l_2 =>
  tInt .i64 v3 fun v4 =>
  tNil l_2 (
    retG (.tuple [(.int .i64 v2), (.int .i64 v4)]) h_ Ψ)

def s67_A (Ψ : AVal → Heap → Prop) : Ann :=
  .seq (rA 2)
  (.seq (rA 8)
  (.leaf))

theorem s67_ok {Ψ : AVal → Heap → Prop} {t : AVal} {name : ByteArray} {h : Heap} (H : s67 Ψ t name h) : ACalls prog 67 [t, (.str name)] h Ψ :=
  calls_of_evF func67 (by kernel_rfl) (by kernel_rfl) (by kernel_rfl)
    (Eq.mpr (by as_aux_lemma => kernel_rfl : oblF prog f67 (s67_A Ψ) Ψ = (True ∧ True ∧ True)) ⟨trivial, ⟨trivial, trivial⟩⟩)
    (Eq.mpr (by as_aux_lemma => kernel_rfl : evF prog f67 (s67_A Ψ) Ψ [t, (.str name)] h = s67 Ψ t name h) H)

/- 68 (*dictum/dictumref03.T).Not -/
def s68 (Ψ : AVal → Heap → Prop) (t : AVal) (a : Int) (h : Heap) : Prop :=
  callG prog 50 [t, (.int .i64 a)] h fun v h_ =>
  tBool v fun v1 =>
  ifT (!v1) (
    retG (.tuple [(.int .i64 0), (.int .i64 31)]) h_ Ψ) (
    callG prog 65 [t] h_ fun v2 h_1 =>
    tTup v2 fun l_ =>
    tCons l_ fun v3 l_1 =>
    tInt .i64 v3 fun v4 =>
    tCons l_1 fun v5 l_2 =>
    tInt .i64 v5 fun v6 =>
    tNil l_2 (
      ifT (v6 != 0) (
        retG (.tuple [(.int .i64 0), (.int .i64 v6)]) h_1 Ψ) (
        callG prog 66 [t, (.int .i64 a), (.int .i64 v4)] h_1 fun v7 h_2 =>
        tTup v7 fun l_3 =>
        tCons l_3 fun v8 l_4 =>
        tInt .i64 v8 fun v9 =>
        tCons l_4 fun v10 l_5 =>
        tInt .i64 v10 fun v11 =>
        tNil l_5 (
          retG (.tuple [(.int .i64 v9), (.int .i64 v11)]) h_2 Ψ))))

def s68_A (Ψ : AVal → Heap → Prop) : Ann :=
  .seq (rA 2)
  (.seq (.seq (rA 4)
  (.cond (.seq (rA 2)
  (.leaf))
  (.leaf)))
  (.seq (rA 7)
  (.seq (.seq (rA 2)
  (.cond (.seq (rA 3)
  (.leaf))
  (.leaf)))
  (.seq (rA 8)
  (.leaf)))))

theorem s68_ok {Ψ : AVal → Heap → Prop} {t : AVal} {a : Int} {h : Heap} (H : s68 Ψ t a h) : ACalls prog 68 [t, (.int .i64 a)] h Ψ :=
  calls_of_evF func68 (by kernel_rfl) (by kernel_rfl) (by kernel_rfl)
    (Eq.mpr (by as_aux_lemma => kernel_rfl : oblF prog f68 (s68_A Ψ) Ψ = (True ∧ (True ∧ (True ∧ True) ∧ True) ∧ True ∧ (True ∧ (True ∧ True) ∧ True) ∧ True ∧ True)) ⟨trivial, ⟨⟨trivial, ⟨⟨trivial, trivial⟩, trivial⟩⟩, ⟨trivial, ⟨⟨trivial, ⟨⟨trivial, trivial⟩, trivial⟩⟩, ⟨trivial, trivial⟩⟩⟩⟩⟩)
    (Eq.mpr (by as_aux_lemma => kernel_rfl : evF prog f68 (s68_A Ψ) Ψ [t, (.int .i64 a)] h = s68 Ψ t a h) H)

/- 69 (*dictum/dictumref03.T).Two -/
def s69 (Ψ : AVal → Heap → Prop) (t : AVal) (k : Int) (a : Int) (b : Int) (h : Heap) : Prop :=
  callG prog 98 [t, (.agg [(.int .i64 k), (.str (ByteArray.mk #[])), (.int .i64 a), (.int .i64 b)])] h fun v h_ =>
  tTup v fun l_ =>
  tCons l_ fun v1 l_1 =>
  tInt .i64 v1 fun v2 =>
  tCons l_1 fun v3 l_2 =>
  tInt .i64 v3 fun v4 =>
  tNil l_2 (
    retG (.tuple [(.int .i64 v2), (.int .i64 v4)]) h_ Ψ)

def s69_A (Ψ : AVal → Heap → Prop) : Ann :=
  .seq (rA 2)
  (.seq (rA 10)
  (.leaf))

theorem s69_ok {Ψ : AVal → Heap → Prop} {t : AVal} {k : Int} {a : Int} {b : Int} {h : Heap} (H : s69 Ψ t k a b h) : ACalls prog 69 [t, (.int .i64 k), (.int .i64 a), (.int .i64 b)] h Ψ :=
  calls_of_evF func69 (by kernel_rfl) (by kernel_rfl) (by kernel_rfl)
    (Eq.mpr (by as_aux_lemma => kernel_rfl : oblF prog f69 (s69_A Ψ) Ψ = (True ∧ True ∧ True)) ⟨trivial, ⟨trivial, trivial⟩⟩)
    (Eq.mpr (by as_aux_lemma => kernel_rfl : evF prog f69 (s69_A Ψ) Ψ [t, (.int .i64 k), (.int .i64 a), (.int .i64 b)] h = s69 Ψ t k a b h) H)

/- 70 dictum/dictumref03.Same -/
abbrev s70l1_T := AVal → AVal → Int → Heap → Prop
def s70l1_R (F : s70l1_T) (l : List AVal) (h : Heap) : Prop := J.cons l fun x0 l => J.cons l fun x1 l => J.cons l fun v l => J.int .i64 v fun x2 => J.nil l (F x0 x1 x2 h)
def s70l1_G (F : s70l1_T) (x0 x1 : AVal) (x2 : Int) (h : Heap) : Prop := gJ [.any, .any, .int .i64] [x0, x1, (.int .i64 x2)] h (s70l1_R F)
def s70l1_E (F : Nat → s70l1_T) (x0 x1 : AVal) (x2 : Int) (h : Heap) : Prop := gJ [.any, .any, .int .i64] [x0, x1, (.int .i64 x2)] h (fun l h => ∃ n, s70l1_R (F n) l h)
theorem s70l1_go {F : s70l1_T} {x0 x1 : AVal} {x2 : Int} {h : Heap} (H : F x0 x1 x2 h) : s70l1_G F x0 x1 x2 h := gJ_plain rfl H
theorem s70l1_in {F : Nat → s70l1_T} {x0 x1 : AVal} {x2 : Int} {h : Heap} (n : Nat) (H : F n x0 x1 x2 h) : s70l1_E F x0 x1 x2 h := gJ_plain rfl ⟨n, H⟩

def s70l1 (Ψ : AVal → Heap → Prop) : Nat → s70l1_T
  | 0, _, _, _, _ => False
  | n2 + 1, a1, b1, i, h =>
    lenN a1 fun n3 =>
    ifT (decide (i < n3)) (
      ixS 4 a1 i fun p =>
      ldN 4 h p fun l_ =>
      tCons l_ fun v l_1 =>
      tInt .i64 v fun v1 =>
      tCons l_1 fun v2 l_2 =>
      tStr v2 fun v3 =>
      tCons l_2 fun v4 l_3 =>
      tInt .i64 v4 fun v5 =>
      tCons l_3 fun v6 l_4 =>
      tInt .i64 v6 fun v7 =>
      tNil l_4 (
        ixS 4 b1 i fun p1 =>
        ldN 4 h p1 fun l_5 =>
        tCons l_5 fun v8 l_6 =>
        tInt .i64 v8 fun v9 =>
        tCons l_6 fun v10 l_7 =>
        tStr v10 fun v11 =>
        tCons l_7 fun v12 l_8 =>
        tInt .i64 v12 fun v13 =>
        tCons l_8 fun v14 l_9 =>
        tInt .i64 v14 fun v15 =>
        tNil l_9 (
          eqQ prog 54 (.agg [(.int .i64 v1), (.str v3), (.int .i64 v5), (.int .i64 v7)]) (.agg [(.int .i64 v9), (.str v11), (.int .i64 v13), (.int .i64 v15)]) fun b2 =>
          ifT (!b2) (
            retG (.bool false) h Ψ) (
            rg (i + 1) (
              s70l1_G (s70l1 Ψ n2) a1 b1 (i + 1) h))))) (
      retG (.bool true) h Ψ)

def s70 (Ψ : AVal → Heap → Prop) (a : AVal) (b : AVal) (h : Heap) : Prop :=
  lenN a fun n =>
  lenN b fun n1 =>
  ifT (n != n1) (
    retG (.bool false) h Ψ) (
    s70l1_E (s70l1 Ψ) a b 0 h)

def s70_A (Ψ : AVal → Heap → Prop) : Ann :=
  .seq (rA 1)
  (.seq (.seq (rA 5)
  (.cond (.seq (rA 1)
  (.leaf))
  (.leaf)))
  (.seq (.seq (rA 1)
  (.block (.loop [(0, .any), (1, .any), (5, .int .i64)] (fun n l h => s70l1_R (s70l1 Ψ n) l h) (fun L1 =>
  .seq (.seq (rA 4)
  (.cond (.leaf)
  (.leaf)))
  (.seq (.block (.seq (.draw [(0, false), (1, false), (2, false), (3, false), (4, false), (5, false), (6, false), (7, false), (8, false)] [0, 0, 3, 7, 0, 0, 48, 112, 255])
  (.cond (.seq (rA 1)
  (.leaf))
  (.leaf))))
  (rA 3))))))
  (.seq (rA 1)
  (.leaf))))

theorem s70_ok {Ψ : AVal → Heap → Prop} {a : AVal} {b : AVal} {h : Heap} (H : s70 Ψ a b h) : ACalls prog 70 [a, b] h Ψ :=
  calls_of_evF func70 (by kernel_rfl) (by kernel_rfl) (by kernel_rfl)
    (Eq.mpr (by as_aux_lemma => kernel_rfl : oblF prog f70 (s70_A Ψ) Ψ = (True ∧ (True ∧ (True ∧ True) ∧ True) ∧ (True ∧ (∀ (h : Heap) (x0 x1 : AVal) (x2 : Int), ON (s70l1 Ψ 0 x0 x1 x2 h)) ∧ ∀ n1 : Nat, (∀ (h : Heap) (x0 x1 : AVal) (x2 : Int), OI (s70l1 Ψ (n1 + 1) x0 x1 x2 h)) ∧ ((True ∧ True ∧ True) ∧ (True ∧ (True ∧ True) ∧ True) ∧ True)) ∧ True ∧ True)) ⟨trivial, ⟨⟨trivial, ⟨⟨trivial, trivial⟩, trivial⟩⟩, ⟨⟨trivial, ⟨fun _ _ _ _ H => H, fun _ => ⟨fun _ _ _ _ H => H, ⟨⟨trivial, ⟨trivial, trivial⟩⟩, ⟨⟨trivial, ⟨⟨trivial, trivial⟩, trivial⟩⟩, trivial⟩⟩⟩⟩⟩, ⟨trivial, trivial⟩⟩⟩⟩)
    (Eq.mpr (by as_aux_lemma => kernel_rfl : evF prog f70 (s70_A Ψ) Ψ [a, b] h = s70 Ψ a b h) H)

/- 71 (*dictum/formula.Table).Rows -/
def s71 (Ψ : AVal → Heap → Prop) (t : AVal) (h : Heap) : Prop :=
  callG prog 56 [t] h fun v h_ =>
  tBool v fun v1 =>
  ifT (!v1) (
    retG .nilsl h_ Ψ) (
    nilCheckA t fun p =>
    addOff p 0 fun p1 =>
    ld1 h_ p1 fun v2 =>
    callG prog 100 [v2] h_ fun v3 h_1 =>
    retG v3 h_1 Ψ)

def s71_A (Ψ : AVal → Heap → Prop) : Ann :=
  .seq (rA 1)
  (.seq (.seq (rA 3)
  (.cond (.seq (rA 1)
  (.leaf))
  (.leaf)))
  (.seq (rA 6)
  (.leaf)))

theorem s71_ok {Ψ : AVal → Heap → Prop} {t : AVal} {h : Heap} (H : s71 Ψ t h) : ACalls prog 71 [t] h Ψ :=
  calls_of_evF func71 (by kernel_rfl) (by kernel_rfl) (by kernel_rfl)
    (Eq.mpr (by as_aux_lemma => kernel_rfl : oblF prog f71 (s71_A Ψ) Ψ = (True ∧ (True ∧ (True ∧ True) ∧ True) ∧ True ∧ True)) ⟨trivial, ⟨⟨trivial, ⟨⟨trivial, trivial⟩, trivial⟩⟩, ⟨trivial, trivial⟩⟩⟩)
    (Eq.mpr (by as_aux_lemma => kernel_rfl : evF prog f71 (s71_A Ψ) Ψ [t] h = s71 Ψ t h) H)

/- 72 dictum/nishimura.two -/
def s72c1 (Ψ : AVal → Heap → Prop) (how1 x y : AVal) (t28 : Bool) (h : Heap) : Prop :=
  ifT t28 (
    retG (.tuple [(.int .i64 0), (.int .i64 2)]) h Ψ) (
    ldN 3 h x fun l_14 =>
    tCons l_14 fun v20 l_15 =>
    tBool v20 fun v21 =>
    tCons l_15 fun v22 l_16 =>
    tInt .i64 v22 fun v23 =>
    tCons l_16 fun v24 l_17 =>
    tBool v24 fun v25 =>
    tNil l_17 (
      ldN 3 h y fun l_18 =>
      tCons l_18 fun v26 l_19 =>
      tBool v26 fun v27 =>
      tCons l_19 fun v28 l_20 =>
      tInt .i64 v28 fun v29 =>
      tCons l_20 fun v30 l_21 =>
      tBool v30 fun v31 =>
      tNil l_21 (
        callV prog how1 [(.agg [(.bool v21), (.int .i64 v23), (.bool v25)]), (.agg [(.bool v27), (.int .i64 v29), (.bool v31)])] h fun v32 h_6 =>
        tAgg v32 fun l_22 =>
        tCons l_22 fun v33 l_23 =>
        tBool v33 fun v34 =>
        tCons l_23 fun v35 l_24 =>
        tInt .i64 v35 fun v36 =>
        tCons l_24 fun v37 l_25 =>
        tBool v37 fun v38 =>
        tNil l_25 (
          callG prog 44 [(.agg [(.bool v34), (.int .i64 v36), (.bool v38)])] h_6 fun v39 h_7 =>
          tInt .i64 v39 fun v40 =>
          ifT (decide (4096 < v40)) (
            retG (.tuple [(.int .i64 0), (.int .i64 2)]) h_7 Ψ) (
            retG (.tuple [(.int .i64 v40), (.int .i64 0)]) h_7 Ψ)))))

def s72 (Ψ : AVal → Heap → Prop) (a : Int) (b : Int) (how : AVal) (h : Heap) : Prop :=
  callG prog 73 [(.int .i64 a)] h fun v h_ =>
  tTup v fun l_ =>
  tCons l_ fun v1 l_1 =>
  tCons l_1 fun v2 l_2 =>
  tBool v2 fun v3 =>
  tNil l_2 (
    tAgg v1 fun l_3 =>
    tCons l_3 fun v4 l_4 =>
    tBool v4 fun v5 =>
    tCons l_4 fun v6 l_5 =>
    tInt .i64 v6 fun v7 =>
    tCons l_5 fun v8 l_6 =>
    tBool v8 fun v9 =>
    tNil l_6 (
      Sym.newRow 3 [(.agg [(.bool false), (.int .i64 0), (.bool false)])] h_ fun r h_1 =>
      st false h_1 (.ptr r 0 0) [(.bool v5), (.int .i64 v7), (.bool v9)] fun h_2 =>
      callG prog 73 [(.int .i64 b)] h_2 fun v10 h_3 =>
      tTup v10 fun l_7 =>
      tCons l_7 fun v11 l_8 =>
      tCons l_8 fun v12 l_9 =>
      tBool v12 fun v13 =>
      tNil l_9 (
        tAgg v11 fun l_10 =>
        tCons l_10 fun v14 l_11 =>
        tBool v14 fun v15 =>
        tCons l_11 fun v16 l_12 =>
        tInt .i64 v16 fun v17 =>
        tCons l_12 fun v18 l_13 =>
        tBool v18 fun v19 =>
        tNil l_13 (
          Sym.newRow 3 [(.agg [(.bool false), (.int .i64 0), (.bool false)])] h_3 fun r1 h_4 =>
          st false h_4 (.ptr r1 0 0) [(.bool v15), (.int .i64 v17), (.bool v19)] fun h_5 =>
          ifT (!v3) (
            s72c1 Ψ how (.ptr r 0 0) (.ptr r1 0 0) true h_5) (
            s72c1 Ψ how (.ptr r 0 0) (.ptr r1 0 0) (!v13) h_5)))))

def s72_A (Ψ : AVal → Heap → Prop) : Ann :=
  .seq (rA 2)
  (.seq (rA 8)
  (.seq (rA 8)
  (.seq (.cut [(2, .any), (8, .any), (10, .any), (28, .bool)] (fun l h => J.cons l fun x0 l => J.cons l fun x1 l => J.cons l fun x2 l => J.cons l fun v l => J.bool v fun x3 => J.nil l (s72c1 Ψ x0 x1 x2 x3 h)) (.reg [⟨none, [(0, false), (1, false), (2, false)]⟩, ⟨some (25, false), [(3, false), (4, false)]⟩, ⟨none, [(5, false)]⟩])
  (.cond (.seq (rA 2)
  (.leaf))
  (.leaf)))
  (.seq (rA 6)
  (.seq (.seq (rA 2)
  (.cond (.seq (rA 2)
  (.leaf))
  (.leaf)))
  (.seq (rA 3)
  (.leaf)))))))

theorem s72_ok {Ψ : AVal → Heap → Prop} {a : Int} {b : Int} {how : AVal} {h : Heap} (H : s72 Ψ a b how h) : ACalls prog 72 [(.int .i64 a), (.int .i64 b), how] h Ψ :=
  calls_of_evF func72 (by kernel_rfl) (by kernel_rfl) (by kernel_rfl)
    (Eq.mpr (by as_aux_lemma => kernel_rfl : oblF prog f72 (s72_A Ψ) Ψ = (True ∧ True ∧ True ∧ ((True) ∧ (∀ (h : Heap) (x0 x1 x2 : AVal) (x3 : Bool), OI (s72c1 Ψ x0 x1 x2 x3 h)) ∧ ((True ∧ True) ∧ True)) ∧ True ∧ (True ∧ (True ∧ True) ∧ True) ∧ True ∧ True)) ⟨trivial, ⟨trivial, ⟨trivial, ⟨⟨trivial, fun _ _ _ _ _ H => H, ⟨⟨trivial, trivial⟩, trivial⟩⟩, ⟨trivial, ⟨⟨trivial, ⟨⟨trivial, trivial⟩, trivial⟩⟩, ⟨trivial, trivial⟩⟩⟩⟩⟩⟩⟩)
    (Eq.mpr (by as_aux_lemma => kernel_rfl : evF prog f72 (s72_A Ψ) Ψ [(.int .i64 a), (.int .i64 b), how] h = s72 Ψ a b how h) H)

/- 73 dictum/nishimura.of -/
def s73c1 (Ψ : AVal → Heap → Prop) (k1 : Int) (t2 : AVal) (t8 : Bool) (h : Heap) : Prop :=
  ifT t8 (
    st false h t2 [(.bool false), (.int .i64 0), (.bool false)] fun h_2 =>
    ldN 3 h_2 t2 fun l_4 =>
    tCons l_4 fun v6 l_5 =>
    tBool v6 fun v7 =>
    tCons l_5 fun v8 l_6 =>
    tInt .i64 v8 fun v9 =>
    tCons l_6 fun v10 l_7 =>
    tBool v10 fun v11 =>
    tNil l_7 (
      retG (.tuple [(.agg [(.bool v7), (.int .i64 v9), (.bool v11)]), (.bool false)]) h_2 Ψ)) (
    ifT (k1 == 0) (
      st false h t2 [(.bool false), (.int .i64 0), (.bool false)] fun h_3 =>
      ldN 3 h_3 t2 fun l_8 =>
      tCons l_8 fun v12 l_9 =>
      tBool v12 fun v13 =>
      tCons l_9 fun v14 l_10 =>
      tInt .i64 v14 fun v15 =>
      tCons l_10 fun v16 l_11 =>
      tBool v16 fun v17 =>
      tNil l_11 (
        retG (.tuple [(.agg [(.bool v13), (.int .i64 v15), (.bool v17)]), (.bool true)]) h_3 Ψ)) (
      2 ≠ (0 : Int) ∧
      ifT ((Int.tmod k1 2) == 1) (
        rg (k1 + 1) (
          2 ≠ (0 : Int) ∧
          rg (Int.tdiv (k1 + 1) 2) (
            st false h t2 [(.bool false), (.int .i64 (Int.tdiv (k1 + 1) 2)), (.bool false)] fun h_4 =>
            ldN 3 h_4 t2 fun l_12 =>
            tCons l_12 fun v18 l_13 =>
            tBool v18 fun v19 =>
            tCons l_13 fun v20 l_14 =>
            tInt .i64 v20 fun v21 =>
            tCons l_14 fun v22 l_15 =>
            tBool v22 fun v23 =>
            tNil l_15 (
              retG (.tuple [(.agg [(.bool v19), (.int .i64 v21), (.bool v23)]), (.bool true)]) h_4 Ψ)))) (
        2 ≠ (0 : Int) ∧
        rg (Int.tdiv k1 2) (
          rg ((Int.tdiv k1 2) - 1) (
            st false h t2 [(.bool false), (.int .i64 ((Int.tdiv k1 2) - 1)), (.bool true)] fun h_5 =>
            ldN 3 h_5 t2 fun l_16 =>
            tCons l_16 fun v24 l_17 =>
            tBool v24 fun v25 =>
            tCons l_17 fun v26 l_18 =>
            tInt .i64 v26 fun v27 =>
            tCons l_18 fun v28 l_19 =>
            tBool v28 fun v29 =>
            tNil l_19 (
              retG (.tuple [(.agg [(.bool v25), (.int .i64 v27), (.bool v29)]), (.bool true)]) h_5 Ψ))))))

def s73 (Ψ : AVal → Heap → Prop) (k : Int) (h : Heap) : Prop :=
  Sym.newRow 3 [(.agg [(.bool false), (.int .i64 0), (.bool false)])] h fun r h_ =>
  ifT (k == (-1)) (
    st false h_ (.ptr r 0 0) [(.bool true), (.int .i64 0), (.bool false)] fun h_1 =>
    ldN 3 h_1 (.ptr r 0 0) fun l_ =>
    tCons l_ fun v l_1 =>
    tBool v fun v1 =>
    tCons l_1 fun v2 l_2 =>
    tInt .i64 v2 fun v3 =>
    tCons l_2 fun v4 l_3 =>
    tBool v4 fun v5 =>
    tNil l_3 (
      retG (.tuple [(.agg [(.bool v1), (.int .i64 v3), (.bool v5)]), (.bool true)]) h_1 Ψ)) (
    ifT (decide (k < 0)) (
      s73c1 Ψ k (.ptr r 0 0) true h_) (
      s73c1 Ψ k (.ptr r 0 0) (decide (4096 < k)) h_))

def s73_A (Ψ : AVal → Heap → Prop) : Ann :=
  .seq (rA 2)
  (.seq (.block (.seq (rA 3)
  (.cond (.seq (rA 3)
  (.leaf))
  (.cut [(0, .int .i64), (2, .any), (8, .bool)] (fun l h => J.cons l fun v l => J.int .i64 v fun x0 => J.cons l fun x1 l => J.cons l fun v l => J.bool v fun x2 => J.nil l (s73c1 Ψ x0 x1 x2 h)) (.reg [⟨none, [(0, false), (1, false), (2, false)]⟩, ⟨some (11, false), [(3, false), (4, false)]⟩, ⟨none, [(5, false), (6, false)]⟩])
  (.cond (.seq (rA 3)
  (.leaf))
  (.seq (rA 3)
  (.cond (.seq (rA 3)
  (.leaf))
  (.seq (rA 4)
  (.cond (.seq (rA 6)
  (.leaf))
  (.leaf))))))))))
  (.seq (rA 6)
  (.leaf)))

theorem s73_ok {Ψ : AVal → Heap → Prop} {k : Int} {h : Heap} (H : s73 Ψ k h) : ACalls prog 73 [(.int .i64 k)] h Ψ :=
  calls_of_evF func73 (by kernel_rfl) (by kernel_rfl) (by kernel_rfl)
    (Eq.mpr (by as_aux_lemma => kernel_rfl : oblF prog f73 (s73_A Ψ) Ψ = (True ∧ (True ∧ (True ∧ True) ∧ (True) ∧ (∀ (h : Heap) (x0 : Int) (x1 : AVal) (x2 : Bool), OI (s73c1 Ψ x0 x1 x2 h)) ∧ ((True ∧ True) ∧ True ∧ (True ∧ True) ∧ True ∧ (True ∧ True) ∧ True)) ∧ True ∧ True)) ⟨trivial, ⟨⟨trivial, ⟨⟨trivial, trivial⟩, ⟨trivial, fun _ _ _ _ H => H, ⟨⟨trivial, trivial⟩, ⟨trivial, ⟨⟨trivial, trivial⟩, ⟨trivial, ⟨⟨trivial, trivial⟩, trivial⟩⟩⟩⟩⟩⟩⟩⟩, ⟨trivial, trivial⟩⟩⟩)
    (Eq.mpr (by as_aux_lemma => kernel_rfl : evF prog f73 (s73_A Ψ) Ψ [(.int .i64 k)] h = s73 Ψ k h) H)

/- 74 dictum/nishimura.below -/
def s74 (Ψ : AVal → Heap → Prop) (a_all : Bool) (a_low : Int) (a_gap : Bool) (b_all : Bool) (b_low : Int) (b_gap : Bool) (h : Heap) : Prop :=
  callG prog 43 [(.agg [(.bool a_all), (.int .i64 a_low), (.bool a_gap)]), (.agg [(.bool b_all), (.int .i64 b_low), (.bool b_gap)])] h fun v h_ =>
  tAgg v fun l_ =>
  tCons l_ fun v1 l_1 =>
  tBool v1 fun v2 =>
  tCons l_1 fun v3 l_2 =>
  tInt .i64 v3 fun v4 =>
  tCons l_2 fun v5 l_3 =>
  tBool v5 fun v6 =>
  tNil l_3 (
    retG (.bool v2) h_ Ψ)

def s74_A (Ψ : AVal → Heap → Prop) : Ann :=
  .seq (.reg [⟨none, [(0, true), (1, true), (2, false)]⟩])
  (.seq (rA 5)
  (.leaf))

theorem s74_ok {Ψ : AVal → Heap → Prop} {a_all : Bool} {a_low : Int} {a_gap : Bool} {b_all : Bool} {b_low : Int} {b_gap : Bool} {h : Heap} (H : s74 Ψ a_all a_low a_gap b_all b_low b_gap h) : ACalls prog 74 [(.agg [(.bool a_all), (.int .i64 a_low), (.bool a_gap)]), (.agg [(.bool b_all), (.int .i64 b_low), (.bool b_gap)])] h Ψ :=
  calls_of_evF func74 (by kernel_rfl) (by kernel_rfl) (by kernel_rfl)
    (Eq.mpr (by as_aux_lemma => kernel_rfl : oblF prog f74 (s74_A Ψ) Ψ = (True ∧ True ∧ True)) ⟨trivial, ⟨trivial, trivial⟩⟩)
    (Eq.mpr (by as_aux_lemma => kernel_rfl : evF prog f74 (s74_A Ψ) Ψ [(.agg [(.bool a_all), (.int .i64 a_low), (.bool a_gap)]), (.agg [(.bool b_all), (.int .i64 b_low), (.bool b_gap)])] h = s74 Ψ a_all a_low a_gap b_all b_low b_gap h) H)

/- 75 (*dictum/formula.Table).has -/
def s75 (Ψ : AVal → Heap → Prop) (t : AVal) (id_ : Int) (h : Heap) : Prop :=
  ifT (decide (0 ≤ id_)) (
    nilCheckA t fun p =>
    addOff p 0 fun p1 =>
    ld1 h p1 fun v =>
    lenN v fun n =>
    retG (.bool (decide (id_ < n))) h Ψ) (
    retG (.bool false) h Ψ)

def s75_A (Ψ : AVal → Heap → Prop) : Ann :=
  .seq (rA 1)
  (.seq (.reg [⟨none, [(0, false), (1, false), (2, false)]⟩, ⟨some (7, true), [(3, false), (4, false), (5, false), (6, false), (7, false), (8, false), (9, false)]⟩, ⟨none, [(10, false), (11, false)]⟩])
  (.leaf))

theorem s75_ok {Ψ : AVal → Heap → Prop} {t : AVal} {id_ : Int} {h : Heap} (H : s75 Ψ t id_ h) : ACalls prog 75 [t, (.int .i64 id_)] h Ψ :=
  calls_of_evF func75 (by kernel_rfl) (by kernel_rfl) (by kernel_rfl)
    (Eq.mpr (by as_aux_lemma => kernel_rfl : oblF prog f75 (s75_A Ψ) Ψ = (True ∧ True ∧ True)) ⟨trivial, ⟨trivial, trivial⟩⟩)
    (Eq.mpr (by as_aux_lemma => kernel_rfl : evF prog f75 (s75_A Ψ) Ψ [t, (.int .i64 id_)] h = s75 Ψ t id_ h) H)

/- 76 dictum/dictumref03.Ints -/
abbrev s76l1_T := AVal → AVal → Int → Heap → Prop
def s76l1_R (F : s76l1_T) (l : List AVal) (h : Heap) : Prop := J.cons l fun x0 l => J.cons l fun x1 l => J.cons l fun v l => J.int .i64 v fun x2 => J.nil l (F x0 x1 x2 h)
def s76l1_G (F : s76l1_T) (x0 x1 : AVal) (x2 : Int) (h : Heap) : Prop := gJ [.any, .any, .int .i64] [x0, x1, (.int .i64 x2)] h (s76l1_R F)
def s76l1_E (F : Nat → s76l1_T) (x0 x1 : AVal) (x2 : Int) (h : Heap) : Prop := gJ [.any, .any, .int .i64] [x0, x1, (.int .i64 x2)] h (fun l h => ∃ n, s76l1_R (F n) l h)
theorem s76l1_go {F : s76l1_T} {x0 x1 : AVal} {x2 : Int} {h : Heap} (H : F x0 x1 x2 h) : s76l1_G F x0 x1 x2 h := gJ_plain rfl H
theorem s76l1_in {F : Nat → s76l1_T} {x0 x1 : AVal} {x2 : Int} {h : Heap} (n : Nat) (H : F n x0 x1 x2 h) : s76l1_E F x0 x1 x2 h := gJ_plain rfl ⟨n, H⟩

def s76l1 (Ψ : AVal → Heap → Prop) : Nat → s76l1_T
  | 0, _, _, _, _ => False
  | n2 + 1, a1, b1, i, h =>
    lenN a1 fun n3 =>
    ifT (decide (i < n3)) (
      ixS 1 a1 i fun p =>
      ld1 h p fun v =>
      tInt .i64 v fun v1 =>
      ixS 1 b1 i fun p1 =>
      ld1 h p1 fun v2 =>
      tInt .i64 v2 fun v3 =>
      ifT (v1 != v3) (
        retG (.bool false) h Ψ) (
        rg (i + 1) (
          s76l1_G (s76l1 Ψ n2) a1 b1 (i + 1) h))) (
      retG (.bool true) h Ψ)

def s76 (Ψ : AVal → Heap → Prop) (a : AVal) (b : AVal) (h : Heap) : Prop :=
  lenN a fun n =>
  lenN b fun n1 =>
  ifT (n != n1) (
    retG (.bool false) h Ψ) (
    s76l1_E (s76l1 Ψ) a b 0 h)

def s76_A (Ψ : AVal → Heap → Prop) : Ann :=
  .seq (rA 1)
  (.seq (.seq (rA 5)
  (.cond (.seq (rA 1)
  (.leaf))
  (.leaf)))
  (.seq (.seq (rA 1)
  (.block (.loop [(0, .any), (1, .any), (5, .int .i64)] (fun n l h => s76l1_R (s76l1 Ψ n) l h) (fun L1 =>
  .seq (.seq (rA 4)
  (.cond (.leaf)
  (.leaf)))
  (.seq (.block (.seq (.draw [(0, false), (1, false), (2, false), (3, false), (4, false), (5, false), (6, false), (7, false), (8, false)] [0, 0, 3, 7, 0, 0, 48, 112, 255])
  (.cond (.seq (rA 1)
  (.leaf))
  (.leaf))))
  (rA 3))))))
  (.seq (rA 1)
  (.leaf))))

theorem s76_ok {Ψ : AVal → Heap → Prop} {a : AVal} {b : AVal} {h : Heap} (H : s76 Ψ a b h) : ACalls prog 76 [a, b] h Ψ :=
  calls_of_evF func76 (by kernel_rfl) (by kernel_rfl) (by kernel_rfl)
    (Eq.mpr (by as_aux_lemma => kernel_rfl : oblF prog f76 (s76_A Ψ) Ψ = (True ∧ (True ∧ (True ∧ True) ∧ True) ∧ (True ∧ (∀ (h : Heap) (x0 x1 : AVal) (x2 : Int), ON (s76l1 Ψ 0 x0 x1 x2 h)) ∧ ∀ n1 : Nat, (∀ (h : Heap) (x0 x1 : AVal) (x2 : Int), OI (s76l1 Ψ (n1 + 1) x0 x1 x2 h)) ∧ ((True ∧ True ∧ True) ∧ (True ∧ (True ∧ True) ∧ True) ∧ True)) ∧ True ∧ True)) ⟨trivial, ⟨⟨trivial, ⟨⟨trivial, trivial⟩, trivial⟩⟩, ⟨⟨trivial, ⟨fun _ _ _ _ H => H, fun _ => ⟨fun _ _ _ _ H => H, ⟨⟨trivial, ⟨trivial, trivial⟩⟩, ⟨⟨trivial, ⟨⟨trivial, trivial⟩, trivial⟩⟩, trivial⟩⟩⟩⟩⟩, ⟨trivial, trivial⟩⟩⟩⟩)
    (Eq.mpr (by as_aux_lemma => kernel_rfl : evF prog f76 (s76_A Ψ) Ψ [a, b] h = s76 Ψ a b h) H)

/- 77 dictum/dictumref17.Names -/
abbrev s77l1_T := AVal → AVal → Int → Heap → Prop
def s77l1_R (F : s77l1_T) (l : List AVal) (h : Heap) : Prop := J.cons l fun x0 l => J.cons l fun x1 l => J.cons l fun v l => J.int .i64 v fun x2 => J.nil l (F x0 x1 x2 h)
def s77l1_G (F : s77l1_T) (x0 x1 : AVal) (x2 : Int) (h : Heap) : Prop := gJ [.any, .any, .int .i64] [x0, x1, (.int .i64 x2)] h (s77l1_R F)
def s77l1_E (F : Nat → s77l1_T) (x0 x1 : AVal) (x2 : Int) (h : Heap) : Prop := gJ [.any, .any, .int .i64] [x0, x1, (.int .i64 x2)] h (fun l h => ∃ n, s77l1_R (F n) l h)
theorem s77l1_go {F : s77l1_T} {x0 x1 : AVal} {x2 : Int} {h : Heap} (H : F x0 x1 x2 h) : s77l1_G F x0 x1 x2 h := gJ_plain rfl H
theorem s77l1_in {F : Nat → s77l1_T} {x0 x1 : AVal} {x2 : Int} {h : Heap} (n : Nat) (H : F n x0 x1 x2 h) : s77l1_E F x0 x1 x2 h := gJ_plain rfl ⟨n, H⟩

def s77l1 (Ψ : AVal → Heap → Prop) : Nat → s77l1_T
  | 0, _, _, _, _ => False
  | n2 + 1, a1, b1, i, h =>
    lenN a1 fun n3 =>
    ifT (decide (i < n3)) (
      ixS 1 a1 i fun p =>
      ld1 h p fun v =>
      tStr v fun v1 =>
      ixS 1 b1 i fun p1 =>
      ld1 h p1 fun v2 =>
      tStr v2 fun v3 =>
      ifT (!strEq v1 v3) (
        retG (.bool false) h Ψ) (
        rg (i + 1) (
          s77l1_G (s77l1 Ψ n2) a1 b1 (i + 1) h))) (
      retG (.bool true) h Ψ)

def s77 (Ψ : AVal → Heap → Prop) (a : AVal) (b : AVal) (h : Heap) : Prop :=
  lenN a fun n =>
  lenN b fun n1 =>
  ifT (n != n1) (
    retG (.bool false) h Ψ) (
    s77l1_E (s77l1 Ψ) a b 0 h)

def s77_A (Ψ : AVal → Heap → Prop) : Ann :=
  .seq (rA 1)
  (.seq (.seq (rA 5)
  (.cond (.seq (rA 1)
  (.leaf))
  (.leaf)))
  (.seq (.seq (rA 1)
  (.block (.loop [(0, .any), (1, .any), (5, .int .i64)] (fun n l h => s77l1_R (s77l1 Ψ n) l h) (fun L1 =>
  .seq (.seq (rA 4)
  (.cond (.leaf)
  (.leaf)))
  (.seq (.block (.seq (.draw [(0, false), (1, false), (2, false), (3, false), (4, false), (5, false), (6, false), (7, false), (8, false)] [0, 0, 3, 7, 0, 0, 48, 112, 255])
  (.cond (.seq (rA 1)
  (.leaf))
  (.leaf))))
  (rA 3))))))
  (.seq (rA 1)
  (.leaf))))

theorem s77_ok {Ψ : AVal → Heap → Prop} {a : AVal} {b : AVal} {h : Heap} (H : s77 Ψ a b h) : ACalls prog 77 [a, b] h Ψ :=
  calls_of_evF func77 (by kernel_rfl) (by kernel_rfl) (by kernel_rfl)
    (Eq.mpr (by as_aux_lemma => kernel_rfl : oblF prog f77 (s77_A Ψ) Ψ = (True ∧ (True ∧ (True ∧ True) ∧ True) ∧ (True ∧ (∀ (h : Heap) (x0 x1 : AVal) (x2 : Int), ON (s77l1 Ψ 0 x0 x1 x2 h)) ∧ ∀ n1 : Nat, (∀ (h : Heap) (x0 x1 : AVal) (x2 : Int), OI (s77l1 Ψ (n1 + 1) x0 x1 x2 h)) ∧ ((True ∧ True ∧ True) ∧ (True ∧ (True ∧ True) ∧ True) ∧ True)) ∧ True ∧ True)) ⟨trivial, ⟨⟨trivial, ⟨⟨trivial, trivial⟩, trivial⟩⟩, ⟨⟨trivial, ⟨fun _ _ _ _ H => H, fun _ => ⟨fun _ _ _ _ H => H, ⟨⟨trivial, ⟨trivial, trivial⟩⟩, ⟨⟨trivial, ⟨⟨trivial, trivial⟩, trivial⟩⟩, trivial⟩⟩⟩⟩⟩, ⟨trivial, trivial⟩⟩⟩⟩)
    (Eq.mpr (by as_aux_lemma => kernel_rfl : evF prog f77 (s77_A Ψ) Ψ [a, b] h = s77 Ψ a b h) H)

/- 82 dictum/nishimura.set -/
abbrev s82l1_T := AVal → AVal → Int → Int → Heap → Prop
def s82l1_R (F : s82l1_T) (l : List AVal) (h : Heap) : Prop := J.cons l fun x0 l => J.cons l fun x1 l => J.cons l fun v l => J.int .i64 v fun x2 => J.cons l fun v l => J.int .i64 v fun x3 => J.nil l (F x0 x1 x2 x3 h)
def s82l1_G (F : s82l1_T) (x0 x1 : AVal) (x2 x3 : Int) (h : Heap) : Prop := gJ [.any, .any, .int .i64, .int .i64] [x0, x1, (.int .i64 x2), (.int .i64 x3)] h (s82l1_R F)
def s82l1_E (F : Nat → s82l1_T) (x0 x1 : AVal) (x2 x3 : Int) (h : Heap) : Prop := gJ [.any, .any, .int .i64, .int .i64] [x0, x1, (.int .i64 x2), (.int .i64 x3)] h (fun l h => ∃ n, s82l1_R (F n) l h)
theorem s82l1_go {F : s82l1_T} {x0 x1 : AVal} {x2 x3 : Int} {h : Heap} (H : F x0 x1 x2 x3 h) : s82l1_G F x0 x1 x2 x3 h := gJ_plain rfl H
theorem s82l1_in {F : Nat → s82l1_T} {x0 x1 : AVal} {x2 x3 : Int} {h : Heap} (n : Nat) (H : F n x0 x1 x2 x3 h) : s82l1_E F x0 x1 x2 x3 h := gJ_plain rfl ⟨n, H⟩

def s82l1 (Ψ : AVal → Heap → Prop) : Nat → s82l1_T
  | 0, _, _, _, _, _ => False
  | n + 1, in_1, t4, t6, t7, h =>
    ifT (decide (t7 < t6)) (
      callV prog in_1 [(.int .i64 t7)] h fun v h_1 =>
      tBool v fun v1 =>
      ifT (!v1) (
        rg (t7 + 1) (
          callV prog in_1 [(.int .i64 (t7 + 1))] h_1 fun v2 h_2 =>
          tBool v2 fun v3 =>
          st false h_2 t4 [(.bool false), (.int .i64 t7), (.bool v3)] fun h_3 =>
          ldN 3 h_3 t4 fun l_ =>
          tCons l_ fun v4 l_1 =>
          tBool v4 fun v5 =>
          tCons l_1 fun v6 l_2 =>
          tInt .i64 v6 fun v7 =>
          tCons l_2 fun v8 l_3 =>
          tBool v8 fun v9 =>
          tNil l_3 (
            retG (.agg [(.bool v5), (.int .i64 v7), (.bool v9)]) h_3 Ψ))) (
        rg (t7 + 1) (
          s82l1_G (s82l1 Ψ n) in_1 t4 t6 (t7 + 1) h_1))) (
      st false h t4 [(.bool true), (.int .i64 0), (.bool false)] fun h_4 =>
      ldN 3 h_4 t4 fun l_4 =>
      tCons l_4 fun v10 l_5 =>
      tBool v10 fun v11 =>
      tCons l_5 fun v12 l_6 =>
      tInt .i64 v12 fun v13 =>
      tCons l_6 fun v14 l_7 =>
      tBool v14 fun v15 =>
      tNil l_7 (
        retG (.agg [(.bool v11), (.int .i64 v13), (.bool v15)]) h_4 Ψ))

def s82 (Ψ : AVal → Heap → Prop) (far : Int) (in_ : AVal) (h : Heap) : Prop :=
  Sym.newRow 3 [(.agg [(.bool false), (.int .i64 0), (.bool false)])] h fun r h_ =>
  s82l1_E (s82l1 Ψ) in_ (.ptr r 0 0) far 0 h_

def s82_A (Ψ : AVal → Heap → Prop) : Ann :=
  .seq (rA 1)
  (.seq (.seq (rA 2)
  (.block (.loop [(1, .any), (4, .any), (6, .int .i64), (7, .int .i64)] (fun n l h => s82l1_R (s82l1 Ψ n) l h) (fun L1 =>
  .seq (rA 1)
  (.seq (.cond (.leaf)
  (.leaf))
  (.seq (.block (.seq (rA 2)
  (.seq (rA 4)
  (.cond (.seq (rA 7)
  (.leaf))
  (.leaf)))))
  (rA 2)))))))
  (.seq (rA 2)
  (.leaf)))

theorem s82_ok {Ψ : AVal → Heap → Prop} {far : Int} {in_ : AVal} {h : Heap} (H : s82 Ψ far in_ h) : ACalls prog 82 [(.int .i64 far), in_] h Ψ :=
  calls_of_evF func82 (by kernel_rfl) (by kernel_rfl) (by kernel_rfl)
    (Eq.mpr (by as_aux_lemma => kernel_rfl : oblF prog f82 (s82_A Ψ) Ψ = (True ∧ (True ∧ (∀ (h : Heap) (x0 x1 : AVal) (x2 x3 : Int), ON (s82l1 Ψ 0 x0 x1 x2 x3 h)) ∧ ∀ n1 : Nat, (∀ (h : Heap) (x0 x1 : AVal) (x2 x3 : Int), OI (s82l1 Ψ (n1 + 1) x0 x1 x2 x3 h)) ∧ (True ∧ (True ∧ True) ∧ (True ∧ True ∧ (True ∧ True) ∧ True) ∧ True)) ∧ True ∧ True)) ⟨trivial, ⟨⟨trivial, ⟨fun _ _ _ _ _ H => H, fun _ => ⟨fun _ _ _ _ _ H => H, ⟨trivial, ⟨⟨trivial, trivial⟩, ⟨⟨trivial, ⟨trivial, ⟨⟨trivial, trivial⟩, trivial⟩⟩⟩, trivial⟩⟩⟩⟩⟩⟩, ⟨trivial, trivial⟩⟩⟩)
    (Eq.mpr (by as_aux_lemma => kernel_rfl : evF prog f82 (s82_A Ψ) Ψ [(.int .i64 far), in_] h = s82 Ψ far in_ h) H)

/- 83 dictum/nishimura.far -/
def s83 (Ψ : AVal → Heap → Prop) (a_all : Bool) (a_low : Int) (a_gap : Bool) (b_all : Bool) (b_low : Int) (b_gap : Bool) (h : Heap) : Prop :=
  callG prog 104 [(.lsl 1 [(.int .i64 a_low), (.int .i64 b_low)])] h fun v h_ =>
  tInt .i64 v fun v1 =>
  rg (v1 + 3) (
    retG (.int .i64 (v1 + 3)) h_ Ψ)

def s83_A (Ψ : AVal → Heap → Prop) : Ann :=
  .seq (.reg [⟨none, [(0, true), (1, true), (2, false)]⟩])
  (.seq (.reg [⟨none, [(0, false), (1, false), (2, false), (3, false), (4, true), (5, false), (6, false), (7, false)]⟩])
  (.leaf))

theorem s83_ok {Ψ : AVal → Heap → Prop} {a_all : Bool} {a_low : Int} {a_gap : Bool} {b_all : Bool} {b_low : Int} {b_gap : Bool} {h : Heap} (H : s83 Ψ a_all a_low a_gap b_all b_low b_gap h) : ACalls prog 83 [(.agg [(.bool a_all), (.int .i64 a_low), (.bool a_gap)]), (.agg [(.bool b_all), (.int .i64 b_low), (.bool b_gap)])] h Ψ :=
  calls_of_evF func83 (by kernel_rfl) (by kernel_rfl) (by kernel_rfl)
    (Eq.mpr (by as_aux_lemma => kernel_rfl : oblF prog f83 (s83_A Ψ) Ψ = (True ∧ True ∧ True)) ⟨trivial, ⟨trivial, trivial⟩⟩)
    (Eq.mpr (by as_aux_lemma => kernel_rfl : evF prog f83 (s83_A Ψ) Ψ [(.agg [(.bool a_all), (.int .i64 a_low), (.bool a_gap)]), (.agg [(.bool b_all), (.int .i64 b_low), (.bool b_gap)])] h = s83 Ψ a_all a_low a_gap b_all b_low b_gap h) H)

/- 84 dictum/nishimura.meet$1 -/
def s84 (Ψ : AVal → Heap → Prop) (w : Int) (c0 : AVal) (c1 : AVal) (h : Heap) : Prop :=
  ldN 3 h c0 fun l_ =>
  tCons l_ fun v l_1 =>
  tBool v fun v1 =>
  tCons l_1 fun v2 l_2 =>
  tInt .i64 v2 fun v3 =>
  tCons l_2 fun v4 l_3 =>
  tBool v4 fun v5 =>
  tNil l_3 (
    callG prog 85 [(.agg [(.bool v1), (.int .i64 v3), (.bool v5)]), (.int .i64 w)] h fun v6 h_ =>
    tBool v6 fun v7 =>
    ifT v7 (
      ldN 3 h_ c1 fun l_4 =>
      tCons l_4 fun v8 l_5 =>
      tBool v8 fun v9 =>
      tCons l_5 fun v10 l_6 =>
      tInt .i64 v10 fun v11 =>
      tCons l_6 fun v12 l_7 =>
      tBool v12 fun v13 =>
      tNil l_7 (
        callG prog 85 [(.agg [(.bool v9), (.int .i64 v11), (.bool v13)]), (.int .i64 w)] h_ fun v14 h_1 =>
        tBool v14 fun v15 =>
        retG (.bool v15) h_1 Ψ)) (
      retG (.bool false) h_ Ψ))

def s84_A (Ψ : AVal → Heap → Prop) : Ann :=
  .seq (rA 1)
  (.seq (.reg [⟨none, [(0, false), (1, false), (2, false), (3, false)]⟩, ⟨some (8, true), [(4, false), (5, false), (6, false)]⟩, ⟨none, [(7, false), (8, false)]⟩])
  (.leaf))

theorem s84_ok {Ψ : AVal → Heap → Prop} {w : Int} {c0 : AVal} {c1 : AVal} {h : Heap} (H : s84 Ψ w c0 c1 h) : ACalls prog 84 [(.int .i64 w), c0, c1] h Ψ :=
  calls_of_evF func84 (by kernel_rfl) (by kernel_rfl) (by kernel_rfl)
    (Eq.mpr (by as_aux_lemma => kernel_rfl : oblF prog f84 (s84_A Ψ) Ψ = (True ∧ True ∧ True)) ⟨trivial, ⟨trivial, trivial⟩⟩)
    (Eq.mpr (by as_aux_lemma => kernel_rfl : evF prog f84 (s84_A Ψ) Ψ [(.int .i64 w), c0, c1] h = s84 Ψ w c0 c1 h) H)

/- 85 (dictum/nishimura.rung).has -/
def s85 (Ψ : AVal → Heap → Prop) (r_all : Bool) (r_low : Int) (r_gap : Bool) (w : Int) (h : Heap) : Prop :=
  ifT r_all (
    retG (.bool true) h Ψ) (
    ifT (decide (w < r_low)) (
      retG (.bool true) h Ψ) (
      ifT r_gap (
        rg (r_low + 1) (
          retG (.bool (w == (r_low + 1))) h Ψ)) (
        retG (.bool false) h Ψ)))

def s85_A (Ψ : AVal → Heap → Prop) : Ann :=
  .seq (.reg [⟨none, [(0, true), (1, false)]⟩])
  (.seq (.reg [⟨none, [(0, false), (1, false), (2, false)]⟩, ⟨some (7, false), [(3, false), (4, false), (5, false), (6, false)]⟩, ⟨none, [(7, false), (8, false)]⟩, ⟨some (13, false), [(9, false), (10, false), (11, false)]⟩, ⟨some (16, true), [(12, false), (13, false), (14, false), (15, false), (16, false)]⟩, ⟨some (13, false), [(17, false)]⟩, ⟨none, [(18, false), (19, false)]⟩])
  (.leaf))

theorem s85_ok {Ψ : AVal → Heap → Prop} {r_all : Bool} {r_low : Int} {r_gap : Bool} {w : Int} {h : Heap} (H : s85 Ψ r_all r_low r_gap w h) : ACalls prog 85 [(.agg [(.bool r_all), (.int .i64 r_low), (.bool r_gap)]), (.int .i64 w)] h Ψ :=
  calls_of_evF func85 (by kernel_rfl) (by kernel_rfl) (by kernel_rfl)
    (Eq.mpr (by as_aux_lemma => kernel_rfl : oblF prog f85 (s85_A Ψ) Ψ = (True ∧ True ∧ True)) ⟨trivial, ⟨trivial, trivial⟩⟩)
    (Eq.mpr (by as_aux_lemma => kernel_rfl : evF prog f85 (s85_A Ψ) Ψ [(.agg [(.bool r_all), (.int .i64 r_low), (.bool r_gap)]), (.int .i64 w)] h = s85 Ψ r_all r_low r_gap w h) H)

/- 86 dictum/nishimura.join$1 -/
def s86 (Ψ : AVal → Heap → Prop) (w : Int) (c0 : AVal) (c1 : AVal) (h : Heap) : Prop :=
  ldN 3 h c0 fun l_ =>
  tCons l_ fun v l_1 =>
  tBool v fun v1 =>
  tCons l_1 fun v2 l_2 =>
  tInt .i64 v2 fun v3 =>
  tCons l_2 fun v4 l_3 =>
  tBool v4 fun v5 =>
  tNil l_3 (
    callG prog 85 [(.agg [(.bool v1), (.int .i64 v3), (.bool v5)]), (.int .i64 w)] h fun v6 h_ =>
    tBool v6 fun v7 =>
    ifT v7 (
      retG (.bool true) h_ Ψ) (
      ldN 3 h_ c1 fun l_4 =>
      tCons l_4 fun v8 l_5 =>
      tBool v8 fun v9 =>
      tCons l_5 fun v10 l_6 =>
      tInt .i64 v10 fun v11 =>
      tCons l_6 fun v12 l_7 =>
      tBool v12 fun v13 =>
      tNil l_7 (
        callG prog 85 [(.agg [(.bool v9), (.int .i64 v11), (.bool v13)]), (.int .i64 w)] h_ fun v14 h_1 =>
        tBool v14 fun v15 =>
        retG (.bool v15) h_1 Ψ)))

def s86_A (Ψ : AVal → Heap → Prop) : Ann :=
  .seq (rA 1)
  (.seq (.reg [⟨none, [(0, false), (1, false), (2, false), (3, false)]⟩, ⟨some (8, false), [(4, false), (5, false), (6, false)]⟩, ⟨none, [(7, false), (8, false)]⟩])
  (.leaf))

theorem s86_ok {Ψ : AVal → Heap → Prop} {w : Int} {c0 : AVal} {c1 : AVal} {h : Heap} (H : s86 Ψ w c0 c1 h) : ACalls prog 86 [(.int .i64 w), c0, c1] h Ψ :=
  calls_of_evF func86 (by kernel_rfl) (by kernel_rfl) (by kernel_rfl)
    (Eq.mpr (by as_aux_lemma => kernel_rfl : oblF prog f86 (s86_A Ψ) Ψ = (True ∧ True ∧ True)) ⟨trivial, ⟨trivial, trivial⟩⟩)
    (Eq.mpr (by as_aux_lemma => kernel_rfl : evF prog f86 (s86_A Ψ) Ψ [(.int .i64 w), c0, c1] h = s86 Ψ w c0 c1 h) H)

/- 87 dictum/nishimura.imp$1 -/
def s87 (Ψ : AVal → Heap → Prop) (w : Int) (c0 : AVal) (c1 : AVal) (h : Heap) : Prop :=
  ldN 3 h c0 fun l_ =>
  tCons l_ fun v l_1 =>
  tBool v fun v1 =>
  tCons l_1 fun v2 l_2 =>
  tInt .i64 v2 fun v3 =>
  tCons l_2 fun v4 l_3 =>
  tBool v4 fun v5 =>
  tNil l_3 (
    callG prog 85 [(.agg [(.bool v1), (.int .i64 v3), (.bool v5)]), (.int .i64 w)] h fun v6 h_ =>
    tBool v6 fun v7 =>
    ifT v7 (
      ldN 3 h_ c1 fun l_4 =>
      tCons l_4 fun v8 l_5 =>
      tBool v8 fun v9 =>
      tCons l_5 fun v10 l_6 =>
      tInt .i64 v10 fun v11 =>
      tCons l_6 fun v12 l_7 =>
      tBool v12 fun v13 =>
      tNil l_7 (
        callG prog 85 [(.agg [(.bool v9), (.int .i64 v11), (.bool v13)]), (.int .i64 w)] h_ fun v14 h_1 =>
        tBool v14 fun v15 =>
        retG (.bool (!v15)) h_1 Ψ)) (
      retG (.bool false) h_ Ψ))

def s87_A (Ψ : AVal → Heap → Prop) : Ann :=
  .seq (rA 1)
  (.seq (.reg [⟨none, [(0, false), (1, false), (2, false), (3, false)]⟩, ⟨some (8, true), [(4, false), (5, false), (6, false), (7, false)]⟩, ⟨none, [(8, false), (9, false)]⟩])
  (.leaf))

theorem s87_ok {Ψ : AVal → Heap → Prop} {w : Int} {c0 : AVal} {c1 : AVal} {h : Heap} (H : s87 Ψ w c0 c1 h) : ACalls prog 87 [(.int .i64 w), c0, c1] h Ψ :=
  calls_of_evF func87 (by kernel_rfl) (by kernel_rfl) (by kernel_rfl)
    (Eq.mpr (by as_aux_lemma => kernel_rfl : oblF prog f87 (s87_A Ψ) Ψ = (True ∧ True ∧ True)) ⟨trivial, ⟨trivial, trivial⟩⟩)
    (Eq.mpr (by as_aux_lemma => kernel_rfl : evF prog f87 (s87_A Ψ) Ψ [(.int .i64 w), c0, c1] h = s87 Ψ w c0 c1 h) H)

/- 90 dictum/dictumref26.worlds -/
def s90 (Ψ : AVal → Heap → Prop) (a : Int) (b : Int) (h : Heap) : Prop :=
  2 ≠ (0 : Int) ∧
  rg (Int.tdiv (max a b) 2) (
    rg ((Int.tdiv (max a b) 2) + 5) (
      retG (.int .i64 ((Int.tdiv (max a b) 2) + 5)) h Ψ))

def s90_A (Ψ : AVal → Heap → Prop) : Ann :=
  .seq (rA 1)
  (.seq (rA 6)
  (.leaf))

theorem s90_ok {Ψ : AVal → Heap → Prop} {a : Int} {b : Int} {h : Heap} (H : s90 Ψ a b h) : ACalls prog 90 [(.int .i64 a), (.int .i64 b)] h Ψ :=
  calls_of_evF func90 (by kernel_rfl) (by kernel_rfl) (by kernel_rfl)
    (Eq.mpr (by as_aux_lemma => kernel_rfl : oblF prog f90 (s90_A Ψ) Ψ = (True ∧ True ∧ True)) ⟨trivial, ⟨trivial, trivial⟩⟩)
    (Eq.mpr (by as_aux_lemma => kernel_rfl : evF prog f90 (s90_A Ψ) Ψ [(.int .i64 a), (.int .i64 b)] h = s90 Ψ a b h) H)

/- 91 dictum/dictumref26.named -/
abbrev s91l1_T := AVal → Int → Bool → Int → Heap → Prop
def s91l1_R (F : s91l1_T) (l : List AVal) (h : Heap) : Prop := J.cons l fun x0 l => J.cons l fun v l => J.int .i64 v fun x1 => J.cons l fun v l => J.bool v fun x2 => J.cons l fun v l => J.int .i64 v fun x3 => J.nil l (F x0 x1 x2 x3 h)
def s91l1_G (F : s91l1_T) (x0 : AVal) (x1 : Int) (x2 : Bool) (x3 : Int) (h : Heap) : Prop := gJ [.any, .int .i64, .bool, .int .i64] [x0, (.int .i64 x1), (.bool x2), (.int .i64 x3)] h (s91l1_R F)
def s91l1_E (F : Nat → s91l1_T) (x0 : AVal) (x1 : Int) (x2 : Bool) (x3 : Int) (h : Heap) : Prop := gJ [.any, .int .i64, .bool, .int .i64] [x0, (.int .i64 x1), (.bool x2), (.int .i64 x3)] h (fun l h => ∃ n, s91l1_R (F n) l h)
theorem s91l1_go {F : s91l1_T} {x0 : AVal} {x1 : Int} {x2 : Bool} {x3 : Int} {h : Heap} (H : F x0 x1 x2 x3 h) : s91l1_G F x0 x1 x2 x3 h := gJ_plain rfl H
theorem s91l1_in {F : Nat → s91l1_T} {x0 : AVal} {x1 : Int} {x2 : Bool} {x3 : Int} {h : Heap} (n : Nat) (H : F n x0 x1 x2 x3 h) : s91l1_E F x0 x1 x2 x3 h := gJ_plain rfl ⟨n, H⟩

def s91c2 (Ψ : AVal → Heap → Prop) (L1 : s91l1_T) (in_2 : AVal) (n3 : Int) (all1 : Bool) (w1 : Int) (h : Heap) : Prop :=
  rg (w1 + 1) (
    L1 in_2 n3 all1 (w1 + 1) h)

abbrev s91l3_T := AVal → Int → Int → Heap → Prop
def s91l3_R (F : s91l3_T) (l : List AVal) (h : Heap) : Prop := J.cons l fun x0 l => J.cons l fun v l => J.int .i64 v fun x1 => J.cons l fun v l => J.int .i64 v fun x2 => J.nil l (F x0 x1 x2 h)
def s91l3_G (F : s91l3_T) (x0 : AVal) (x1 x2 : Int) (h : Heap) : Prop := gJ [.any, .int .i64, .int .i64] [x0, (.int .i64 x1), (.int .i64 x2)] h (s91l3_R F)
def s91l3_E (F : Nat → s91l3_T) (x0 : AVal) (x1 x2 : Int) (h : Heap) : Prop := gJ [.any, .int .i64, .int .i64] [x0, (.int .i64 x1), (.int .i64 x2)] h (fun l h => ∃ n, s91l3_R (F n) l h)
theorem s91l3_go {F : s91l3_T} {x0 : AVal} {x1 x2 : Int} {h : Heap} (H : F x0 x1 x2 h) : s91l3_G F x0 x1 x2 h := gJ_plain rfl H
theorem s91l3_in {F : Nat → s91l3_T} {x0 : AVal} {x1 x2 : Int} {h : Heap} (n : Nat) (H : F n x0 x1 x2 h) : s91l3_E F x0 x1 x2 h := gJ_plain rfl ⟨n, H⟩

abbrev s91l4_T := AVal → Int → Int → Bool → Int → Heap → Prop
def s91l4_R (F : s91l4_T) (l : List AVal) (h : Heap) : Prop := J.cons l fun x0 l => J.cons l fun v l => J.int .i64 v fun x1 => J.cons l fun v l => J.int .i64 v fun x2 => J.cons l fun v l => J.bool v fun x3 => J.cons l fun v l => J.int .i64 v fun x4 => J.nil l (F x0 x1 x2 x3 x4 h)
def s91l4_G (F : s91l4_T) (x0 : AVal) (x1 x2 : Int) (x3 : Bool) (x4 : Int) (h : Heap) : Prop := gJ [.any, .int .i64, .int .i64, .bool, .int .i64] [x0, (.int .i64 x1), (.int .i64 x2), (.bool x3), (.int .i64 x4)] h (s91l4_R F)
def s91l4_E (F : Nat → s91l4_T) (x0 : AVal) (x1 x2 : Int) (x3 : Bool) (x4 : Int) (h : Heap) : Prop := gJ [.any, .int .i64, .int .i64, .bool, .int .i64] [x0, (.int .i64 x1), (.int .i64 x2), (.bool x3), (.int .i64 x4)] h (fun l h => ∃ n, s91l4_R (F n) l h)
theorem s91l4_go {F : s91l4_T} {x0 : AVal} {x1 x2 : Int} {x3 : Bool} {x4 : Int} {h : Heap} (H : F x0 x1 x2 x3 x4 h) : s91l4_G F x0 x1 x2 x3 x4 h := gJ_plain rfl H
theorem s91l4_in {F : Nat → s91l4_T} {x0 : AVal} {x1 x2 : Int} {x3 : Bool} {x4 : Int} {h : Heap} (n : Nat) (H : F n x0 x1 x2 x3 x4 h) : s91l4_E F x0 x1 x2 x3 x4 h := gJ_plain rfl ⟨n, H⟩

def s91c5 (Ψ : AVal → Heap → Prop) (L3 : s91l3_T) (L4 : s91l4_T) (in_5 : AVal) (n8 k2 : Int) (same1 : Bool) (w3 : Int) (t36 : Bool) (h : Heap) : Prop :=
  ifT t36 (
    ixS 1 in_5 w3 fun p1 =>
    ld1 h p1 fun v2 =>
    tBool v2 fun v3 =>
    callG prog 20 [(.int .i64 k2), (.int .i64 w3)] h fun v4 h_ =>
    tBool v4 fun v5 =>
    (ld1 h_ p1 fun v6 =>
    v6 = (.bool v3)) ∧
    eqQ prog 4 (.bool v5) (.bool v3) fun b =>
    rg (w3 + 1) (
      L4 in_5 n8 k2 b (w3 + 1) h_)) (
    ifT same1 (
      retG (.tuple [(.int .i64 k2), (.bool true)]) h Ψ) (
      rg (k2 + 1) (
        L3 in_5 n8 (k2 + 1) h)))

def s91l4 (Ψ : AVal → Heap → Prop) (L3 : s91l3_T) : Nat → s91l4_T
  | 0, _, _, _, _, _, _ => False
  | n7 + 1, in_4, n6, k1, same, w2, h =>
    ifT (decide (w2 < n6)) (
      s91c5 Ψ L3 (s91l4_G (s91l4 Ψ L3 n7)) in_4 n6 k1 same w2 same h) (
      s91c5 Ψ L3 (s91l4_G (s91l4 Ψ L3 n7)) in_4 n6 k1 same w2 false h)

def s91l3 (Ψ : AVal → Heap → Prop) : Nat → s91l3_T
  | 0, _, _, _, _ => False
  | n5 + 1, in_3, n4, k, h =>
    rg (2 * n4) (
      ifT (decide (k < (2 * n4))) (
        s91l4_E (s91l4 Ψ (s91l3_G (s91l3 Ψ n5))) in_3 n4 k true 0 h) (
        retG (.tuple [(.int .i64 0), (.bool false)]) h Ψ))

def s91l1 (Ψ : AVal → Heap → Prop) : Nat → s91l1_T
  | 0, _, _, _, _, _ => False
  | n2 + 1, in_1, n1, all, w, h =>
    ifT (decide (w < n1)) (
      ifT all (
        ixS 1 in_1 w fun p =>
        ld1 h p fun v =>
        tBool v fun v1 =>
        s91c2 Ψ (s91l1_G (s91l1 Ψ n2)) in_1 n1 v1 w h) (
        s91c2 Ψ (s91l1_G (s91l1 Ψ n2)) in_1 n1 false w h)) (
      ifT all (
        retG (.tuple [(.int .i64 (-1)), (.bool true)]) h Ψ) (
        s91l3_E (s91l3 Ψ) in_1 n1 0 h))

def s91 (Ψ : AVal → Heap → Prop) (in_ : AVal) (h : Heap) : Prop :=
  lenN in_ fun n =>
  s91l1_E (s91l1 Ψ) in_ n true 0 h

def s91_A (Ψ : AVal → Heap → Prop) : Ann :=
  .seq (rA 2)
  (.seq (rA 3)
  (.seq (rA 1)
  (.seq (.seq (rA 1)
  (.block (.loop [(0, .any), (4, .int .i64), (5, .bool), (6, .int .i64)] (fun n l h => s91l1_R (s91l1 Ψ n) l h) (fun L1 =>
  .seq (.seq (rA 3)
  (.cond (.leaf)
  (.leaf)))
  (.cut [(0, .any), (4, .int .i64), (5, .bool), (6, .int .i64)] (fun l h => J.cons l fun x0 l => J.cons l fun v l => J.int .i64 v fun x1 => J.cons l fun v l => J.bool v fun x2 => J.cons l fun v l => J.int .i64 v fun x3 => J.nil l (s91c2 Ψ (fun y0 y1 y2 y3 h => L1 [y0, (.int .i64 y1), (.bool y2), (.int .i64 y3)] h) x0 x1 x2 x3 h)) (.block (.reg [⟨none, [(0, false), (1, false)]⟩, ⟨some (18, true), [(2, false), (3, false), (4, false), (5, false)]⟩, ⟨none, [(6, false), (7, false)]⟩]))
  (rA 3))))))
  (.seq (.seq (rA 1)
  (.cond (.seq (rA 2)
  (.leaf))
  (.leaf)))
  (.seq (.seq (rA 1)
  (.block (.loop [(0, .any), (4, .int .i64), (7, .int .i64)] (fun n l h => s91l3_R (s91l3 Ψ n) l h) (fun L3 =>
  .seq (.seq (rA 4)
  (.cond (.leaf)
  (.leaf)))
  (.seq (.block (.seq (rA 1)
  (.seq (.seq (rA 1)
  (.block (.loop [(0, .any), (4, .int .i64), (7, .int .i64), (8, .bool), (9, .int .i64)] (fun n l h => s91l4_R (s91l4 Ψ (fun y0 y1 y2 h => L3 [y0, (.int .i64 y1), (.int .i64 y2)] h) n) l h) (fun L4 =>
  .seq (.cut [(0, .any), (4, .int .i64), (7, .int .i64), (8, .bool), (9, .int .i64), (36, .bool)] (fun l h => J.cons l fun x0 l => J.cons l fun v l => J.int .i64 v fun x1 => J.cons l fun v l => J.int .i64 v fun x2 => J.cons l fun v l => J.bool v fun x3 => J.cons l fun v l => J.int .i64 v fun x4 => J.cons l fun v l => J.bool v fun x5 => J.nil l (s91c5 Ψ (fun y0 y1 y2 h => L3 [y0, (.int .i64 y1), (.int .i64 y2)] h) (fun y0 y1 y2 y3 y4 h => L4 [y0, (.int .i64 y1), (.int .i64 y2), (.bool y3), (.int .i64 y4)] h) x0 x1 x2 x3 x4 x5 h)) (.reg [⟨none, [(0, false), (1, false), (2, false), (3, false)]⟩, ⟨some (34, true), [(4, false)]⟩, ⟨none, [(5, false)]⟩])
  (.cond (.leaf)
  (.leaf)))
  (.seq (.block (.draw [(0, false), (1, false), (3, false), (4, false), (5, false), (6, false), (2, false), (7, false), (8, false)] [0, 0, 3, 0, 0, 24, 56, 127, 255]))
  (rA 3))))))
  (.seq (rA 1)
  (.cond (.seq (rA 3)
  (.leaf))
  (.leaf))))))
  (rA 3))))))
  (.seq (rA 2)
  (.leaf)))))))

theorem s91_ok {Ψ : AVal → Heap → Prop} {in_ : AVal} {h : Heap} (H : s91 Ψ in_ h) : ACalls prog 91 [in_] h Ψ :=
  calls_of_evF func91 (by kernel_rfl) (by kernel_rfl) (by kernel_rfl)
    (Eq.mpr (by as_aux_lemma => kernel_rfl : oblF prog f91 (s91_A Ψ) Ψ = (True ∧ True ∧ True ∧ (True ∧ (∀ (h : Heap) (x0 : AVal) (x1 : Int) (x2 : Bool) (x3 : Int), ON (s91l1 Ψ 0 x0 x1 x2 x3 h)) ∧ ∀ n1 : Nat, (∀ (h : Heap) (x0 : AVal) (x1 : Int) (x2 : Bool) (x3 : Int), OI (s91l1 Ψ (n1 + 1) x0 x1 x2 x3 h)) ∧ ((True ∧ True ∧ True) ∧ (True) ∧ (∀ (h : Heap) (x0 : AVal) (x1 : Int) (x2 : Bool) (x3 : Int), OI (s91c2 Ψ (s91l1_G (s91l1 Ψ n1)) x0 x1 x2 x3 h)) ∧ (True))) ∧ (True ∧ (True ∧ True) ∧ True) ∧ (True ∧ (∀ (h : Heap) (x0 : AVal) (x1 x2 : Int), ON (s91l3 Ψ 0 x0 x1 x2 h)) ∧ ∀ n3 : Nat, (∀ (h : Heap) (x0 : AVal) (x1 x2 : Int), OI (s91l3 Ψ (n3 + 1) x0 x1 x2 h)) ∧ ((True ∧ True ∧ True) ∧ (True ∧ (True ∧ (∀ (h : Heap) (x0 : AVal) (x1 x2 : Int) (x3 : Bool) (x4 : Int), ON (s91l4 Ψ (s91l3_G (s91l3 Ψ n3)) 0 x0 x1 x2 x3 x4 h)) ∧ ∀ n4 : Nat, (∀ (h : Heap) (x0 : AVal) (x1 x2 : Int) (x3 : Bool) (x4 : Int), OI (s91l4 Ψ (s91l3_G (s91l3 Ψ n3)) (n4 + 1) x0 x1 x2 x3 x4 h)) ∧ (((True) ∧ (∀ (h : Heap) (x0 : AVal) (x1 x2 : Int) (x3 : Bool) (x4 : Int) (x5 : Bool), OI (s91c5 Ψ (s91l3_G (s91l3 Ψ n3)) (s91l4_G (s91l4 Ψ (s91l3_G (s91l3 Ψ n3)) n4)) x0 x1 x2 x3 x4 x5 h)) ∧ (True ∧ True)) ∧ True ∧ True)) ∧ True ∧ (True ∧ True) ∧ True) ∧ True)) ∧ True ∧ True)) ⟨trivial, ⟨trivial, ⟨trivial, ⟨⟨trivial, ⟨fun _ _ _ _ _ H => H, fun _ => ⟨fun _ _ _ _ _ H => H, ⟨⟨trivial, ⟨trivial, trivial⟩⟩, ⟨trivial, fun _ _ _ _ _ H => H, trivial⟩⟩⟩⟩⟩, ⟨⟨trivial, ⟨⟨trivial, trivial⟩, trivial⟩⟩, ⟨⟨trivial, ⟨fun _ _ _ _ H => H, fun _ => ⟨fun _ _ _ _ H => H, ⟨⟨trivial, ⟨trivial, trivial⟩⟩, ⟨⟨trivial, ⟨⟨trivial, ⟨fun _ _ _ _ _ _ H => H, fun _ => ⟨fun _ _ _ _ _ _ H => H, ⟨⟨trivial, fun _ _ _ _ _ _ _ H => H, ⟨trivial, trivial⟩⟩, ⟨trivial, trivial⟩⟩⟩⟩⟩, ⟨trivial, ⟨⟨trivial, trivial⟩, trivial⟩⟩⟩⟩, trivial⟩⟩⟩⟩⟩, ⟨trivial, trivial⟩⟩⟩⟩⟩⟩⟩)
    (Eq.mpr (by as_aux_lemma => kernel_rfl : evF prog f91 (s91_A Ψ) Ψ [in_] h = s91 Ψ in_ h) H)

/- 92 dictum/dictumref26.below -/
abbrev s92l1_T := Int → Int → Int → Heap → Prop
def s92l1_R (F : s92l1_T) (l : List AVal) (h : Heap) : Prop := J.cons l fun v l => J.int .i64 v fun x0 => J.cons l fun v l => J.int .i64 v fun x1 => J.cons l fun v l => J.int .i64 v fun x2 => J.nil l (F x0 x1 x2 h)
def s92l1_G (F : s92l1_T) (x0 x1 x2 : Int) (h : Heap) : Prop := gJ [.int .i64, .int .i64, .int .i64] [(.int .i64 x0), (.int .i64 x1), (.int .i64 x2)] h (s92l1_R F)
def s92l1_E (F : Nat → s92l1_T) (x0 x1 x2 : Int) (h : Heap) : Prop := gJ [.int .i64, .int .i64, .int .i64] [(.int .i64 x0), (.int .i64 x1), (.int .i64 x2)] h (fun l h => ∃ n, s92l1_R (F n) l h)
theorem s92l1_go {F : s92l1_T} {x0 x1 x2 : Int} {h : Heap} (H : F x0 x1 x2 h) : s92l1_G F x0 x1 x2 h := gJ_plain rfl H
theorem s92l1_in {F : Nat → s92l1_T} {x0 x1 x2 : Int} {h : Heap} (n : Nat) (H : F n x0 x1 x2 h) : s92l1_E F x0 x1 x2 h := gJ_plain rfl ⟨n, H⟩

def s92c2 (Ψ : AVal → Heap → Prop) (L1 : s92l1_T) (a2 b2 w1 : Int) (t21 : Bool) (h : Heap) : Prop :=
  ifT t21 (
    retG (.bool false) h Ψ) (
    rg (w1 + 1) (
      L1 a2 b2 (w1 + 1) h))

def s92l1 (Ψ : AVal → Heap → Prop) : Nat → s92l1_T
  | 0, _, _, _, _ => False
  | n + 1, a1, b1, w, h =>
    callG prog 90 [(.int .i64 a1), (.int .i64 b1)] h fun v h_ =>
    tInt .i64 v fun v1 =>
    ifT (decide (w < v1)) (
      callG prog 20 [(.int .i64 a1), (.int .i64 w)] h_ fun v2 h_1 =>
      tBool v2 fun v3 =>
      ifT v3 (
        callG prog 20 [(.int .i64 b1), (.int .i64 w)] h_1 fun v4 h_2 =>
        tBool v4 fun v5 =>
        s92c2 Ψ (s92l1_G (s92l1 Ψ n)) a1 b1 w (!v5) h_2) (
        s92c2 Ψ (s92l1_G (s92l1 Ψ n)) a1 b1 w false h_1)) (
      retG (.bool true) h_ Ψ)

def s92 (Ψ : AVal → Heap → Prop) (a : Int) (b : Int) (h : Heap) : Prop :=
  s92l1_E (s92l1 Ψ) a b 0 h

def s92_A (Ψ : AVal → Heap → Prop) : Ann :=
  .seq (rA 1)
  (.seq (.seq (rA 1)
  (.block (.loop [(0, .int .i64), (1, .int .i64), (5, .int .i64)] (fun n l h => s92l1_R (s92l1 Ψ n) l h) (fun L1 =>
  .seq (.seq (rA 5)
  (.cond (.leaf)
  (.leaf)))
  (.seq (.block (.cut [(0, .int .i64), (1, .int .i64), (5, .int .i64), (21, .bool)] (fun l h => J.cons l fun v l => J.int .i64 v fun x0 => J.cons l fun v l => J.int .i64 v fun x1 => J.cons l fun v l => J.int .i64 v fun x2 => J.cons l fun v l => J.bool v fun x3 => J.nil l (s92c2 Ψ (fun y0 y1 y2 h => L1 [(.int .i64 y0), (.int .i64 y1), (.int .i64 y2)] h) x0 x1 x2 x3 h)) (.reg [⟨none, [(0, false), (1, false), (2, false), (3, false)]⟩, ⟨some (16, true), [(4, false), (5, false), (6, false), (7, false)]⟩, ⟨none, [(8, false)]⟩])
  (.cond (.seq (rA 1)
  (.leaf))
  (.leaf))))
  (rA 3))))))
  (.seq (rA 1)
  (.leaf)))

theorem s92_ok {Ψ : AVal → Heap → Prop} {a : Int} {b : Int} {h : Heap} (H : s92 Ψ a b h) : ACalls prog 92 [(.int .i64 a), (.int .i64 b)] h Ψ :=
  calls_of_evF func92 (by kernel_rfl) (by kernel_rfl) (by kernel_rfl)
    (Eq.mpr (by as_aux_lemma => kernel_rfl : oblF prog f92 (s92_A Ψ) Ψ = (True ∧ (True ∧ (∀ (h : Heap) (x0 x1 x2 : Int), ON (s92l1 Ψ 0 x0 x1 x2 h)) ∧ ∀ n1 : Nat, (∀ (h : Heap) (x0 x1 x2 : Int), OI (s92l1 Ψ (n1 + 1) x0 x1 x2 h)) ∧ ((True ∧ True ∧ True) ∧ ((True) ∧ (∀ (h : Heap) (x0 x1 x2 : Int) (x3 : Bool), OI (s92c2 Ψ (s92l1_G (s92l1 Ψ n1)) x0 x1 x2 x3 h)) ∧ ((True ∧ True) ∧ True)) ∧ True)) ∧ True ∧ True)) ⟨trivial, ⟨⟨trivial, ⟨fun _ _ _ _ H => H, fun _ => ⟨fun _ _ _ _ H => H, ⟨⟨trivial, ⟨trivial, trivial⟩⟩, ⟨⟨trivial, fun _ _ _ _ _ H => H, ⟨⟨trivial, trivial⟩, trivial⟩⟩, trivial⟩⟩⟩⟩⟩, ⟨trivial, trivial⟩⟩⟩)
    (Eq.mpr (by as_aux_lemma => kernel_rfl : evF prog f92 (s92_A Ψ) Ψ [(.int .i64 a), (.int .i64 b)] h = s92 Ψ a b h) H)

/- 98 (*dictum/dictumref03.T).Put -/
def s98c1 (Ψ : AVal → Heap → Prop) (t1 n : AVal) (h : Heap) : Prop :=
  ldN 4 h n fun l_ =>
  tCons l_ fun v l_1 =>
  tInt .i64 v fun v1 =>
  tCons l_1 fun v2 l_2 =>
  tStr v2 fun v3 =>
  tCons l_2 fun v4 l_3 =>
  tInt .i64 v4 fun v5 =>
  tCons l_3 fun v6 l_4 =>
  tInt .i64 v6 fun v7 =>
  tNil l_4 (
    callG prog 110 [t1, (.agg [(.int .i64 v1), (.str v3), (.int .i64 v5), (.int .i64 v7)])] h fun v8 h_ =>
    tTup v8 fun l_5 =>
    tCons l_5 fun v9 l_6 =>
    tInt .i64 v9 fun v10 =>
    tCons l_6 fun v11 l_7 =>
    tBool v11 fun v12 =>
    tNil l_7 (
      ifT v12 (
        retG (.tuple [(.int .i64 v10), (.int .i64 0)]) h_ Ψ) (
        nilCheckA t1 fun p =>
        addOff p 0 fun p1 =>
        ld1 h_ p1 fun v13 =>
        lenN v13 fun n1 =>
        ifT (decide (1024 ≤ n1)) (
          retG (.tuple [(.int .i64 0), (.int .i64 30)]) h_ Ψ) (
          nilCheckA t1 fun p2 =>
          addOff p2 0 fun p3 =>
          ld1 h_ p3 fun v14 =>
          ldN 4 h_ n fun l_8 =>
          tCons l_8 fun v15 l_9 =>
          tInt .i64 v15 fun v16 =>
          tCons l_9 fun v17 l_10 =>
          tStr v17 fun v18 =>
          tCons l_10 fun v19 l_11 =>
          tInt .i64 v19 fun v20 =>
          tCons l_11 fun v21 l_12 =>
          tInt .i64 v21 fun v22 =>
          tNil l_12 (
            (ld1 h_ p3 fun v23 =>
            v23 = v14) ∧
            appC 4 40 h_ v14 (.lsl 4 [(.agg [(.int .i64 v16), (.str v18), (.int .i64 v20), (.int .i64 v22)])]) fun v24 h_1 =>
            nilCheckA t1 fun p4 =>
            addOff p4 0 fun p5 =>
            chk (sc v24) (
              st true h_1 p5 [v24] fun h_2 =>
              nilCheckA t1 fun p6 =>
              addOff p6 0 fun p7 =>
              ld1 h_2 p7 fun v25 =>
              lenN v25 fun n2 =>
              rg (n2 - 1) (
                retG (.tuple [(.int .i64 (n2 - 1)), (.int .i64 0)]) h_2 Ψ)))))))

def s98c2 (Ψ : AVal → Heap → Prop) (t2 n3 : AVal) (t19 : Bool) (h : Heap) : Prop :=
  ifT t19 (
    retG (.tuple [(.int .i64 0), (.int .i64 31)]) h Ψ) (
    addOff n3 1 fun p8 =>
    ld1 h p8 fun v26 =>
    tStr v26 fun v27 =>
    callG prog 28 [(.str v27)] h fun v28 h_3 =>
    tBool v28 fun v29 =>
    ifT (!v29) (
      retG (.tuple [(.int .i64 0), (.int .i64 32)]) h_3 Ψ) (
      s98c1 Ψ t2 n3 h_3))

def s98c3 (Ψ : AVal → Heap → Prop) (t3 n4 : AVal) (t38 : Bool) (h : Heap) : Prop :=
  ifT t38 (
    retG (.tuple [(.int .i64 0), (.int .i64 31)]) h Ψ) (
    s98c1 Ψ t3 n4 h)

def s98c5 (Ψ : AVal → Heap → Prop) (t5 n6 : AVal) (t59 : Bool) (h : Heap) : Prop :=
  ifT t59 (
    retG (.tuple [(.int .i64 0), (.int .i64 31)]) h Ψ) (
    s98c1 Ψ t5 n6 h)

def s98c4 (Ψ : AVal → Heap → Prop) (t4 n5 : AVal) (t39 : Bool) (h : Heap) : Prop :=
  ifT t39 (
    addOff n5 1 fun p9 =>
    ld1 h p9 fun v30 =>
    tStr v30 fun v31 =>
    ifT (!strEq v31 (ByteArray.mk #[])) (
      s98c5 Ψ t4 n5 true h) (
      addOff n5 2 fun p10 =>
      ld1 h p10 fun v32 =>
      tInt .i64 v32 fun v33 =>
      callG prog 50 [t4, (.int .i64 v33)] h fun v34 h_4 =>
      tBool v34 fun v35 =>
      ifT (!v35) (
        s98c5 Ψ t4 n5 true h_4) (
        addOff n5 3 fun p11 =>
        ld1 h_4 p11 fun v36 =>
        tInt .i64 v36 fun v37 =>
        callG prog 50 [t4, (.int .i64 v37)] h_4 fun v38 h_5 =>
        tBool v38 fun v39 =>
        s98c5 Ψ t4 n5 (!v39) h_5))) (
    retG (.tuple [(.int .i64 0), (.int .i64 31)]) h Ψ)

def s98 (Ψ : AVal → Heap → Prop) (t : AVal) (n_Kind : Int) (n_Name : ByteArray) (n_L : Int) (n_R : Int) (h : Heap) : Prop :=
  ifT (n_Kind == 1) (
    ifT (n_L != 0) (
      s98c2 Ψ t (.lptr [(.int .i64 n_Kind), (.str n_Name), (.int .i64 n_L), (.int .i64 n_R)]) true h) (
      s98c2 Ψ t (.lptr [(.int .i64 n_Kind), (.str n_Name), (.int .i64 n_L), (.int .i64 n_R)]) (n_R != 0) h)) (
    ifT (n_Kind == 2) (
      ifT (!strEq n_Name (ByteArray.mk #[])) (
        s98c3 Ψ t (.lptr [(.int .i64 n_Kind), (.str n_Name), (.int .i64 n_L), (.int .i64 n_R)]) true h) (
        ifT (n_L != 0) (
          s98c3 Ψ t (.lptr [(.int .i64 n_Kind), (.str n_Name), (.int .i64 n_L), (.int .i64 n_R)]) true h) (
          s98c3 Ψ t (.lptr [(.int .i64 n_Kind), (.str n_Name), (.int .i64 n_L), (.int .i64 n_R)]) (n_R != 0) h))) (
      ifT (n_Kind == 3) (
        s98c4 Ψ t (.lptr [(.int .i64 n_Kind), (.str n_Name), (.int .i64 n_L), (.int .i64 n_R)]) (n_Kind == 3) h) (
        ifT (n_Kind == 4) (
          s98c4 Ψ t (.lptr [(.int .i64 n_Kind), (.str n_Name), (.int .i64 n_L), (.int .i64 n_R)]) (n_Kind == 4) h) (
          s98c4 Ψ t (.lptr [(.int .i64 n_Kind), (.str n_Name), (.int .i64 n_L), (.int .i64 n_R)]) (n_Kind == 5) h))))

def s98_A (Ψ : AVal → Heap → Prop) : Ann :=
  .seq (.reg [⟨none, [(0, true), (1, false), (2, false)]⟩])
  (.cut [(0, .any), (3, .any)] (fun l h => J.cons l fun x0 l => J.cons l fun x1 l => J.nil l (s98c1 Ψ x0 x1 h)) (.seq (rA 2)
  (.block (.seq (rA 2)
  (.cond (.seq (.cut [(0, .any), (3, .any), (19, .bool)] (fun l h => J.cons l fun x0 l => J.cons l fun x1 l => J.cons l fun v l => J.bool v fun x2 => J.nil l (s98c2 Ψ x0 x1 x2 h)) (.reg [⟨none, [(0, false), (1, false), (2, false), (3, false)]⟩, ⟨some (15, false), [(4, false), (5, false), (6, false)]⟩, ⟨none, [(7, false)]⟩])
  (.cond (.seq (rA 2)
  (.leaf))
  (.leaf)))
  (.seq (rA 4)
  (.cond (.seq (rA 2)
  (.leaf))
  (.leaf))))
  (.seq (rA 2)
  (.cond (.cut [(0, .any), (3, .any), (38, .bool)] (fun l h => J.cons l fun x0 l => J.cons l fun x1 l => J.cons l fun v l => J.bool v fun x2 => J.nil l (s98c3 Ψ x0 x1 x2 h)) (.reg [⟨none, [(0, false), (1, false), (2, false), (3, false)]⟩, ⟨some (29, false), [(4, false), (5, false), (6, false)]⟩, ⟨none, [(7, false), (8, false)]⟩, ⟨some (34, false), [(9, false), (10, false), (11, false)]⟩, ⟨none, [(12, false)]⟩])
  (.cond (.seq (rA 2)
  (.leaf))
  (.leaf)))
  (.cut [(0, .any), (3, .any), (39, .bool)] (fun l h => J.cons l fun x0 l => J.cons l fun x1 l => J.cons l fun v l => J.bool v fun x2 => J.nil l (s98c4 Ψ x0 x1 x2 h)) (.seq (rA 2)
  (.cond (.leaf)
  (.seq (rA 2)
  (.cond (.leaf)
  (rA 2)))))
  (.cond (.cut [(0, .any), (3, .any), (59, .bool)] (fun l h => J.cons l fun x0 l => J.cons l fun x1 l => J.cons l fun v l => J.bool v fun x2 => J.nil l (s98c5 Ψ x0 x1 x2 h)) (.reg [⟨none, [(0, false), (1, false), (2, false), (3, false)]⟩, ⟨some (46, false), [(4, false), (5, false), (6, false), (7, false), (8, false)]⟩, ⟨none, [(9, false), (10, false)]⟩, ⟨some (53, false), [(11, false), (12, false), (13, false), (14, false), (15, false)]⟩, ⟨none, [(16, false)]⟩])
  (.cond (.seq (rA 2)
  (.leaf))
  (.leaf)))
  (.seq (rA 2)
  (.leaf))))))))))
  (.seq (rA 8)
  (.seq (.seq (rA 1)
  (.cond (.seq (rA 3)
  (.leaf))
  (.leaf)))
  (.seq (.seq (rA 6)
  (.cond (.seq (rA 2)
  (.leaf))
  (.leaf)))
  (.seq (.draw [(0, false), (1, false), (2, false), (3, false), (4, false), (5, false), (6, true), (7, false), (8, false), (9, false), (10, false)] [0, 0, 2, 6, 14, 0, 32, 126, 255, 511, 1023])
  (.seq (rA 8)
  (.leaf)))))))

theorem s98_ok {Ψ : AVal → Heap → Prop} {t : AVal} {n_Kind : Int} {n_Name : ByteArray} {n_L : Int} {n_R : Int} {h : Heap} (H : s98 Ψ t n_Kind n_Name n_L n_R h) : ACalls prog 98 [t, (.agg [(.int .i64 n_Kind), (.str n_Name), (.int .i64 n_L), (.int .i64 n_R)])] h Ψ :=
  calls_of_evF func98 (by kernel_rfl) (by kernel_rfl) (by kernel_rfl)
    (Eq.mpr (by as_aux_lemma => kernel_rfl : oblF prog f98 (s98_A Ψ) Ψ = (True ∧ (True ∧ True ∧ (((True) ∧ (∀ (h : Heap) (x0 x1 : AVal) (x2 : Bool), OI (s98c2 Ψ x0 x1 x2 h)) ∧ ((True ∧ True) ∧ True)) ∧ True ∧ (True ∧ True) ∧ True) ∧ True ∧ ((True) ∧ (∀ (h : Heap) (x0 x1 : AVal) (x2 : Bool), OI (s98c3 Ψ x0 x1 x2 h)) ∧ ((True ∧ True) ∧ True)) ∧ (True ∧ True ∧ True ∧ True ∧ True) ∧ (∀ (h : Heap) (x0 x1 : AVal) (x2 : Bool), OI (s98c4 Ψ x0 x1 x2 h)) ∧ (((True) ∧ (∀ (h : Heap) (x0 x1 : AVal) (x2 : Bool), OI (s98c5 Ψ x0 x1 x2 h)) ∧ ((True ∧ True) ∧ True)) ∧ True ∧ True)) ∧ (∀ (h : Heap) (x0 x1 : AVal), OI (s98c1 Ψ x0 x1 h)) ∧ (True ∧ (True ∧ (True ∧ True) ∧ True) ∧ (True ∧ (True ∧ True) ∧ True) ∧ True ∧ True ∧ True))) ⟨trivial, ⟨⟨trivial, ⟨trivial, ⟨⟨⟨trivial, fun _ _ _ _ H => H, ⟨⟨trivial, trivial⟩, trivial⟩⟩, ⟨trivial, ⟨⟨trivial, trivial⟩, trivial⟩⟩⟩, ⟨trivial, ⟨⟨trivial, fun _ _ _ _ H => H, ⟨⟨trivial, trivial⟩, trivial⟩⟩, ⟨⟨trivial, ⟨trivial, ⟨trivial, ⟨trivial, trivial⟩⟩⟩⟩, fun _ _ _ _ H => H, ⟨⟨trivial, fun _ _ _ _ H => H, ⟨⟨trivial, trivial⟩, trivial⟩⟩, ⟨trivial, trivial⟩⟩⟩⟩⟩⟩⟩⟩, fun _ _ _ H => H, ⟨trivial, ⟨⟨trivial, ⟨⟨trivial, trivial⟩, trivial⟩⟩, ⟨⟨trivial, ⟨⟨trivial, trivial⟩, trivial⟩⟩, ⟨trivial, ⟨trivial, trivial⟩⟩⟩⟩⟩⟩⟩)
    (Eq.mpr (by as_aux_lemma => kernel_rfl : evF prog f98 (s98_A Ψ) Ψ [t, (.agg [(.int .i64 n_Kind), (.str n_Name), (.int .i64 n_L), (.int .i64 n_R)])] h = s98 Ψ t n_Kind n_Name n_L n_R h) H)

/- 99 (*dictum/formula.Table).Put -/
def s99 (Ψ : AVal → Heap → Prop) (t : AVal) (n_Kind : Int) (n_Name : ByteArray) (n_L : Int) (n_R : Int) (h : Heap) : Prop :=
  callG prog 56 [t] h fun v h_ =>
  tBool v fun v1 =>
  ifT (!v1) (
    retG (.tuple [(.int .i64 0), (.int .i64 1)]) h_ Ψ) (
    callG prog 111 [t, (.agg [(.int .i64 n_Kind), (.str n_Name), (.int .i64 n_L), (.int .i64 n_R)])] h_ fun v2 h_1 =>
    tInt .i64 v2 fun v3 =>
    ifT (v3 != 0) (
      retG (.tuple [(.int .i64 0), (.int .i64 v3)]) h_1 Ψ) (
      nilCheckA t fun p =>
      addOff p 1 fun p1 =>
      ld1 h_1 p1 fun v4 =>
      mapGet (.int .i64 0) h_1 v4 (.agg [(.int .i64 n_Kind), (.str n_Name), (.int .i64 n_L), (.int .i64 n_R)]) fun v5 b =>
      tInt .i64 v5 fun v6 =>
      ifT b (
        retG (.tuple [(.int .i64 v6), (.int .i64 0)]) h_1 Ψ) (
        nilCheckA t fun p2 =>
        addOff p2 0 fun p3 =>
        ld1 h_1 p3 fun v7 =>
        lenN v7 fun n =>
        ifT (decide (1024 ≤ n)) (
          retG (.tuple [(.int .i64 0), (.int .i64 30)]) h_1 Ψ) (
          nilCheckA t fun p4 =>
          addOff p4 0 fun p5 =>
          ld1 h_1 p5 fun v8 =>
          (ld1 h_1 p5 fun v9 =>
          v9 = v8) ∧
          appC 4 40 h_1 v8 (.lsl 4 [(.agg [(.int .i64 n_Kind), (.str n_Name), (.int .i64 n_L), (.int .i64 n_R)])]) fun v10 h_2 =>
          nilCheckA t fun p6 =>
          addOff p6 0 fun p7 =>
          chk (sc v10) (
            st true h_2 p7 [v10] fun h_3 =>
            nilCheckA t fun p8 =>
            addOff p8 1 fun p9 =>
            ld1 h_3 p9 fun v11 =>
            mapPut h_3 v11 (.agg [(.int .i64 n_Kind), (.str n_Name), (.int .i64 n_L), (.int .i64 n_R)]) (.int .i64 n) fun h_4 =>
            retG (.tuple [(.int .i64 n), (.int .i64 0)]) h_4 Ψ)))))

def s99_A (Ψ : AVal → Heap → Prop) : Ann :=
  .seq (.reg [⟨none, [(0, true), (1, false), (2, false)]⟩])
  (.seq (.seq (rA 3)
  (.cond (.seq (rA 2)
  (.leaf))
  (.leaf)))
  (.seq (.seq (rA 4)
  (.seq (rA 2)
  (.cond (.seq (rA 3)
  (.leaf))
  (.leaf))))
  (.seq (.seq (.draw [(0, false), (1, false), (2, false), (3, false), (4, false), (5, false), (6, false), (7, false), (8, false), (9, false), (10, false)] [0, 1, 3, 7, 0, 31, 63, 127, 127, 255, 1023])
  (.seq (rA 1)
  (.cond (.seq (rA 3)
  (.leaf))
  (.leaf))))
  (.seq (rA 6)
  (.seq (.seq (rA 2)
  (.cond (.seq (rA 2)
  (.leaf))
  (.leaf)))
  (.seq (.draw [(0, false), (1, false), (2, false), (3, false), (4, false), (5, false), (6, true), (7, false), (8, false), (9, false), (10, false)] [0, 0, 2, 6, 14, 0, 32, 126, 255, 511, 1023])
  (.seq (.draw [(0, false), (1, false), (2, false), (3, false), (4, false), (5, false), (6, false)] [0, 1, 3, 7, 0, 0, 63])
  (.seq (rA 3)
  (.leaf)))))))))

theorem s99_ok {Ψ : AVal → Heap → Prop} {t : AVal} {n_Kind : Int} {n_Name : ByteArray} {n_L : Int} {n_R : Int} {h : Heap} (H : s99 Ψ t n_Kind n_Name n_L n_R h) : ACalls prog 99 [t, (.agg [(.int .i64 n_Kind), (.str n_Name), (.int .i64 n_L), (.int .i64 n_R)])] h Ψ :=
  calls_of_evF func99 (by kernel_rfl) (by kernel_rfl) (by kernel_rfl)
    (Eq.mpr (by as_aux_lemma => kernel_rfl : oblF prog f99 (s99_A Ψ) Ψ = (True ∧ (True ∧ (True ∧ True) ∧ True) ∧ (True ∧ True ∧ (True ∧ True) ∧ True) ∧ (True ∧ True ∧ (True ∧ True) ∧ True) ∧ True ∧ (True ∧ (True ∧ True) ∧ True) ∧ True ∧ True ∧ True ∧ True)) ⟨trivial, ⟨⟨trivial, ⟨⟨trivial, trivial⟩, trivial⟩⟩, ⟨⟨trivial, ⟨trivial, ⟨⟨trivial, trivial⟩, trivial⟩⟩⟩, ⟨⟨trivial, ⟨trivial, ⟨⟨trivial, trivial⟩, trivial⟩⟩⟩, ⟨trivial, ⟨⟨trivial, ⟨⟨trivial, trivial⟩, trivial⟩⟩, ⟨trivial, ⟨trivial, ⟨trivial, trivial⟩⟩⟩⟩⟩⟩⟩⟩⟩)
    (Eq.mpr (by as_aux_lemma => kernel_rfl : evF prog f99 (s99_A Ψ) Ψ [t, (.agg [(.int .i64 n_Kind), (.str n_Name), (.int .i64 n_L), (.int .i64 n_R)])] h = s99 Ψ t n_Kind n_Name n_L n_R h) H)

/- 100 slices.Clone[[]dictum/api.Node,dictum/api.Node] -/
def s100 (Ψ : AVal → Heap → Prop) (s : AVal) (h : Heap) : Prop :=
  nilS s fun b =>
  ifT b (
    retG .nilsl h Ψ) (
    Sym.newRow 4 [] h fun r h_ =>
    appC 4 40 h_ (.sl r 4 0 0) s fun v h_1 =>
    retG v h_1 Ψ)

def s100_A (Ψ : AVal → Heap → Prop) : Ann :=
  .seq (rA 1)
  (.seq (.seq (rA 2)
  (.cond (.seq (rA 1)
  (.leaf))
  (.leaf)))
  (.seq (rA 4)
  (.leaf)))

theorem s100_ok {Ψ : AVal → Heap → Prop} {s : AVal} {h : Heap} (H : s100 Ψ s h) : ACalls prog 100 [s] h Ψ :=
  calls_of_evF func100 (by kernel_rfl) (by kernel_rfl) (by kernel_rfl)
    (Eq.mpr (by as_aux_lemma => kernel_rfl : oblF prog f100 (s100_A Ψ) Ψ = (True ∧ (True ∧ (True ∧ True) ∧ True) ∧ True ∧ True)) ⟨trivial, ⟨⟨trivial, ⟨⟨trivial, trivial⟩, trivial⟩⟩, ⟨trivial, trivial⟩⟩⟩)
    (Eq.mpr (by as_aux_lemma => kernel_rfl : evF prog f100 (s100_A Ψ) Ψ [s] h = s100 Ψ s h) H)

/- 104 dictum/nishimura.greatest -/
def s104 (Ψ : AVal → Heap → Prop) (l_ : AVal) (h : Heap) : Prop :=
  callG prog 132 [l_] h fun v h_ =>
  tInt .i64 v fun v1 =>
  retG (.int .i64 v1) h_ Ψ

def s104_A (Ψ : AVal → Heap → Prop) : Ann :=
  .seq (rA 1)
  (.seq (rA 3)
  (.leaf))

theorem s104_ok {Ψ : AVal → Heap → Prop} {l_ : AVal} {h : Heap} (H : s104 Ψ l_ h) : ACalls prog 104 [l_] h Ψ :=
  calls_of_evF func104 (by kernel_rfl) (by kernel_rfl) (by kernel_rfl)
    (Eq.mpr (by as_aux_lemma => kernel_rfl : oblF prog f104 (s104_A Ψ) Ψ = (True ∧ True ∧ True)) ⟨trivial, ⟨trivial, trivial⟩⟩)
    (Eq.mpr (by as_aux_lemma => kernel_rfl : evF prog f104 (s104_A Ψ) Ψ [l_] h = s104 Ψ l_ h) H)

/- 110 (*dictum/dictumref03.T).Find -/
abbrev s110l1_T := AVal → AVal → Int → Heap → Prop
def s110l1_R (F : s110l1_T) (l : List AVal) (h : Heap) : Prop := J.cons l fun x0 l => J.cons l fun x1 l => J.cons l fun v l => J.int .i64 v fun x2 => J.nil l (F x0 x1 x2 h)
def s110l1_G (F : s110l1_T) (x0 x1 : AVal) (x2 : Int) (h : Heap) : Prop := gJ [.any, .any, .int .i64] [x0, x1, (.int .i64 x2)] h (s110l1_R F)
def s110l1_E (F : Nat → s110l1_T) (x0 x1 : AVal) (x2 : Int) (h : Heap) : Prop := gJ [.any, .any, .int .i64] [x0, x1, (.int .i64 x2)] h (fun l h => ∃ n, s110l1_R (F n) l h)
theorem s110l1_go {F : s110l1_T} {x0 x1 : AVal} {x2 : Int} {h : Heap} (H : F x0 x1 x2 h) : s110l1_G F x0 x1 x2 h := gJ_plain rfl H
theorem s110l1_in {F : Nat → s110l1_T} {x0 x1 : AVal} {x2 : Int} {h : Heap} (n : Nat) (H : F n x0 x1 x2 h) : s110l1_E F x0 x1 x2 h := gJ_plain rfl ⟨n, H⟩

def s110l1 (Ψ : AVal → Heap → Prop) : Nat → s110l1_T
  | 0, _, _, _, _ => False
  | n1 + 1, t1, n, i, h =>
    nilCheckA t1 fun p =>
    addOff p 0 fun p1 =>
    ld1 h p1 fun v =>
    lenN v fun n2 =>
    ifT (decide (i < n2)) (
      nilCheckA t1 fun p2 =>
      addOff p2 0 fun p3 =>
      ld1 h p3 fun v1 =>
      ixS 4 v1 i fun p4 =>
      ldN 4 h p4 fun l_ =>
      tCons l_ fun v2 l_1 =>
      tInt .i64 v2 fun v3 =>
      tCons l_1 fun v4 l_2 =>
      tStr v4 fun v5 =>
      tCons l_2 fun v6 l_3 =>
      tInt .i64 v6 fun v7 =>
      tCons l_3 fun v8 l_4 =>
      tInt .i64 v8 fun v9 =>
      tNil l_4 (
        ldN 4 h n fun l_5 =>
        tCons l_5 fun v10 l_6 =>
        tInt .i64 v10 fun v11 =>
        tCons l_6 fun v12 l_7 =>
        tStr v12 fun v13 =>
        tCons l_7 fun v14 l_8 =>
        tInt .i64 v14 fun v15 =>
        tCons l_8 fun v16 l_9 =>
        tInt .i64 v16 fun v17 =>
        tNil l_9 (
          eqQ prog 54 (.agg [(.int .i64 v3), (.str v5), (.int .i64 v7), (.int .i64 v9)]) (.agg [(.int .i64 v11), (.str v13), (.int .i64 v15), (.int .i64 v17)]) fun b =>
          ifT b (
            retG (.tuple [(.int .i64 i), (.bool true)]) h Ψ) (
            rg (i + 1) (
              s110l1_G (s110l1 Ψ n1) t1 n (i + 1) h))))) (
      retG (.tuple [(.int .i64 0), (.bool false)]) h Ψ)

def s110 (Ψ : AVal → Heap → Prop) (t : AVal) (n_Kind : Int) (n_Name : ByteArray) (n_L : Int) (n_R : Int) (h : Heap) : Prop :=
  s110l1_E (s110l1 Ψ) t (.lptr [(.int .i64 n_Kind), (.str n_Name), (.int .i64 n_L), (.int .i64 n_R)]) 0 h

def s110_A (Ψ : AVal → Heap → Prop) : Ann :=
  .seq (.reg [⟨none, [(0, true), (1, false), (2, false)]⟩])
  (.seq (.seq (rA 1)
  (.block (.loop [(0, .any), (3, .any), (6, .int .i64)] (fun n l h => s110l1_R (s110l1 Ψ n) l h) (fun L1 =>
  .seq (.seq (rA 7)
  (.cond (.leaf)
  (.leaf)))
  (.seq (.block (.seq (.draw [(0, false), (1, false), (2, false), (3, false), (4, false), (5, false), (6, false), (7, false), (8, false)] [0, 1, 3, 7, 0, 31, 63, 0, 255])
  (.cond (.seq (rA 3)
  (.leaf))
  (.leaf))))
  (rA 3))))))
  (.seq (rA 2)
  (.leaf)))

theorem s110_ok {Ψ : AVal → Heap → Prop} {t : AVal} {n_Kind : Int} {n_Name : ByteArray} {n_L : Int} {n_R : Int} {h : Heap} (H : s110 Ψ t n_Kind n_Name n_L n_R h) : ACalls prog 110 [t, (.agg [(.int .i64 n_Kind), (.str n_Name), (.int .i64 n_L), (.int .i64 n_R)])] h Ψ :=
  calls_of_evF func110 (by kernel_rfl) (by kernel_rfl) (by kernel_rfl)
    (Eq.mpr (by as_aux_lemma => kernel_rfl : oblF prog f110 (s110_A Ψ) Ψ = (True ∧ (True ∧ (∀ (h : Heap) (x0 x1 : AVal) (x2 : Int), ON (s110l1 Ψ 0 x0 x1 x2 h)) ∧ ∀ n1 : Nat, (∀ (h : Heap) (x0 x1 : AVal) (x2 : Int), OI (s110l1 Ψ (n1 + 1) x0 x1 x2 h)) ∧ ((True ∧ True ∧ True) ∧ (True ∧ (True ∧ True) ∧ True) ∧ True)) ∧ True ∧ True)) ⟨trivial, ⟨⟨trivial, ⟨fun _ _ _ _ H => H, fun _ => ⟨fun _ _ _ _ H => H, ⟨⟨trivial, ⟨trivial, trivial⟩⟩, ⟨⟨trivial, ⟨⟨trivial, trivial⟩, trivial⟩⟩, trivial⟩⟩⟩⟩⟩, ⟨trivial, trivial⟩⟩⟩)
    (Eq.mpr (by as_aux_lemma => kernel_rfl : evF prog f110 (s110_A Ψ) Ψ [t, (.agg [(.int .i64 n_Kind), (.str n_Name), (.int .i64 n_L), (.int .i64 n_R)])] h = s110 Ψ t n_Kind n_Name n_L n_R h) H)

/- 111 (*dictum/formula.Table).fits -/
def s111c1 (Ψ : AVal → Heap → Prop) (h : Heap) : Prop :=
  retG (.int .i64 0) h Ψ

def s111c2 (Ψ : AVal → Heap → Prop) (n : AVal) (t16 : Bool) (h : Heap) : Prop :=
  ifT t16 (
    retG (.int .i64 31) h Ψ) (
    addOff n 1 fun p =>
    ld1 h p fun v =>
    tStr v fun v1 =>
    callG prog 24 [(.str v1)] h fun v2 h_ =>
    tBool v2 fun v3 =>
    ifT (!v3) (
      retG (.int .i64 32) h_ Ψ) (
      s111c1 Ψ h_))

def s111c4 (Ψ : AVal → Heap → Prop) (t46 : Bool) (h : Heap) : Prop :=
  ifT t46 (
    retG (.int .i64 31) h Ψ) (
    s111c1 Ψ h)

def s111c3 (Ψ : AVal → Heap → Prop) (t1 n1 : AVal) (t26 : Bool) (h : Heap) : Prop :=
  ifT t26 (
    addOff n1 1 fun p1 =>
    ld1 h p1 fun v4 =>
    tStr v4 fun v5 =>
    ifT (!strEq v5 (ByteArray.mk #[])) (
      s111c4 Ψ true h) (
      addOff n1 2 fun p2 =>
      ld1 h p2 fun v6 =>
      tInt .i64 v6 fun v7 =>
      callG prog 75 [t1, (.int .i64 v7)] h fun v8 h_1 =>
      tBool v8 fun v9 =>
      ifT (!v9) (
        s111c4 Ψ true h_1) (
        addOff n1 3 fun p3 =>
        ld1 h_1 p3 fun v10 =>
        tInt .i64 v10 fun v11 =>
        callG prog 75 [t1, (.int .i64 v11)] h_1 fun v12 h_2 =>
        tBool v12 fun v13 =>
        s111c4 Ψ (!v13) h_2))) (
    retG (.int .i64 31) h Ψ)

def s111 (Ψ : AVal → Heap → Prop) (t : AVal) (n_Kind : Int) (n_Name : ByteArray) (n_L : Int) (n_R : Int) (h : Heap) : Prop :=
  ifT (n_Kind == 1) (
    ifT (n_L != 0) (
      s111c2 Ψ (.lptr [(.int .i64 n_Kind), (.str n_Name), (.int .i64 n_L), (.int .i64 n_R)]) true h) (
      s111c2 Ψ (.lptr [(.int .i64 n_Kind), (.str n_Name), (.int .i64 n_L), (.int .i64 n_R)]) (n_R != 0) h)) (
    ifT (n_Kind == 2) (
      eqQ prog 54 (.agg [(.int .i64 n_Kind), (.str n_Name), (.int .i64 n_L), (.int .i64 n_R)]) (.agg [(.int .i64 2), (.str (ByteArray.mk #[])), (.int .i64 0), (.int .i64 0)]) fun b =>
      ifT (!b) (
        retG (.int .i64 31) h Ψ) (
        s111c1 Ψ h)) (
      ifT (n_Kind == 3) (
        s111c3 Ψ t (.lptr [(.int .i64 n_Kind), (.str n_Name), (.int .i64 n_L), (.int .i64 n_R)]) (n_Kind == 3) h) (
        ifT (n_Kind == 4) (
          s111c3 Ψ t (.lptr [(.int .i64 n_Kind), (.str n_Name), (.int .i64 n_L), (.int .i64 n_R)]) (n_Kind == 4) h) (
          s111c3 Ψ t (.lptr [(.int .i64 n_Kind), (.str n_Name), (.int .i64 n_L), (.int .i64 n_R)]) (n_Kind == 5) h))))

def s111_A (Ψ : AVal → Heap → Prop) : Ann :=
  .seq (.reg [⟨none, [(0, true), (1, false)]⟩])
  (.cut [] (fun l h => J.nil l (s111c1 Ψ h)) (.seq (rA 2)
  (.block (.seq (rA 2)
  (.cond (.seq (.cut [(3, .any), (16, .bool)] (fun l h => J.cons l fun x0 l => J.cons l fun v l => J.bool v fun x1 => J.nil l (s111c2 Ψ x0 x1 h)) (.reg [⟨none, [(0, false), (1, false), (2, false), (3, false)]⟩, ⟨some (12, false), [(4, false), (5, false), (6, false)]⟩, ⟨none, [(7, false)]⟩])
  (.cond (.seq (rA 1)
  (.leaf))
  (.leaf)))
  (.seq (rA 4)
  (.cond (.seq (rA 1)
  (.leaf))
  (.leaf))))
  (.seq (rA 2)
  (.cond (.seq (rA 3)
  (.cond (.seq (rA 1)
  (.leaf))
  (.leaf)))
  (.cut [(0, .any), (3, .any), (26, .bool)] (fun l h => J.cons l fun x0 l => J.cons l fun x1 l => J.cons l fun v l => J.bool v fun x2 => J.nil l (s111c3 Ψ x0 x1 x2 h)) (.seq (rA 2)
  (.cond (.leaf)
  (.seq (rA 2)
  (.cond (.leaf)
  (rA 2)))))
  (.cond (.cut [(46, .bool)] (fun l h => J.cons l fun v l => J.bool v fun x0 => J.nil l (s111c4 Ψ x0 h)) (.reg [⟨none, [(0, false), (1, false), (2, false), (3, false)]⟩, ⟨some (33, false), [(4, false), (5, false), (6, false), (7, false), (8, false)]⟩, ⟨none, [(9, false), (10, false)]⟩, ⟨some (40, false), [(11, false), (12, false), (13, false), (14, false), (15, false)]⟩, ⟨none, [(16, false)]⟩])
  (.cond (.seq (rA 1)
  (.leaf))
  (.leaf)))
  (.seq (rA 1)
  (.leaf))))))))))
  (.seq (rA 1)
  (.leaf)))

theorem s111_ok {Ψ : AVal → Heap → Prop} {t : AVal} {n_Kind : Int} {n_Name : ByteArray} {n_L : Int} {n_R : Int} {h : Heap} (H : s111 Ψ t n_Kind n_Name n_L n_R h) : ACalls prog 111 [t, (.agg [(.int .i64 n_Kind), (.str n_Name), (.int .i64 n_L), (.int .i64 n_R)])] h Ψ :=
  calls_of_evF func111 (by kernel_rfl) (by kernel_rfl) (by kernel_rfl)
    (Eq.mpr (by as_aux_lemma => kernel_rfl : oblF prog f111 (s111_A Ψ) Ψ = (True ∧ (True ∧ True ∧ (((True) ∧ (∀ (h : Heap) (x0 : AVal) (x1 : Bool), OI (s111c2 Ψ x0 x1 h)) ∧ ((True ∧ True) ∧ True)) ∧ True ∧ (True ∧ True) ∧ True) ∧ True ∧ (True ∧ (True ∧ True) ∧ True) ∧ (True ∧ True ∧ True ∧ True ∧ True) ∧ (∀ (h : Heap) (x0 x1 : AVal) (x2 : Bool), OI (s111c3 Ψ x0 x1 x2 h)) ∧ (((True) ∧ (∀ (h : Heap) (x0 : Bool), OI (s111c4 Ψ x0 h)) ∧ ((True ∧ True) ∧ True)) ∧ True ∧ True)) ∧ (∀ (h : Heap), OI (s111c1 Ψ h)) ∧ (True ∧ True))) ⟨trivial, ⟨⟨trivial, ⟨trivial, ⟨⟨⟨trivial, fun _ _ _ H => H, ⟨⟨trivial, trivial⟩, trivial⟩⟩, ⟨trivial, ⟨⟨trivial, trivial⟩, trivial⟩⟩⟩, ⟨trivial, ⟨⟨trivial, ⟨⟨trivial, trivial⟩, trivial⟩⟩, ⟨⟨trivial, ⟨trivial, ⟨trivial, ⟨trivial, trivial⟩⟩⟩⟩, fun _ _ _ _ H => H, ⟨⟨trivial, fun _ _ H => H, ⟨⟨trivial, trivial⟩, trivial⟩⟩, ⟨trivial, trivial⟩⟩⟩⟩⟩⟩⟩⟩, fun _ H => H, ⟨trivial, trivial⟩⟩⟩)
    (Eq.mpr (by as_aux_lemma => kernel_rfl : evF prog f111 (s111_A Ψ) Ψ [t, (.agg [(.int .i64 n_Kind), (.str n_Name), (.int .i64 n_L), (.int .i64 n_R)])] h = s111 Ψ t n_Kind n_Name n_L n_R h) H)

/- 132 slices.Max[[]int,int] -/
abbrev s132l2_T := AVal → Int → Int → Heap → Prop
def s132l2_R (F : s132l2_T) (l : List AVal) (h : Heap) : Prop := J.cons l fun x0 l => J.cons l fun v l => J.int .i64 v fun x1 => J.cons l fun v l => J.int .i64 v fun x2 => J.nil l (F x0 x1 x2 h)
def s132l2_G (F : s132l2_T) (x0 : AVal) (x1 x2 : Int) (h : Heap) : Prop := gJ [.any, .int .i64, .int .i64] [x0, (.int .i64 x1), (.int .i64 x2)] h (s132l2_R F)
def s132l2_E (F : Nat → s132l2_T) (x0 : AVal) (x1 x2 : Int) (h : Heap) : Prop := gJ [.any, .int .i64, .int .i64] [x0, (.int .i64 x1), (.int .i64 x2)] h (fun l h => ∃ n, s132l2_R (F n) l h)
theorem s132l2_go {F : s132l2_T} {x0 : AVal} {x1 x2 : Int} {h : Heap} (H : F x0 x1 x2 h) : s132l2_G F x0 x1 x2 h := gJ_plain rfl H
theorem s132l2_in {F : Nat → s132l2_T} {x0 : AVal} {x1 x2 : Int} {h : Heap} (n : Nat) (H : F n x0 x1 x2 h) : s132l2_E F x0 x1 x2 h := gJ_plain rfl ⟨n, H⟩

def s132l2 (Ψ : AVal → Heap → Prop) : Nat → s132l2_T
  | 0, _, _, _, _ => False
  | n + 1, x2, m, i, h =>
    lenN x2 fun n1 =>
    ifT (decide (i < n1)) (
      ixS 1 x2 i fun p1 =>
      ld1 h p1 fun v2 =>
      tInt .i64 v2 fun v3 =>
      rg (i + 1) (
        s132l2_G (s132l2 Ψ n) x2 (max m v3) (i + 1) h)) (
      retG (.int .i64 m) h Ψ)

def s132c1 (Ψ : AVal → Heap → Prop) (x1 : AVal) (h : Heap) : Prop :=
  ixS 1 x1 0 fun p =>
  ld1 h p fun v =>
  tInt .i64 v fun v1 =>
  s132l2_E (s132l2 Ψ) x1 v1 1 h

def s132 (Ψ : AVal → Heap → Prop) (x : AVal) (h : Heap) : Prop :=
  lenN x fun n3 =>
  ifT (decide (n3 < 1)) (
    False) (
    s132c1 Ψ x h)

def s132_A (Ψ : AVal → Heap → Prop) : Ann :=
  .seq (rA 1)
  (.cut [(0, .any)] (fun l h => J.cons l fun x0 l => J.nil l (s132c1 Ψ x0 h)) (.seq (rA 3)
  (.cond (rA 2)
  (.leaf)))
  (.seq (rA 4)
  (.seq (.seq (rA 1)
  (.block (.loop [(0, .any), (3, .int .i64), (4, .int .i64)] (fun n l h => s132l2_R (s132l2 Ψ n) l h) (fun L2 =>
  .seq (.seq (rA 4)
  (.cond (.leaf)
  (.leaf)))
  (.seq (.block (rA 7))
  (rA 3))))))
  (.seq (rA 2)
  (.leaf)))))

theorem s132_ok {Ψ : AVal → Heap → Prop} {x : AVal} {h : Heap} (H : s132 Ψ x h) : ACalls prog 132 [x] h Ψ :=
  calls_of_evF func132 (by kernel_rfl) (by kernel_rfl) (by kernel_rfl)
    (Eq.mpr (by as_aux_lemma => kernel_rfl : oblF prog f132 (s132_A Ψ) Ψ = (True ∧ (True ∧ True ∧ True) ∧ (∀ (h : Heap) (x0 : AVal), OI (s132c1 Ψ x0 h)) ∧ (True ∧ (True ∧ (∀ (h : Heap) (x0 : AVal) (x1 x2 : Int), ON (s132l2 Ψ 0 x0 x1 x2 h)) ∧ ∀ n2 : Nat, (∀ (h : Heap) (x0 : AVal) (x1 x2 : Int), OI (s132l2 Ψ (n2 + 1) x0 x1 x2 h)) ∧ ((True ∧ True ∧ True) ∧ True ∧ True)) ∧ True ∧ True))) ⟨trivial, ⟨⟨trivial, ⟨trivial, trivial⟩⟩, fun _ _ H => H, ⟨trivial, ⟨⟨trivial, ⟨fun _ _ _ _ H => H, fun _ => ⟨fun _ _ _ _ H => H, ⟨⟨trivial, ⟨trivial, trivial⟩⟩, ⟨trivial, trivial⟩⟩⟩⟩⟩, ⟨trivial, trivial⟩⟩⟩⟩⟩)
    (Eq.mpr (by as_aux_lemma => kernel_rfl : evF prog f132 (s132_A Ψ) Ψ [x] h = s132 Ψ x h) H)

end Go.Proofs.YtobpfhmjdoekfaaGreat
